/- An event as a line. -/
import Derived.Test.YtleolfpgiaimfaaDoorDH
import Derived.Deep.RegionHeld3
namespace Go.Proofs.YtleolfpgiaimfaaDoor
set_option linter.unusedVariables false
set_option linter.unusedSimpArgs false
open Go.RowKit Go.Shelf

theorem FormsAt.below {w w' : World} {B clock : Nat} {es : Array MapEntry} (h : FormsAt w B es clock) (hb : Below w.heap.size w w') : FormsAt w' B es clock := by
  obtain ⟨hw, hes, hn, hall⟩ := h
  refine ⟨(hb.block B (Array.getElem?_eq_some_iff.1 hw).1).trans hw, fun e he => ?_, hn, hall⟩
  obtain ⟨k, g1, g2, g3⟩ := hes e he
  exact ⟨k, g1, g2.keep (KeepC.below hb), g3⟩

/-- a new form's cells -/
theorem form_new (W : World) : Row (W.alloc (.cells #[.string ⟨#[]⟩, .slice none 0 0] 40)) W.heap.size 40 [.string ⟨#[]⟩, .slice none 0 0] := Row.new W #[.string ⟨#[]⟩, .slice none 0 0] 40

set_option maxRecDepth 100000 in
set_option maxHeartbeats 2000000 in
theorem line_none (E : Ev) (A : Option Addr) (c : Nat) (w : World) (hf : formL E.kind = none) (hok : E.Ok) (hfit : E.body.length ≤ c) (hR : Rb w A E.body) (hG : Gt w) :
    Calls Tryd.prog 6 #[.agg (evl E (.slice A E.body.length c)).toArray] w fun e w' => e = .returned (.string (bs (lineL E))) ∧ Below w.heap.size w w' := by
  have hr0 : Row (w.alloc (.cells (evl E (.slice A E.body.length c)).toArray 28)) w.heap.size 28 (evl E (.slice A E.body.length c)) := Row.new w _ _
  have k0 := hr0.cell (j := 0) rfl
  have hB0 : Below w.heap.size w (w.alloc (.cells (evl E (.slice A E.body.length c)).toArray 28)) := (Below.refl _ w).alloc (Nat.le_refl _) _
  obtain ⟨X, hX⟩ : ∃ X, (evl E (.slice A E.body.length c)).toArray = X := ⟨_, rfl⟩
  have hx : lineL E = [63] := by unfold lineL; rw [hf]
  rw [hX] at k0 hB0 ⊢
  have HX := Lib.hid hX
  have HX2 := Lib.hid hx
  clear hX hx hr0
  obtain ⟨z, hz⟩ : ∃ z, E.kind = z := ⟨_, rfl⟩
  rw [hz] at k0 hf
  clear hz
  have hforms := forms_any
  have kz0 := fun W => (form_new W).cell (j := 0) rfl
  have kz1 := fun W => (form_new W).cell (j := 1) rfl
  have fz0 := fun W => (form_new W).frozen 0
  have fz1 := fun W => (form_new W).frozen 1
  go_enter Tryd.func6, Tryd.ntmps6
  go_upto_region 1 with fail
  obtain ⟨w1, hw1⟩ : ∃ w1, w.alloc (.cells X 28) = w1 := ⟨_, rfl⟩
  obtain ⟨b, hb⟩ : ∃ b, w.heap.size = b := ⟨_, rfl⟩
  rw [hw1] at k0 hB0 ⊢
  rw [hb] at k0 ⊢
  have kd : w1.drew.cell? ⟨b, 0, none⟩ = some (.int .i64 z) := k0
  have ltb : b < w1.heap.size := cell_lt k0
  have hne : w1.heap.size ≠ b := by omega
  have hBd : Below w1.heap.size w1 w1.drew := (Below.refl _ w1).drew
  clear hw1
  go_region_held3 (fun W => W.cell? ⟨b, 0, none⟩ = some (.int .i64 z)) (first | with_reducible assumption | exact cell_al _ (by with_reducible assumption) | exact (World.cell?_setCell_far _ _ _ _ hne).trans ((World.cell?_setCell_far _ _ _ _ hne).trans (by with_reducible assumption))) (first
    | (go_at_call 11; refine (hforms _).mono ?_; rintro e wf ⟨B, es, clock, rfl, hBf, hF, hbf⟩; have kf := (hbf.cell (p := ⟨b, 0, none⟩) (by first | exact ltb | (simp; omega))).trans (by first | with_reducible assumption | exact cell_al _ (by with_reducible assumption)); have hlook := look_miss hF hf; have hlook2 := fun o => look_miss (hF.below ((Below.refl _ wf).alloc (Nat.le_refl _) o)) hf; try (have m0 := (hbf.cell (p := ⟨w1.heap.size, 0, none⟩) (by simp)).trans (kz0 w1.drew); have m1 := (hbf.cell (p := ⟨w1.heap.size, 1, none⟩) (by simp)).trans (kz1 w1.drew); have m2 := (hbf.frozen (p := ⟨w1.heap.size, 0, none⟩) (by simp)).trans (fz0 w1.drew); have m3 := (hbf.frozen (p := ⟨w1.heap.size, 1, none⟩) (by simp)).trans (fz1 w1.drew))))
  all_goals
    go_wp2_with fail
    go_ret
    refine ⟨ret_str (by rw [HX2.out]; rfl), ?_⟩
    first
    | exact (hB0.drew.trans (hbf.mono hB0.drew.size)).alloc (by have h1 := hB0.size; have h2 := hbf.size; have h3 : w1.drew.heap.size = w1.heap.size := rfl; omega) _
    | exact (((hB0.alloc hB0.size _).drew.trans (hbf.mono (hB0.alloc hB0.size _).drew.size)).setCell (by have h1 := hB0.size; exact h1) _).setCell (by have h1 := hB0.size; exact h1) _
end Go.Proofs.YtleolfpgiaimfaaDoor
