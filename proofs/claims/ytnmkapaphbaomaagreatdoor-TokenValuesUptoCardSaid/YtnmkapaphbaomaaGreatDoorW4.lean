/- sync.Once, not yet done: the table is built. -/
import Derived.Test.YtnmkapaphbaomaaGreatDoorW2
namespace Go.Proofs.YtnmkapaphbaomaaGreatDoor
set_option linter.unusedVariables false
set_option linter.unusedSimpArgs false
open Go.RowKit

set_option maxHeartbeats 800000 in
theorem bload_any (R : Nat) (x : Int) (w : World) (hc : w.cell? ⟨R, 0, none⟩ = some (.int .u32 x)) :
    Calls Tryz.prog 70 #[.pointer (some ⟨R, 0, none⟩)] w fun e w' => e = .returned (.bool (x != 0)) ∧ w' = w := by
  have hl := run_call_load (P := Tryz.prog) Tryz.func86 (by kernel_rfl) (by kernel_rfl) (by kernel_rfl) .u32 (by kernel_rfl) hc
  go_enter Tryz.func70, Tryz.ntmps70
  go_wp2_with fail
  go_ret
  exact ⟨rfl, rfl⟩
set_option maxRecDepth 100000 in
set_option maxHeartbeats 3200000 in
theorem slow_any (R : Nat) (A : Option Addr) (c : Nat) (w : World) (hR : Row w R 88 [.int .u32 0, .int .i32 0, .int .u32 0, .nilIface, .slice A 4 c]) (hA : Rv w A (rep4.map sv)) (hAR : ∀ b o, A = some ⟨b, o, none⟩ → b ≠ R) (hc4 : 4 ≤ c) :
    Calls Tryz.prog 71 #[.pointer (some ⟨R, 0, none⟩), .func (.func 52) #[.pointer (some ⟨R, 0, none⟩)] #[]] w fun e w' => e = .returned (.tuple #[]) ∧ ∃ b w1, Below w.heap.size (w.setCell ⟨R, 1, none⟩ (.int .i32 1)) w1 ∧ Built w.heap.size w1 b ∧
      w' = (((w1.setCell ⟨R, 3, none⟩ (.iface 127 (.pointer (some ⟨b, 0, none⟩)))).setCell ⟨R, 4, none⟩ (.slice none 0 0)).drew.setCell ⟨R, 0, none⟩ (.int .u32 1)).setCell ⟨R, 1, none⟩ (.int .i32 0) := by
  have k1 := hR.cell (j := 1) rfl
  have f1 := hR.frozen 1
  have hR1 := hR.set 1 (.int .i32 1)
  have hl := bload_any R 0 (w.setCell ⟨R, 1, none⟩ (.int .i32 1)) (hR1.cell (j := 0) rfl)
  have hA1 : Rv (w.setCell ⟨R, 1, none⟩ (.int .i32 1)) A (rep4.map sv) := fun hp => by
    obtain ⟨b, o, e, hc⟩ := hA hp
    exact ⟨b, o, e, fun i u hi => (World.cell?_setCell_other _ _ _ _ (by intro e2; exact hAR b o e (congrArg Addr.block e2).symm)).trans (hc i u hi)⟩
  have hbo := buildOnce_any R A c (w.setCell ⟨R, 1, none⟩ (.int .i32 1)) hR1 hA1 hc4
  rw [show (w.setCell ⟨R, 1, none⟩ (.int .i32 1)).heap.size = w.heap.size by simp] at hbo
  have hnot : ∀ (x : Bool) (w : World), (Op.unary .not (.bool x)).run Tryz.prog w = .ok (.bool (!x)) w := fun _ _ => rfl
  go_enter_defers Tryz.func71, Tryz.ntmps71
  go_wp2_with (first
    | (go_at_call 87; refine (lock_free ⟨R, 1, none⟩ _ k1 f1).mono ?_; rintro e w' ⟨rfl, rfl⟩)
    | (go_at_call 70; refine hl.mono ?_; rintro e w' ⟨rfl, rfl⟩))
  refine hbo.mono ?_
  rintro e w2 ⟨rfl, b, w1, hb1, hbu, rfl⟩
  have hbl := hbu.lt
  obtain ⟨hbN⟩ : Nonempty (w.heap.size ≤ b) := by
    obtain ⟨L, x, c1, y, c2, z, c3, _, _, _, _, _, b1, _⟩ := hbu
    exact ⟨b1⟩
  have hRl : R < w.heap.size := hR.lt
  have hR2 := hR1.below (by rw [show (w.setCell ⟨R, 1, none⟩ (.int .i32 1)).heap.size = w.heap.size by simp]; exact hb1)
  have hR3 := (hR2.set 3 (.iface 127 (.pointer (some ⟨b, 0, none⟩)))).set 4 (.slice none 0 0)
  go_wp2
  -- the door: two deferred calls, the last laid first
  refine leaves_cons (f := 89) (args := #[.pointer (some ⟨R, 0, none⟩), .bool true]) (by simp) (by simp [go_sem]) ?_
  refine (store_deferred ⟨R, 0, none⟩ (.int .u32 0) .returning _ (hR3.cell (j := 0) rfl) (hR3.frozen 0)).mono ?_
  rintro e u' w'' ⟨rfl, rfl, rfl⟩
  have hR4 := Row.set (w := ((w1.setCell ⟨R, 3, none⟩ (.iface 127 (.pointer (some ⟨b, 0, none⟩)))).setCell ⟨R, 4, none⟩ (.slice none 0 0)).drew) hR3 0 (.int .u32 1)
  refine leaves_cons (f := 88) (args := #[.pointer (some ⟨R, 1, none⟩)]) (by simp [settle]) (by simp [go_sem]) ?_
  refine (unlock_deferred ⟨R, 1, none⟩ _ _ (hR4.cell (j := 1) rfl) (hR4.frozen 1)).mono ?_
  rintro e u' w'' ⟨rfl, rfl, rfl⟩
  simp only [Leaves, settle, results, Tryz.results71]
  refine ⟨.tuple #[], by simp, rfl, b, w1, hb1, hbu, rfl⟩

set_option maxRecDepth 100000 in
set_option maxHeartbeats 3200000 in
theorem once_any (R : Nat) (A : Option Addr) (c : Nat) (w : World) (hR : Row w R 88 [.int .u32 0, .int .i32 0, .int .u32 0, .nilIface, .slice A 4 c]) (hA : Rv w A (rep4.map sv)) (hAR : ∀ b o, A = some ⟨b, o, none⟩ → b ≠ R) (hc4 : 4 ≤ c) :
    Calls Tryz.prog 51 #[.pointer (some ⟨R, 0, none⟩), .func (.func 52) #[.pointer (some ⟨R, 0, none⟩)] #[]] w fun e w' => e = .returned (.tuple #[]) ∧ ∃ b, Built w.heap.size w' b ∧ w'.cell? ⟨R, 3, none⟩ = some (.iface 127 (.pointer (some ⟨b, 0, none⟩))) ∧ ∀ B, B ≤ R → Below B w w' := by
  have hl := bload_any R 0 w (hR.cell (j := 0) rfl)
  have hs := slow_any R A c w hR hA hAR hc4
  have hRl : R < w.heap.size := hR.lt
  go_enter Tryz.func51, Tryz.ntmps51
  go_wp2_with (first
    | (go_at_call 70; refine hl.mono ?_; rintro e w' ⟨rfl, rfl⟩)
    | (go_at_call 71; refine hs.mono ?_; rintro e w2 ⟨rfl, b, w1, hb1, hbu, rfl⟩))
  first | go_end0 | (simp only [Exit.inBlock, Exit.then]; refine bodyPost_ret (results_none rfl _ _ _) rfl ?_) | refine bodyPost_ret (results_none rfl _ _ _) rfl ?_
  have hR1 := hR.set 1 (.int .i32 1)
  have hR2 := hR1.below (w' := w1) (by rw [show (w'.setCell ⟨R, 1, none⟩ (.int .i32 1)).heap.size = w'.heap.size by simp]; exact hb1)
  have hR3 := (hR2.set 3 (.iface 127 (.pointer (some ⟨b, 0, none⟩)))).set 4 (.slice none 0 0)
  have hR5 := (hR3.set 0 (.int .u32 1)).set 1 (.int .i32 0)
  refine ⟨rfl, b, ?_, (hR5.cell (j := 3) rfl), fun B hB => ?_⟩
  · have h1 := (((hbu.far hRl 3 (.iface 127 (.pointer (some ⟨b, 0, none⟩)))).far hRl 4 (.slice none 0 0)).far hRl 0 (.int .u32 1)).far hRl 1 (.int .i32 0)
    exact h1.below (Below.refl _ _).drew
  · have h0 : Below B w' (w'.setCell ⟨R, 1, none⟩ (.int .i32 1)) := (Below.refl B w').setCell (p := ⟨R, 1, none⟩) hB _
    have h1 : Below B w' w1 := h0.trans (hb1.mono (by omega))
    exact ((((h1.setCell (p := ⟨R, 3, none⟩) hB _).setCell (p := ⟨R, 4, none⟩) hB _).setCell (p := ⟨R, 0, none⟩) hB _).setCell (p := ⟨R, 1, none⟩) hB _).drew
end Go.Proofs.YtnmkapaphbaomaaGreatDoor
