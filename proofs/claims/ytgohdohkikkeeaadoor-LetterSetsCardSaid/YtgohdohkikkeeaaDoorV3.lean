/- slices.Clone, wherever the row lies; letter's Get, All, Drop. -/
import Derived.Test.YtgohdohkikkeeaaDoorV2
import Derived.Deep.RegionHeld3
import Derived.Deep.RegionHeld
namespace Go.Proofs.YtgohdohkikkeeaaDoor
set_option linter.unusedVariables false
set_option linter.unusedSimpArgs false
open Go.RowKit

/-- a copy in memory of its own -/
def ClOut (t : TypeId) (size n : Nat) (xs : List Value) (w : World) (e : Ending) (w' : World) : Prop := ∃ v, e = .returned v ∧ w'.ownsRow w.heap.size t size v n xs ∧ Below w.heap.size w w'

theorem strv_one (fs : List (List UInt8 × List UInt8)) : ∀ u ∈ fcells fs, u.oneCell' = true := by
  intro u hu
  unfold fcells at hu
  obtain ⟨p, _, hp⟩ := List.mem_flatMap.1 hu
  simp at hp
  rcases hp with rfl | rfl <;> rfl
theorem Src_rf {w : World} {A : Option Addr} {fs : List (List UInt8 × List UInt8)} {n c : Nat} (hn : fs.length = n) (h : Rf w A fs) : Src Tryd.prog 2 22 (.slice A n c) n (fcells fs) w :=
  Src_rv (e' := 28) Tryd.underlying22 (by rw [fcells_len, hn]) h (strv_one fs) (by omega)

set_option maxRecDepth 100000 in
set_option maxHeartbeats 400000 in
theorem clonef_any (A : Option Addr) (fs : List (List UInt8 × List UInt8)) (n c : Nat) (w : World) (hn : fs.length = n) (hA : Rf w A fs) (hb : n ≤ 1000000) :
    Calls Tryd.prog 43 #[.slice A n c] w (ClOut 28 2 n (fcells fs) w) := by
  have hpu : ∀ W, Sem.run Tryd.prog (pure #[] : Sem (Array Value)) W = .ok #[] W := fun _ => rfl
  have hst : ∀ a W, Sem.run Tryd.prog (storeCells a []) W = .ok () W := fun _ _ => rfl
  have hq := fun (w : World) (a : Option Addr) (n c n' c' : Nat) => Lib.run_eql_slice_nil (P := Tryd.prog) w _ _ a n c n' c' Tryd.underlying22
  have hown0 := World.ownsRow_made (base := w.heap.size) (e := 28) (size := 2) w #[] 0 (Nat.le_refl _) (by unfold maxLen; omega) rfl
  have hB0 : Below w.heap.size w (w.alloc (.cells #[] 28)) := (Below.refl _ _).alloc (Nat.le_refl _) _
  rcases A with _ | a
  · have h0 : n = 0 ∨ 0 < n := by omega
    rcases h0 with h0 | h0
    · subst h0
      have hf : fs = [] := List.eq_nil_of_length_eq_zero hn
      subst hf
      go_enter Tryd.func43, Tryd.ntmps43
      go_wp2_with fail
      go_ret
      exact ⟨_, rfl, World.ownsRow_nil _ _ _ _, Below.refl _ _⟩
    · obtain ⟨b, o, e, _⟩ := hA (by rw [fcells_len]; omega)
      cases e
  · have HN := Lib.hid hn
    clear hn
    go_enter Tryd.func43, Tryd.ntmps43
    go_wp2_with (at_builtin; refine wpList_app rfl _ _ _ _ rfl TField hown0 rfl (Src_rf HN.out (hA.below hB0)) rfl (by omega) hB0.size ?_; intro v6 w6 hown6 hgr6 hat6; have hB6 := below_app hB0 hown0 hgr6 hB0.size (Nat.le_refl _))
    go_ret
    exact ⟨_, rfl, by simpa using hown6, hB6⟩
set_option maxRecDepth 100000 in
set_option maxHeartbeats 400000 in
theorem cloneb_any (A : Option Addr) (l : List UInt8) (n c : Nat) (w : World) (hn : l.length = n) (hA : Rb w A l) (hb : n ≤ 1000000000) :
    Calls Tryd.prog 35 #[.slice A n c] w (ClOut 5 1 n (l.map bv) w) := by
  have hpu : ∀ W, Sem.run Tryd.prog (pure #[] : Sem (Array Value)) W = .ok #[] W := fun _ => rfl
  have hst : ∀ a W, Sem.run Tryd.prog (storeCells a []) W = .ok () W := fun _ _ => rfl
  have hq := fun (w : World) (a : Option Addr) (n c n' c' : Nat) => Lib.run_eql_slice_nil (P := Tryd.prog) w _ _ a n c n' c' Tryd.underlying23
  have hown0 := World.ownsRow_made (base := w.heap.size) (e := 5) (size := 1) w #[] 0 (Nat.le_refl _) (by unfold maxLen; omega) rfl
  have hB0 : Below w.heap.size w (w.alloc (.cells #[] 5)) := (Below.refl _ _).alloc (Nat.le_refl _) _
  rcases A with _ | a
  · have h0 : n = 0 ∨ 0 < n := by omega
    rcases h0 with h0 | h0
    · subst h0
      have hf : l = [] := List.eq_nil_of_length_eq_zero hn
      subst hf
      go_enter Tryd.func35, Tryd.ntmps35
      go_wp2_with fail
      go_ret
      exact ⟨_, rfl, World.ownsRow_nil _ _ _ _, Below.refl _ _⟩
    · obtain ⟨b, o, e, _⟩ := hA (by rw [List.length_map]; omega)
      cases e
  · have HN := Lib.hid hn
    clear hn
    go_enter Tryd.func35, Tryd.ntmps35
    go_wp2_with (at_builtin; refine wpList_app rfl _ _ _ _ rfl TU8 hown0 rfl (Src_rb Tryd.underlying23 HN.out (hA.below hB0)) rfl (by omega) hB0.size ?_; intro v6 w6 hown6 hgr6 hat6; have hB6 := below_app hB0 hown0 hgr6 hB0.size (Nat.le_refl _))
    go_ret
    exact ⟨_, rfl, by simpa using hown6, hB6⟩

theorem cell_far2 {w : World} {a b p : Addr} {u t v : Value} (h : w.cell? p = some v) (ha : a.block ≠ p.block) (hb : b.block ≠ p.block) : ((w.setCell a u).setCell b t).cell? p = some v := by
  rw [World.cell?_setCell_other _ _ _ _ (fun e => hb (by rw [e])), World.cell?_setCell_other _ _ _ _ (fun e => ha (by rw [e]))]
  exact h
/-- what Drop answers -/
def DropOut (nm : List UInt8) (fs : List (List UInt8 × List UInt8)) (bd : List UInt8) (w : World) (e : Ending) (w' : World) : Prop :=
  ∃ v1 v2, e = .returned (.agg #[v1, v2]) ∧ w'.ownsRow w.heap.size 28 2 v1 (keepF nm fs).length (fcells (keepF nm fs)) ∧ w'.ownsRow w.heap.size 5 1 v2 bd.length (bd.map bv) ∧ (v2.ownBlock = none ∨ v2.ownBlock ≠ v1.ownBlock) ∧ Below w.heap.size w w'

set_option maxRecDepth 100000 in
set_option maxHeartbeats 2000000 in
theorem drop_any (A A2 : Option Addr) (fs : List (List UInt8 × List UInt8)) (bd nm : List UInt8) (n c n2 c2 : Nat) (w : World) (hn : fs.length = n) (hn2 : bd.length = n2) (hA : Rf w A fs) (hA2 : Rb w A2 bd)
    (hT : Lib.Utf8Tabs 1 2 w) (hnm : nm.length ≤ 1000000000) (hb : n ≤ 1000000) (hb2 : n2 ≤ 1000000000) :
    Calls Tryd.prog 24 #[.agg #[.slice A n c, .slice A2 n2 c2], .string (bs nm)] w (DropOut nm fs bd w) := by
  have HN := Lib.hid hn
  have HN2 := Lib.hid hn2
  clear hn hn2
  go_enter Tryd.func24, Tryd.ntmps24
  go_wp2_with fail
  have hB0 : Below w.heap.size w ((w.alloc (.cells #[.slice A n c, .slice A2 n2 c2] 41)).alloc (.cells #[.slice none 0 0, .slice none 0 0] 41)) := ((Below.refl _ _).alloc (Nat.le_refl _) _).alloc (by simp) _
  have r0 : Row ((w.alloc (.cells #[.slice A n c, .slice A2 n2 c2] 41)).alloc (.cells #[.slice none 0 0, .slice none 0 0] 41)) w.heap.size 41 [.slice A n c, .slice A2 n2 c2] := (Row.new w #[.slice A n c, .slice A2 n2 c2] 41).alloc _
  have r1 : Row ((w.alloc (.cells #[.slice A n c, .slice A2 n2 c2] 41)).alloc (.cells #[.slice none 0 0, .slice none 0 0] 41)) (w.heap.size + 1) 41 [.slice none 0 0, .slice none 0 0] := by
    have := Row.new (w.alloc (.cells #[.slice A n c, .slice A2 n2 c2] 41)) #[.slice none 0 0, .slice none 0 0] 41
    simpa using this
  have hs0 : w.heap.size + 2 ≤ ((w.alloc (.cells #[.slice A n c, .slice A2 n2 c2] 41)).alloc (.cells #[.slice none 0 0, .slice none 0 0] 41)).heap.size := by simp
  generalize (w.alloc (.cells #[.slice A n c, .slice A2 n2 c2] 41)).alloc (.cells #[.slice none 0 0, .slice none 0 0] 41) = W0 at *
  have c00 : W0.cell? ⟨w.heap.size, 0, none⟩ = some (.slice A n c) := r0.cell rfl
  have c01 : W0.cell? ⟨w.heap.size, 1, none⟩ = some (.slice A2 n2 c2) := r0.cell rfl
  go_region_held3 (fun w' => w'.cell? ⟨w.heap.size, 0, none⟩ = some (.slice A n c) ∧ w'.cell? ⟨w.heap.size, 1, none⟩ = some (.slice A2 n2 c2)) (first | exact ⟨by assumption, by assumption⟩ | exact ⟨cell_far2 (by assumption) (by simp) (by simp), cell_far2 (by assumption) (by simp) (by simp)⟩)
    (first
    | (go_at_call 43; refine (clonef_any A fs n c _ HN.out (hA.below hB0.drew) hb).mono ?_; rintro e w3 ⟨v3, rfl, hown3, hb3⟩; obtain ⟨A3, c3, rfl, _, _, _, _⟩ := own_form hown3; have hC3 : Below W0.heap.size W0 w3 := (Dn.below (Dn.refl W0).drew _).trans hb3; have c30 := (hC3.cell (p := ⟨w.heap.size, 0, none⟩) (cell_lt c00)).trans c00; have c31 := (hC3.cell (p := ⟨w.heap.size, 1, none⟩) (cell_lt c01)).trans c01)
    | (go_at_call 40; refine (named_any nm _).mono ?_; rintro e w4 ⟨rfl, rfl⟩; have hC4 : Below W0.heap.size W0 (w3.alloc (.cells #[.string (bs nm)] 9)) := hC3.alloc hC3.size _; have c40 := (hC4.cell (p := ⟨w.heap.size, 0, none⟩) (cell_lt c00)).trans c00; have c41 := (hC4.cell (p := ⟨w.heap.size, 1, none⟩) (cell_lt c01)).trans c01)
    | (go_at_call 42; refine (delete_any fs A3 n c3 w3.heap.size nm w _ HN.out (own_base (hown3.alloc _) (by simp; omega)) (hB0.trans (hC4.mono hB0.size)) hT (by simp) (fun o e => by have := (hown3.lt w3.heap.size (by rw [e]; rfl)).2; omega) hnm hb).mono ?_; rintro e w5 ⟨v5, rfl, hown5, hgr5, hat5⟩; obtain ⟨A5, c5, rfl, _, _, _, _⟩ := own_form hown5; have hC5 : Below W0.heap.size W0 w5 := hC4.grown hgr5 hC4.size (fun j hj => (hown3.lt j hj).1); have c50 := (hC5.cell (p := ⟨w.heap.size, 0, none⟩) (cell_lt c00)).trans c00; have c51 := (hC5.cell (p := ⟨w.heap.size, 1, none⟩) (cell_lt c01)).trans c01)
    | (go_at_call 35; refine (cloneb_any A2 bd n2 c2 _ HN2.out (hA2.below (hB0.trans (hC5.mono hB0.size))) hb2).mono ?_; rintro e w6 ⟨v6, rfl, hown6, hb6⟩; obtain ⟨A6, c6, rfl, _, _, _, _⟩ := own_form hown6; have hC6 : Below W0.heap.size W0 w6 := hC5.trans (hb6.mono hC5.size); have c60 := (hC6.cell (p := ⟨w.heap.size, 0, none⟩) (cell_lt c00)).trans c00; have c61 := (hC6.cell (p := ⟨w.heap.size, 1, none⟩) (cell_lt c01)).trans c01; have r6 := r1.below hC6; have d60 := r6.cell (j := 0) rfl; have d61 := r6.cell (j := 1) rfl; have f60 := r6.frozen 0; have f61 := r6.frozen 1))
  go_wp2_with fail
  have e0 := ((r6.set 0 (.slice A5 (keepF nm fs).length c5)).set 1 (.slice A6 n2 c6)).cell (j := 0) rfl
  have e1 := ((r6.set 0 (.slice A5 (keepF nm fs).length c5)).set 1 (.slice A6 n2 c6)).cell (j := 1) rfl
  have l5 : ∀ k, (Value.slice A5 (keepF nm fs).length c5).ownBlock = some k → W0.heap.size ≤ k ∧ k < w5.heap.size := fun k hk => ⟨(hown3.lt k (by rw [← hat5]; exact hk)).1, (hown5.lt k hk).2⟩
  have l6 := hown6.lt
  have hs6 := hC5.size
  have g1 : w6.grownBy ((w6.setCell ⟨w.heap.size + 1, 0, none⟩ (.slice A5 (keepF nm fs).length c5)).setCell ⟨w.heap.size + 1, 1, none⟩ (.slice A6 n2 c6)) (some (w.heap.size + 1)) := (grown_set _ ⟨w.heap.size + 1, 0, none⟩ _).trans (grown_set _ ⟨w.heap.size + 1, 1, none⟩ _)
  have n5 : (Value.slice A5 (keepF nm fs).length c5).ownBlock ≠ some (w.heap.size + 1) := fun e => by have := (l5 _ e).1; omega
  have n6 : (Value.slice A6 n2 c6).ownBlock ≠ some (w.heap.size + 1) := fun e => by have := (l6 _ e).1; omega
  have n56 : (Value.slice A6 n2 c6).ownBlock = none ∨ (Value.slice A6 n2 c6).ownBlock ≠ (Value.slice A5 (keepF nm fs).length c5).ownBlock := by
    cases h : (Value.slice A6 n2 c6).ownBlock with
    | none => exact .inl rfl
    | some k => exact .inr fun e => by have := (l6 k h).1; have := (l5 k e.symm).2; omega
  exact bodyPost_ret (v := .agg #[.slice A5 (keepF nm fs).length c5, .slice A6 n2 c6]) (by simp [results, Tryd.results24, go_sem, e0, e1]) rfl
    ⟨_, _, rfl, (own_below hown5 hb6).kept g1 (.inr n5), by rw [HN2.out]; exact (own_base hown6 (by omega)).kept g1 (.inr n6), n56, (hB0.trans (hC6.mono hB0.size)).grown g1 (hB0.trans (hC6.mono hB0.size)).size (fun j hj => by have := Option.some.inj hj; omega)⟩
end Go.Proofs.YtgohdohkikkeeaaDoor
