/- The program's change at a kind that changes nothing. · The program's change at kind 4: the letters of one field's name, among many. -/
import Derived.Test.YtcagkoakbdbbaaaGreatDoorJ19
namespace Go.Proofs.YtcagkoakbdbbaaaGreatDoor
set_option linter.unusedVariables false
set_option linter.unusedSimpArgs false
open Go.RowKit

set_option maxRecDepth 100000 in
set_option maxHeartbeats 1000000 in
theorem change_none (Af Ae Ab : Option Addr) (fs : List (List UInt8)) (B n cf ce cb m k : Nat) (z N M : Int) (T : ByteArray) (w : World) (hF : FR w B (.slice Af n cf) fs) (hB : B ≤ w.heap.size) (hn0 : 0 < n) (hn1 : n ≤ 1000000) (hN : -9223372036854775808 ≤ N ∧ N ≤ 9223372036854775807)
    (z3 : z ≠ 3) (z4 : z ≠ 4) (z5 : z ≠ 5) (z7 : z ≠ 7) (z8 : z ≠ 8) :
    Calls Tryz.prog 21 #[.agg #[.slice Af n cf, .slice Ae m ce, .slice Ab k cb], .agg #[.int .i64 z, .int .i64 N, .int .i64 M, .string T]] w fun e w' => e = .returned (.agg #[.slice Af n cf, .slice Ae m ce, .slice Ab k cb]) ∧ Below w.heap.size w w' := by
  obtain ⟨vs, ho, he⟩ := hF
  obtain ⟨_, _, e9, hnc, _, hRv, hvl⟩ := own_form ho
  cases e9
  obtain ⟨at', hat⟩ : ∃ a : Nat, N % (fs.length : Int) = (a : Int) := ⟨(N % (fs.length : Int)).toNat, by have := Int.emod_nonneg N (by omega : (fs.length : Int) ≠ 0); omega⟩
  have hatl : at' < fs.length := by have := Int.emod_lt_of_pos N (by omega : (0 : Int) < (fs.length : Int)); omega
  obtain ⟨nf, hnf⟩ : ∃ nf, fs.length = nf := ⟨_, rfl⟩
  obtain ⟨f, hf⟩ : ∃ f, fs[at']? = some f := ⟨_, List.getElem?_eq_getElem hatl⟩
  obtain ⟨bz, oz, cz, hvz, _⟩ := he at' f hf
  obtain ⟨bg, og, x9, rfl, hx9, hcg⟩ := hRv.one (k := at') (by omega)
  have hx10 := hx9.out
  rw [hvz] at hx10
  cases hx10
  rw [hnf] at hn0 hn1 hat hatl ⊢
  obtain ⟨W3, hW3⟩ : ∃ W3, ((w.alloc (.cells #[.slice (some ⟨bg, og, none⟩) nf cf, .slice Ae m ce, .slice Ab k cb] 49)).alloc (.cells #[.int .i64 z, .int .i64 N, .int .i64 M, .string T] 26)).alloc (.cells #[.slice none 0 0, .slice none 0 0, .slice none 0 0] 49) = W3 := ⟨_, rfl⟩
  have hb3 : Below w.heap.size w W3 := by rw [← hW3]; exact (((Below.refl _ w).alloc (Nat.le_refl _) _).alloc (by simp) _).alloc (by simp; omega) _
  have r1 : Row W3 w.heap.size 49 [.slice (some ⟨bg, og, none⟩) nf cf, .slice Ae m ce, .slice Ab k cb] := by rw [← hW3]; exact ((Row.new w _ _).alloc _).alloc _
  have r2 : Row W3 (w.heap.size + 1) 26 [.int .i64 z, .int .i64 N, .int .i64 M, .string T] := by
    have h := (Row.new (w.alloc (.cells #[.slice (some ⟨bg, og, none⟩) nf cf, .slice Ae m ce, .slice Ab k cb] 49)) #[.int .i64 z, .int .i64 N, .int .i64 M, .string T] 26).alloc (.cells #[.slice none 0 0, .slice none 0 0, .slice none 0 0] 49)
    rw [World.size_alloc, hW3] at h
    exact h
  have r3 : Row W3 (w.heap.size + 1 + 1) 49 [.slice none 0 0, .slice none 0 0, .slice none 0 0] := by
    have h := Row.new ((w.alloc (.cells #[.slice (some ⟨bg, og, none⟩) nf cf, .slice Ae m ce, .slice Ab k cb] 49)).alloc (.cells #[.int .i64 z, .int .i64 N, .int .i64 M, .string T] 26)) #[.slice none 0 0, .slice none 0 0, .slice none 0 0] 49
    rw [World.size_alloc, World.size_alloc, hW3] at h
    exact h
  have hcg3 := (hb3.cell (cell_lt hcg)).trans hcg
  have a0 := r1.cell (j := 0) rfl
  have a1 := r1.cell (j := 1) rfl
  have a2 := r1.cell (j := 2) rfl
  have x0 := r2.cell (j := 0) rfl
  have x1 := r2.cell (j := 1) rfl
  have s0 := r3.cell (j := 0) rfl
  have s1 := r3.cell (j := 1) rfl
  have s2 := r3.cell (j := 2) rfl
  have y0 := r3.frozen 0
  have y1 := r3.frozen 1
  have y2 := r3.frozen 2
  have hre := rest_any N nf W3 hn0 hn1 hN
  rw [hat] at hre
  have q3 : (z == 3) = false := by rw [beq_eq_false_iff_ne]; exact z3
  have q4 : (z == 4) = false := by rw [beq_eq_false_iff_ne]; exact z4
  have q5 : (z == 5) = false := by rw [beq_eq_false_iff_ne]; exact z5
  have q7 : (z == 7) = false := by rw [beq_eq_false_iff_ne]; exact z7
  have q8 : (z == 8) = false := by rw [beq_eq_false_iff_ne]; exact z8
  have p6 := ((r3.set 0 (.slice (some ⟨bg, og, none⟩) nf cf)).set 1 (.slice Ae m ce)).set 2 (.slice Ab k cb)
  have B9 := ((hb3.setCell (p := ⟨w.heap.size + 1 + 1, 0, none⟩) (by simp; omega) (.slice (some ⟨bg, og, none⟩) nf cf)).setCell (p := ⟨w.heap.size + 1 + 1, 1, none⟩) (by simp; omega) (.slice Ae m ce)).setCell (p := ⟨w.heap.size + 1 + 1, 2, none⟩) (by simp; omega) (.slice Ab k cb)
  clear hat hnf hf hvz hx9 hcg hRv he ho hvl z3 z4 z5 z7 z8
  go_enter Tryz.func21, Tryz.ntmps21
  go_upto_region 1 with fail
  go_wp2_with fail
  refine hre.mono ?_
  rintro e w4 ⟨rfl, rfl⟩
  go_wp2_with fail
  obtain ⟨W9, hW9⟩ : ∃ W9, ((w4.setCell ⟨w.heap.size + 1 + 1, 0, none⟩ (.slice (some ⟨bg, og, none⟩) nf cf)).setCell ⟨w.heap.size + 1 + 1, 1, none⟩ (.slice Ae m ce)).setCell ⟨w.heap.size + 1 + 1, 2, none⟩ (.slice Ab k cb) = W9 := ⟨_, rfl⟩
  rw [hW9] at p6 B9 ⊢
  have e0 := p6.cell (j := 0) rfl
  have e1 := p6.cell (j := 1) rfl
  have e2 := p6.cell (j := 2) rfl
  exact bodyPost_ret (v := .agg #[.slice (some ⟨bg, og, none⟩) nf cf, .slice Ae m ce, .slice Ab k cb]) (by simp [results, Tryz.results21, go_sem, e0, e1, e2]) rfl ⟨rfl, B9⟩
end Go.Proofs.YtcagkoakbdbbaaaGreatDoor

namespace Go.Proofs.YtcagkoakbdbbaaaGreatDoor
set_option linter.unusedVariables false
set_option linter.unusedSimpArgs false
open Go.RowKit

set_option maxRecDepth 100000 in
set_option maxHeartbeats 1000000 in
theorem change_case (Af Ae Ab : Option Addr) (fs : List (List UInt8)) (B n cf ce cb m k : Nat) (N M : Int) (T : ByteArray) (w : World) (hF : FR w B (.slice Af n cf) fs) (hB : B ≤ w.heap.size) (hn0 : 0 < n) (hn1 : n ≤ 1000000) (hN : -9223372036854775808 ≤ N ∧ N ≤ 9223372036854775807) (hll : ∀ f ∈ fs, f.length ≤ 1000000) :
    Calls Tryz.prog 21 #[.agg #[.slice Af n cf, .slice Ae m ce, .slice Ab k cb], .agg #[.int .i64 4, .int .i64 N, .int .i64 M, .string T]] w fun e w' => e = .returned (.agg #[.slice Af n cf, .slice Ae m ce, .slice Ab k cb]) ∧ (∃ (a : Nat) (f : List UInt8), N % (n : Int) = (a : Int) ∧ fs[a]? = some f ∧ FR w' B (.slice Af n cf) (fs.set a (lettersL M f))) ∧ Below B w w' := by
  obtain ⟨vs, ho, he⟩ := hF
  obtain ⟨_, _, e9, hnc, _, hRv, hvl⟩ := own_form ho
  cases e9
  obtain ⟨at', hat⟩ : ∃ a : Nat, N % (fs.length : Int) = (a : Int) := ⟨(N % (fs.length : Int)).toNat, by have := Int.emod_nonneg N (by omega : (fs.length : Int) ≠ 0); omega⟩
  have hatl : at' < fs.length := by have := Int.emod_lt_of_pos N (by omega : (0 : Int) < (fs.length : Int)); omega
  obtain ⟨nf, hnf⟩ : ∃ nf, fs.length = nf := ⟨_, rfl⟩
  obtain ⟨f, hf⟩ : ∃ f, fs[at']? = some f := ⟨_, List.getElem?_eq_getElem hatl⟩
  obtain ⟨bz, oz, cz, hvz, hzc, hz0, hRz, _⟩ := he at' f hf
  obtain ⟨bg, hgo, hgb, hgl⟩ : ∃ go, Af = some ⟨go, 0, none⟩ ∧ B ≤ go ∧ go < w.heap.size := by
    rcases ho.2 with ⟨hv, _⟩ | ⟨g, cap, cur, hv, hbg, hg, _⟩
    · injection hv with h1 h2 h3; omega
    · injection hv with h1 h2 h3; exact ⟨g, h1, hbg, (Array.getElem?_eq_some_iff.1 hg).1⟩
  subst hgo
  obtain ⟨fn, hfn⟩ : ∃ fn, f.length = fn := ⟨_, rfl⟩
  have HFN := Lib.hid hfn
  have hfl := hll f (List.mem_of_getElem? hf)
  rw [hfn] at hvz hzc hfl
  have hfn0 : 0 < fn := by rw [← hfn]; exact List.length_pos_iff.2 hz0
  have hat0 := hat
  have HNF := Lib.hid hnf
  rw [hnf] at hn0 hn1 hat hatl ⊢
  obtain ⟨W3, hW3⟩ : ∃ W3, ((w.alloc (.cells #[.slice (some ⟨bg, 0, none⟩) nf cf, .slice Ae m ce, .slice Ab k cb] 49)).alloc (.cells #[.int .i64 4, .int .i64 N, .int .i64 M, .string T] 26)).alloc (.cells #[.slice none 0 0, .slice none 0 0, .slice none 0 0] 49) = W3 := ⟨_, rfl⟩
  have hb3 : Below w.heap.size w W3 := by rw [← hW3]; exact (((Below.refl _ w).alloc (Nat.le_refl _) _).alloc (by simp) _).alloc (by simp; omega) _
  have r1 : Row W3 w.heap.size 49 [.slice (some ⟨bg, 0, none⟩) nf cf, .slice Ae m ce, .slice Ab k cb] := by rw [← hW3]; exact ((Row.new w _ _).alloc _).alloc _
  have r2 : Row W3 (w.heap.size + 1) 26 [.int .i64 4, .int .i64 N, .int .i64 M, .string T] := by
    have h := (Row.new (w.alloc (.cells #[.slice (some ⟨bg, 0, none⟩) nf cf, .slice Ae m ce, .slice Ab k cb] 49)) #[.int .i64 4, .int .i64 N, .int .i64 M, .string T] 26).alloc (.cells #[.slice none 0 0, .slice none 0 0, .slice none 0 0] 49)
    rw [World.size_alloc, hW3] at h
    exact h
  have r3 : Row W3 (w.heap.size + 1 + 1) 49 [.slice none 0 0, .slice none 0 0, .slice none 0 0] := by
    have h := Row.new ((w.alloc (.cells #[.slice (some ⟨bg, 0, none⟩) nf cf, .slice Ae m ce, .slice Ab k cb] 49)).alloc (.cells #[.int .i64 4, .int .i64 N, .int .i64 M, .string T] 26)) #[.slice none 0 0, .slice none 0 0, .slice none 0 0] 49
    rw [World.size_alloc, World.size_alloc, hW3] at h
    exact h
  have hs3 : w.heap.size + 3 ≤ W3.heap.size := by rw [← hW3]; simp
  have ho3 := own_below ho hb3
  have hg0 : W3.cell? ⟨bg, at', none⟩ = some (.slice (some ⟨bz, oz, none⟩) fn cz) := by
    have h1 := ho3.cells (g := bg) rfl at' _ hvz
    rw [addr_add, Nat.zero_add] at h1
    exact h1
  have hgf : W3.frozen? ⟨bg, at', none⟩ = false := by
    rcases ho3.2 with ⟨hv, _⟩ | ⟨g, cap, cur, hv, hbg, hg, _⟩
    · cases hv
    · injection hv with h1 h2 h3
      injection h1 with h1
      injection h1 with h1
      subst h1
      exact frozen_of_row W3 bg at' cur 22 hg
  have hR3 := hRz.below hb3
  have a0 := r1.cell (j := 0) rfl
  have a1 := r1.cell (j := 1) rfl
  have a2 := r1.cell (j := 2) rfl
  have x0 := r2.cell (j := 0) rfl
  have x1 := r2.cell (j := 1) rfl
  have x2 := r2.cell (j := 2) rfl
  have a0d : W3.drew.cell? ⟨w.heap.size, 0, none⟩ = some (.slice (some ⟨bg, 0, none⟩) nf cf) := a0
  have x2d : W3.drew.cell? ⟨w.heap.size + 1, 2, none⟩ = some (.int .i64 M) := x2
  have hlet : ∀ W, Below W3.heap.size W3 W → Calls Tryz.prog 39 #[.slice (some ⟨bz, oz, none⟩) fn cz, .int .i64 M] W fun e w' => (∃ v, e = .returned v ∧ w'.ownsRow W.heap.size 5 1 v fn ((lettersL M f).map bv)) ∧ Below W.heap.size W w' := fun W hW =>
    letters_any bz oz f fn cz M W HFN.out (hR3.below hW) hzc hfl hfn0
  have hre := rest_any N nf W3 hn0 hn1 hN
  rw [hat] at hre
  have hia := ixa bg nf cf at' hatl
  have HAT := Lib.hid hat
  have HFF := Lib.hid hf
  have hvl2 : vs.length = nf := by have := ho.1; omega
  clear hnf hvz hRv hvl hfn hat hat0 hf
  go_enter Tryz.func21, Tryz.ntmps21
  go_upto_region 1 with fail
  go_wp2_with fail
  refine hre.mono ?_
  rintro e w4 ⟨rfl, rfl⟩
  have hbd : Below w4.heap.size w4 w4.drew := (Below.refl _ _).drew
  have hgfd : w4.drew.frozen? ⟨bg, at', none⟩ = false := hgf
  have hg0d : w4.drew.cell? ⟨bg, at', none⟩ = some (.slice (some ⟨bz, oz, none⟩) fn cz) := hg0
  go_upto_region 7 with fail
  go_region_with (go_at_call 39; refine (hlet _ hbd).mono ?_; rintro e w5 ⟨⟨v, rfl, hov⟩, hb5⟩; obtain ⟨Av, cv, hv, hnv, _, hRv, _⟩ := own_form hov; subst hv; have q0 := (hb5.cell (cell_lt a0d)).trans a0d; have q1 := (hb5.cell (cell_lt hg0d)).trans hg0d; have q2 := (hb5.frozen (p := ⟨bg, at', none⟩) (cell_lt hg0d)).trans hgfd)
  all_goals
    have hb5' : Below w4.heap.size w4 w5 := ⟨hb5.os, hb5.tape, hb5.output, hb5.size, hb5.block⟩
    obtain ⟨h, hh, hhb⟩ : ∃ h, Av = some ⟨h, 0, none⟩ ∧ w4.heap.size ≤ h := by
      rcases hov.2 with ⟨hv, _⟩ | ⟨g, cap, cur, hv, hbg, hg, _⟩
      · injection hv with h1 h2 h3; omega
      · injection hv with h1 h2 h3; exact ⟨g, h1, hbg⟩
    subst hh
    have p1 := (r1.below hb5').far (a := ⟨bg, at', none⟩) (by show bg ≠ w.heap.size; omega) (.slice (some ⟨h, 0, none⟩) fn cv)
    have p3 := (r3.below hb5').far (a := ⟨bg, at', none⟩) (by show bg ≠ w.heap.size + 1 + 1; omega) (.slice (some ⟨h, 0, none⟩) fn cv)
    have F6 : FR (w5.setCell ⟨bg, at', none⟩ (.slice (some ⟨h, 0, none⟩) fn cv)) B (.slice (some ⟨bg, 0, none⟩) nf cf) (fs.set at' (lettersL M f)) := by
      have hll2 : (lettersL M f).length = fn := by unfold lettersL; rw [lg_len]; exact HFN.out
      have hO5 := own_below ho3 hb5'
      rw [HNF.out] at hO5
      refine ⟨vs.set at' (.slice (some ⟨h, 0, none⟩) fn cv), by rw [List.length_set, HNF.out]; exact own_setAt hO5 hatl _, fun j l hj => ?_⟩
      rw [List.getElem?_set] at hj
      by_cases hja : at' = j
      · subst hja
        rw [if_pos rfl, if_pos (by rw [HNF.out]; exact hatl)] at hj
        cases hj
        refine ⟨h, 0, cv, ?_, by rw [hll2]; exact hnv, by intro e; rw [e] at hll2; simp at hll2; omega, ?_, ?_⟩
        · rw [hll2, List.getElem?_set_self (by omega)]
        · exact Rb.setFar (W := w5) (show Rb w5 (some ⟨h, 0, none⟩) (lettersL M f) from hRv) (by show bg ≠ h; omega) _
        · intro e
          simp [nb, Value.ownBlock] at e
          omega
      · rw [if_neg hja] at hj
        obtain ⟨b', o', c', k1, k2, k3, k4, k5⟩ := he j l hj
        refine ⟨b', o', c', by rw [List.getElem?_set_ne hja]; exact k1, k2, k3, Rb.setFar ((k4.below hb3).below hb5') (by show bg ≠ b'; intro e; exact k5 (by rw [← e]; simp [nb, Value.ownBlock])) _, k5⟩
    have B6 : Below B w (w5.setCell ⟨bg, at', none⟩ (.slice (some ⟨h, 0, none⟩) fn cv)) := ((hb3.mono hB).trans (hb5'.mono (by omega))).setCell (p := ⟨bg, at', none⟩) hgb _
    obtain ⟨w6, hw6⟩ : ∃ w6, w5.setCell ⟨bg, at', none⟩ (.slice (some ⟨h, 0, none⟩) fn cv) = w6 := ⟨_, rfl⟩
    rw [hw6] at p1 p3 F6 B6 ⊢
    clear hw6 q0 q1 q2 hb5 hb5' hov hRv
    have t0 := p1.cell (j := 0) rfl
    have t1 := p1.cell (j := 1) rfl
    have t2 := p1.cell (j := 2) rfl
    have s0 := p3.cell (j := 0) rfl
    have s1 := p3.cell (j := 1) rfl
    have s2 := p3.cell (j := 2) rfl
    have z0 := p3.frozen 0
    have z1 := p3.frozen 1
    have z2 := p3.frozen 2
    have n0 : ∀ v ∈ ([.slice none 0 0, .slice none 0 0, .slice none 0 0] : List Value), ∀ x : UInt8, v ≠ bv x := by
      intro v hv x e
      simp only [List.mem_cons, List.not_mem_nil, or_false, or_self] at hv
      subst hv
      cases e
    have n1 : ∀ v ∈ ([.slice (some ⟨bg, 0, none⟩) nf cf, .slice none 0 0, .slice none 0 0] : List Value), ∀ x : UInt8, v ≠ bv x := by
      intro v hv x e
      simp only [List.mem_cons, List.not_mem_nil, or_false, or_self] at hv
      rcases hv with rfl | rfl <;> cases e
    have n2 : ∀ v ∈ ([.slice (some ⟨bg, 0, none⟩) nf cf, .slice Ae m ce, .slice none 0 0] : List Value), ∀ x : UInt8, v ≠ bv x := by
      intro v hv x e
      simp only [List.mem_cons, List.not_mem_nil, or_false] at hv
      rcases hv with rfl | rfl | rfl <;> cases e
    have hgn : ¬ nb (.slice (some ⟨bg, 0, none⟩) nf cf) (w.heap.size + 1 + 1) := by
      intro e
      simp [nb, Value.ownBlock] at e
      omega
    have p4 := p3.set 0 (.slice (some ⟨bg, 0, none⟩) nf cf)
    have p5 := p4.set 1 (.slice Ae m ce)
    have p6 := p5.set 2 (.slice Ab k cb)
    have F9 := ((F6.setRow2 p3 n0 hgn 0 (.slice (some ⟨bg, 0, none⟩) nf cf)).setRow2 p4 n1 hgn 1 (.slice Ae m ce)).setRow2 p5 n2 hgn 2 (.slice Ab k cb)
    have B9 := ((B6.setCell (p := ⟨w.heap.size + 1 + 1, 0, none⟩) (by show B ≤ w.heap.size + 1 + 1; omega) (.slice (some ⟨bg, 0, none⟩) nf cf)).setCell (p := ⟨w.heap.size + 1 + 1, 1, none⟩) (by show B ≤ w.heap.size + 1 + 1; omega) (.slice Ae m ce)).setCell (p := ⟨w.heap.size + 1 + 1, 2, none⟩) (by show B ≤ w.heap.size + 1 + 1; omega) (.slice Ab k cb)
    go_wp2_with fail
    obtain ⟨W9, hW9⟩ : ∃ W9, ((w6.setCell ⟨w.heap.size + 1 + 1, 0, none⟩ (.slice (some ⟨bg, 0, none⟩) nf cf)).setCell ⟨w.heap.size + 1 + 1, 1, none⟩ (.slice Ae m ce)).setCell ⟨w.heap.size + 1 + 1, 2, none⟩ (.slice Ab k cb) = W9 := ⟨_, rfl⟩
    rw [hW9] at p6 F9 B9 ⊢
    have e0 := p6.cell (j := 0) rfl
    have e1 := p6.cell (j := 1) rfl
    have e2 := p6.cell (j := 2) rfl
    exact bodyPost_ret (v := .agg #[.slice (some ⟨bg, 0, none⟩) nf cf, .slice Ae m ce, .slice Ab k cb]) (by simp [results, Tryz.results21, go_sem, e0, e1, e2]) rfl ⟨rfl, ⟨at', f, HAT.out, HFF.out, F9⟩, B9⟩
end Go.Proofs.YtcagkoakbdbbaaaGreatDoor
