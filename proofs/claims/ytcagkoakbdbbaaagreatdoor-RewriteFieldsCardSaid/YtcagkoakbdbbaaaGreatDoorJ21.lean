/- The program's change at kind 3: one field folded anew, among many. · Apply at a kind that is none: the bytes as they are. -/
import Derived.Test.YtcagkoakbdbbaaaGreatDoorJ20
namespace Go.Proofs.YtcagkoakbdbbaaaGreatDoor
set_option linter.unusedVariables false
set_option linter.unusedSimpArgs false
open Go.RowKit

theorem foldS_ge (m z : Int) (b : List UInt8) (i : Nat) : i ≤ (foldS m z b i).2.length := by
  induction i with
  | zero => exact Nat.zero_le _
  | succ i ih =>
    unfold foldS
    split
    · split <;> simp <;> omega
    · simp; omega
theorem foldL_pos (m : Int) {f : List UInt8} (h : f ≠ []) : 0 < (foldL m f).length := by
  unfold foldL
  rw [List.length_append]
  have h1 := foldS_ge m (Lib.indexByte (flatT (fl f)) 58) (flatT (fl f)) (flatT (fl f)).length
  rcases Nat.eq_zero_or_pos (flatT (fl f)).length with h2 | h2
  · have h3 : 0 < (lastT (fl f)).length := by
      rcases List.eq_nil_or_concat (fl f) with h4 | ⟨ls, l, h4⟩
      · have h5 := fl_flat f
        rw [h4] at h5
        exact absurd h5.symm h
      · rw [List.concat_eq_append] at h4
        rw [h4, flatT_snoc, List.length_append] at h2
        rw [h4, lastT_snoc, List.length_drop]
        have h6 : l ≠ [] := fl_ne (l := f) (by rw [h4]; simp)
        have := List.length_pos_iff.2 h6
        omega
    omega
  · omega

set_option maxRecDepth 100000 in
set_option maxHeartbeats 1000000 in
theorem change_fold (Af Ae Ab : Option Addr) (fs : List (List UInt8)) (B n cf ce cb m k : Nat) (N M : Int) (T : ByteArray) (w : World) (hF : FR w B (.slice Af n cf) fs) (hB : B ≤ w.heap.size) (hn0 : 0 < n) (hn1 : n ≤ 1000000) (hN : -9223372036854775808 ≤ N ∧ N ≤ 9223372036854775807) (hll : ∀ f ∈ fs, f.length ≤ 1000000) :
    Calls Tryz.prog 21 #[.agg #[.slice Af n cf, .slice Ae m ce, .slice Ab k cb], .agg #[.int .i64 3, .int .i64 N, .int .i64 M, .string T]] w fun e w' => e = .returned (.agg #[.slice Af n cf, .slice Ae m ce, .slice Ab k cb]) ∧ (∃ (a : Nat) (f : List UInt8), N % (n : Int) = (a : Int) ∧ fs[a]? = some f ∧ FR w' B (.slice Af n cf) (fs.set a (foldL M f))) ∧ Below B w w' := by
  obtain ⟨vs, ho, he⟩ := hF
  obtain ⟨_, _, e9, hnc, _, hRv, hvl⟩ := own_form ho
  cases e9
  obtain ⟨at', hat⟩ : ∃ a : Nat, N % (fs.length : Int) = (a : Int) := ⟨(N % (fs.length : Int)).toNat, by have := Int.emod_nonneg N (by omega : (fs.length : Int) ≠ 0); omega⟩
  have hatl : at' < fs.length := by have := Int.emod_lt_of_pos N (by omega : (0 : Int) < (fs.length : Int)); omega
  obtain ⟨nf, hnf⟩ : ∃ nf, fs.length = nf := ⟨_, rfl⟩
  obtain ⟨f, hf⟩ : ∃ f, fs[at']? = some f := ⟨_, List.getElem?_eq_getElem hatl⟩
  obtain ⟨bz, oz, cz, hvz, hzc, hz0, hRz, _⟩ := he at' f hf
  obtain ⟨bg, hgo, hgb, hgl⟩ : ∃ go, Af = some ⟨go, 0, none⟩ ∧ B ≤ go ∧ go < w.heap.size := by
    rcases ho.2 with ⟨hv, _⟩ | ⟨g, cap, cur, hv, hbg, hg, _⟩
    · injection hv with h1 h2 h3; omega
    · injection hv with h1 h2 h3; exact ⟨g, h1, hbg, (Array.getElem?_eq_some_iff.1 hg).1⟩
  subst hgo
  obtain ⟨fn, hfn⟩ : ∃ fn, f.length = fn := ⟨_, rfl⟩
  have HFN := Lib.hid hfn
  have hfl := hll f (List.mem_of_getElem? hf)
  rw [hfn] at hvz hzc hfl
  have hfn0 : 0 < fn := by rw [← hfn]; exact List.length_pos_iff.2 hz0
  have hat0 := hat
  have HNF := Lib.hid hnf
  rw [hnf] at hn0 hn1 hat hatl ⊢
  obtain ⟨W3, hW3⟩ : ∃ W3, ((w.alloc (.cells #[.slice (some ⟨bg, 0, none⟩) nf cf, .slice Ae m ce, .slice Ab k cb] 49)).alloc (.cells #[.int .i64 3, .int .i64 N, .int .i64 M, .string T] 26)).alloc (.cells #[.slice none 0 0, .slice none 0 0, .slice none 0 0] 49) = W3 := ⟨_, rfl⟩
  have hb3 : Below w.heap.size w W3 := by rw [← hW3]; exact (((Below.refl _ w).alloc (Nat.le_refl _) _).alloc (by simp) _).alloc (by simp; omega) _
  have r1 : Row W3 w.heap.size 49 [.slice (some ⟨bg, 0, none⟩) nf cf, .slice Ae m ce, .slice Ab k cb] := by rw [← hW3]; exact ((Row.new w _ _).alloc _).alloc _
  have r2 : Row W3 (w.heap.size + 1) 26 [.int .i64 3, .int .i64 N, .int .i64 M, .string T] := by
    have h := (Row.new (w.alloc (.cells #[.slice (some ⟨bg, 0, none⟩) nf cf, .slice Ae m ce, .slice Ab k cb] 49)) #[.int .i64 3, .int .i64 N, .int .i64 M, .string T] 26).alloc (.cells #[.slice none 0 0, .slice none 0 0, .slice none 0 0] 49)
    rw [World.size_alloc, hW3] at h
    exact h
  have r3 : Row W3 (w.heap.size + 1 + 1) 49 [.slice none 0 0, .slice none 0 0, .slice none 0 0] := by
    have h := Row.new ((w.alloc (.cells #[.slice (some ⟨bg, 0, none⟩) nf cf, .slice Ae m ce, .slice Ab k cb] 49)).alloc (.cells #[.int .i64 3, .int .i64 N, .int .i64 M, .string T] 26)) #[.slice none 0 0, .slice none 0 0, .slice none 0 0] 49
    rw [World.size_alloc, World.size_alloc, hW3] at h
    exact h
  have hs3 : w.heap.size + 3 ≤ W3.heap.size := by rw [← hW3]; simp
  have ho3 := own_below ho hb3
  have hg0 : W3.cell? ⟨bg, at', none⟩ = some (.slice (some ⟨bz, oz, none⟩) fn cz) := by
    have h1 := ho3.cells (g := bg) rfl at' _ hvz
    rw [addr_add, Nat.zero_add] at h1
    exact h1
  have hgf : W3.frozen? ⟨bg, at', none⟩ = false := by
    rcases ho3.2 with ⟨hv, _⟩ | ⟨g, cap, cur, hv, hbg, hg, _⟩
    · cases hv
    · injection hv with h1 h2 h3
      injection h1 with h1
      injection h1 with h1
      subst h1
      exact frozen_of_row W3 bg at' cur 22 hg
  have hR3 := hRz.below hb3
  have a0 := r1.cell (j := 0) rfl
  have a1 := r1.cell (j := 1) rfl
  have a2 := r1.cell (j := 2) rfl
  have x0 := r2.cell (j := 0) rfl
  have x1 := r2.cell (j := 1) rfl
  have x2 := r2.cell (j := 2) rfl
  have a0d : W3.drew.cell? ⟨w.heap.size, 0, none⟩ = some (.slice (some ⟨bg, 0, none⟩) nf cf) := a0
  have x2d : W3.drew.cell? ⟨w.heap.size + 1, 2, none⟩ = some (.int .i64 M) := x2
  obtain ⟨gl, hgl2⟩ : ∃ gl, (foldL M f).length = gl := ⟨_, rfl⟩
  have HGL := Lib.hid hgl2
  have hgl0 : 0 < gl := by rw [← hgl2]; exact foldL_pos M hz0
  have hlet : ∀ W, Below W3.heap.size W3 W → Calls Tryz.prog 38 #[.slice (some ⟨bz, oz, none⟩) fn cz, .int .i64 M] W fun e w' => (∃ v, e = .returned v ∧ w'.ownsRow W.heap.size 5 1 v gl ((foldL M f).map bv)) ∧ Below W.heap.size W w' := fun W hW =>
    by
      have h := fold_any bz oz f fn cz M W HFN.out (hR3.below hW) hzc hfl
      rw [HGL.out] at h
      exact h
  have hre := rest_any N nf W3 hn0 hn1 hN
  rw [hat] at hre
  have hia := ixa bg nf cf at' hatl
  have HAT := Lib.hid hat
  have HFF := Lib.hid hf
  have hvl2 : vs.length = nf := by have := ho.1; omega
  clear hgl2 hnf hvz hRv hvl hfn hat hat0 hf
  go_enter Tryz.func21, Tryz.ntmps21
  go_upto_region 1 with fail
  go_wp2_with fail
  refine hre.mono ?_
  rintro e w4 ⟨rfl, rfl⟩
  have hbd : Below w4.heap.size w4 w4.drew := (Below.refl _ _).drew
  have hgfd : w4.drew.frozen? ⟨bg, at', none⟩ = false := hgf
  have hg0d : w4.drew.cell? ⟨bg, at', none⟩ = some (.slice (some ⟨bz, oz, none⟩) fn cz) := hg0
  go_upto_region 5 with fail
  go_region_with (go_at_call 38; refine (hlet _ hbd).mono ?_; rintro e w5 ⟨⟨v, rfl, hov⟩, hb5⟩; obtain ⟨Av, cv, hv, hnv, _, hRv, _⟩ := own_form hov; subst hv; have q0 := (hb5.cell (cell_lt a0d)).trans a0d; have q1 := (hb5.cell (cell_lt hg0d)).trans hg0d; have q2 := (hb5.frozen (p := ⟨bg, at', none⟩) (cell_lt hg0d)).trans hgfd)
  all_goals
    have hb5' : Below w4.heap.size w4 w5 := ⟨hb5.os, hb5.tape, hb5.output, hb5.size, hb5.block⟩
    obtain ⟨h, hh, hhb⟩ : ∃ h, Av = some ⟨h, 0, none⟩ ∧ w4.heap.size ≤ h := by
      rcases hov.2 with ⟨hv, _⟩ | ⟨g, cap, cur, hv, hbg, hg, _⟩
      · injection hv with h1 h2 h3; omega
      · injection hv with h1 h2 h3; exact ⟨g, h1, hbg⟩
    subst hh
    have p1 := (r1.below hb5').far (a := ⟨bg, at', none⟩) (by show bg ≠ w.heap.size; omega) (.slice (some ⟨h, 0, none⟩) gl cv)
    have p3 := (r3.below hb5').far (a := ⟨bg, at', none⟩) (by show bg ≠ w.heap.size + 1 + 1; omega) (.slice (some ⟨h, 0, none⟩) gl cv)
    have F6 : FR (w5.setCell ⟨bg, at', none⟩ (.slice (some ⟨h, 0, none⟩) gl cv)) B (.slice (some ⟨bg, 0, none⟩) nf cf) (fs.set at' (foldL M f)) := by
      have hll2 : (foldL M f).length = gl := HGL.out
      have hO5 := own_below ho3 hb5'
      rw [HNF.out] at hO5
      refine ⟨vs.set at' (.slice (some ⟨h, 0, none⟩) gl cv), by rw [List.length_set, HNF.out]; exact own_setAt hO5 hatl _, fun j l hj => ?_⟩
      rw [List.getElem?_set] at hj
      by_cases hja : at' = j
      · subst hja
        rw [if_pos rfl, if_pos (by rw [HNF.out]; exact hatl)] at hj
        cases hj
        refine ⟨h, 0, cv, ?_, by rw [hll2]; exact hnv, by intro e; rw [e] at hll2; simp at hll2; omega, ?_, ?_⟩
        · rw [hll2, List.getElem?_set_self (by omega)]
        · exact Rb.setFar (W := w5) (show Rb w5 (some ⟨h, 0, none⟩) (foldL M f) from hRv) (by show bg ≠ h; omega) _
        · intro e
          simp [nb, Value.ownBlock] at e
          omega
      · rw [if_neg hja] at hj
        obtain ⟨b', o', c', k1, k2, k3, k4, k5⟩ := he j l hj
        refine ⟨b', o', c', by rw [List.getElem?_set_ne hja]; exact k1, k2, k3, Rb.setFar ((k4.below hb3).below hb5') (by show bg ≠ b'; intro e; exact k5 (by rw [← e]; simp [nb, Value.ownBlock])) _, k5⟩
    have B6 : Below B w (w5.setCell ⟨bg, at', none⟩ (.slice (some ⟨h, 0, none⟩) gl cv)) := ((hb3.mono hB).trans (hb5'.mono (by omega))).setCell (p := ⟨bg, at', none⟩) hgb _
    obtain ⟨w6, hw6⟩ : ∃ w6, w5.setCell ⟨bg, at', none⟩ (.slice (some ⟨h, 0, none⟩) gl cv) = w6 := ⟨_, rfl⟩
    rw [hw6] at p1 p3 F6 B6 ⊢
    clear hw6 q0 q1 q2 hb5 hb5' hov hRv
    have t0 := p1.cell (j := 0) rfl
    have t1 := p1.cell (j := 1) rfl
    have t2 := p1.cell (j := 2) rfl
    have s0 := p3.cell (j := 0) rfl
    have s1 := p3.cell (j := 1) rfl
    have s2 := p3.cell (j := 2) rfl
    have z0 := p3.frozen 0
    have z1 := p3.frozen 1
    have z2 := p3.frozen 2
    have n0 : ∀ v ∈ ([.slice none 0 0, .slice none 0 0, .slice none 0 0] : List Value), ∀ x : UInt8, v ≠ bv x := by
      intro v hv x e
      simp only [List.mem_cons, List.not_mem_nil, or_false, or_self] at hv
      subst hv
      cases e
    have n1 : ∀ v ∈ ([.slice (some ⟨bg, 0, none⟩) nf cf, .slice none 0 0, .slice none 0 0] : List Value), ∀ x : UInt8, v ≠ bv x := by
      intro v hv x e
      simp only [List.mem_cons, List.not_mem_nil, or_false, or_self] at hv
      rcases hv with rfl | rfl <;> cases e
    have n2 : ∀ v ∈ ([.slice (some ⟨bg, 0, none⟩) nf cf, .slice Ae m ce, .slice none 0 0] : List Value), ∀ x : UInt8, v ≠ bv x := by
      intro v hv x e
      simp only [List.mem_cons, List.not_mem_nil, or_false] at hv
      rcases hv with rfl | rfl | rfl <;> cases e
    have hgn : ¬ nb (.slice (some ⟨bg, 0, none⟩) nf cf) (w.heap.size + 1 + 1) := by
      intro e
      simp [nb, Value.ownBlock] at e
      omega
    have p4 := p3.set 0 (.slice (some ⟨bg, 0, none⟩) nf cf)
    have p5 := p4.set 1 (.slice Ae m ce)
    have p6 := p5.set 2 (.slice Ab k cb)
    have F9 := ((F6.setRow2 p3 n0 hgn 0 (.slice (some ⟨bg, 0, none⟩) nf cf)).setRow2 p4 n1 hgn 1 (.slice Ae m ce)).setRow2 p5 n2 hgn 2 (.slice Ab k cb)
    have B9 := ((B6.setCell (p := ⟨w.heap.size + 1 + 1, 0, none⟩) (by show B ≤ w.heap.size + 1 + 1; omega) (.slice (some ⟨bg, 0, none⟩) nf cf)).setCell (p := ⟨w.heap.size + 1 + 1, 1, none⟩) (by show B ≤ w.heap.size + 1 + 1; omega) (.slice Ae m ce)).setCell (p := ⟨w.heap.size + 1 + 1, 2, none⟩) (by show B ≤ w.heap.size + 1 + 1; omega) (.slice Ab k cb)
    go_wp2_with fail
    obtain ⟨W9, hW9⟩ : ∃ W9, ((w6.setCell ⟨w.heap.size + 1 + 1, 0, none⟩ (.slice (some ⟨bg, 0, none⟩) nf cf)).setCell ⟨w.heap.size + 1 + 1, 1, none⟩ (.slice Ae m ce)).setCell ⟨w.heap.size + 1 + 1, 2, none⟩ (.slice Ab k cb) = W9 := ⟨_, rfl⟩
    rw [hW9] at p6 F9 B9 ⊢
    have e0 := p6.cell (j := 0) rfl
    have e1 := p6.cell (j := 1) rfl
    have e2 := p6.cell (j := 2) rfl
    exact bodyPost_ret (v := .agg #[.slice (some ⟨bg, 0, none⟩) nf cf, .slice Ae m ce, .slice Ab k cb]) (by simp [results, Tryz.results21, go_sem, e0, e1, e2]) rfl ⟨rfl, ⟨at', f, HAT.out, HFF.out, F9⟩, B9⟩
end Go.Proofs.YtcagkoakbdbbaaaGreatDoor

namespace Go.Proofs.YtcagkoakbdbbaaaGreatDoor
set_option linter.unusedVariables false
set_option linter.unusedSimpArgs false
open Go.RowKit

theorem flat_ge {fs : List (List UInt8)} (h : ∀ f ∈ fs, f ≠ []) : fs.length ≤ fs.flatten.length := by
  induction fs with
  | nil => simp
  | cons a r ih =>
    have h2 := List.length_pos_iff.2 (h a List.mem_cons_self)
    have h3 := ih (fun f hf => h f (List.mem_cons_of_mem _ hf))
    rw [List.flatten_cons, List.length_append, List.length_cons]
    omega

set_option maxRecDepth 100000 in
set_option maxHeartbeats 600000 in
theorem apply_none (A : Option Addr) (b : List UInt8) (n c : Nat) (z N M : Int) (T : ByteArray) (w : World) (hn : b.length = n) (hA : Rb w A b) (hpl : Pl A c) (hnc : n ≤ c) (hb : n ≤ 1000000) (hN : -9223372036854775808 ≤ N ∧ N ≤ 9223372036854775807)
    (z1 : z ≠ 1) (z2 : z ≠ 2) (z3 : z ≠ 3) (z4 : z ≠ 4) (z5 : z ≠ 5) (z6 : z ≠ 6) (z7 : z ≠ 7) (z8 : z ≠ 8) :
    Calls Tryz.prog 7 #[.slice A n c, .agg #[.int .i64 z, .int .i64 N, .int .i64 M, .string T]] w fun e w' => BOut b e w' ∧ Below w.heap.size w w' := by
  have hB0 : Below w.heap.size w (w.alloc (.cells #[.int .i64 z, .int .i64 N, .int .i64 M, .string T] 26)) := (Below.refl _ _).alloc (Nat.le_refl _) _
  have r0 := Row.new w #[.int .i64 z, .int .i64 N, .int .i64 M, .string T] 26
  have hrd := read_any A b n c (w.alloc (.cells #[.int .i64 z, .int .i64 N, .int .i64 M, .string T] 26)) hn (hA.below hB0) hnc hb
  have HN := Lib.hid hn
  have q1 : (z == 1) = false := by rw [beq_eq_false_iff_ne]; exact z1
  have q2 : (z == 2) = false := by rw [beq_eq_false_iff_ne]; exact z2
  have q6 : (z == 6) = false := by rw [beq_eq_false_iff_ne]; exact z6
  have q6b : (z != 6) = true := by rw [bne, q6]; rfl
  clear hn
  go_enter Tryz.func7, Tryz.ntmps7
  go_wp2_with fail
  refine hrd.mono ?_
  rintro e w1 ⟨hro, hb1⟩
  obtain ⟨A0, n0, c0, A1, n1, c1, A2, n2, c2, wh, ok, rfl⟩ := hro.form
  have HRO := Lib.hid hro
  have hB1 := hB0.trans (hb1.mono hB0.size)
  have r1 := r0.below hb1
  have r3 := r1.alloc (.cells #[.slice A0 n0 c0, .slice A1 n1 c1, .slice A2 n2 c2] 49)
  have t3 := Row.new w1 #[.slice A0 n0 c0, .slice A1 n1 c1, .slice A2 n2 c2] 49
  have hm3 := mark_below w1 #[.slice A0 n0 c0, .slice A1 n1 c1, .slice A2 n2 c2] 49 (0, 0)
  have hB3 := hB1.trans (hm3.mono hB1.size)
  clear hro hrd
  go_upto_region 2 with fail
  obtain ⟨w3, hw3⟩ : ∃ w3, w1.alloc (.cells #[.slice A0 n0 c0, .slice A1 n1 c1, .slice A2 n2 c2] 49) = w3 := ⟨_, rfl⟩
  rw [hw3] at r3 t3 hB3 hm3 ⊢
  clear hw3 r1 r0
  have x0 := r3.cell (j := 0) rfl
  have x1 := r3.cell (j := 1) rfl
  have x2 := r3.cell (j := 2) rfl
  have x3 := r3.cell (j := 3) rfl
  have m0 := t3.cell (j := 0) rfl
  have m1 := t3.cell (j := 1) rfl
  have m2 := t3.cell (j := 2) rfl
  cases ok with
  | false =>
    have hcl := clone_any A b n c w3 HN.out (hA.below hB3) hnc hpl (by omega)
    go_wp2_with fail
    refine hcl.mono ?_
    rintro e w4 ⟨⟨v, rfl, hov⟩, hb4⟩
    obtain ⟨A5, c5, e5, g1, g2, g3, g4⟩ := BOut.own hov
    cases e5
    go_wp2_with fail
    go_ret
    exact ⟨⟨A5, c5, rfl, g1, g2, g3, g4⟩, hB3.trans (hb4.mono hB3.size)⟩
  | true =>
    have hro := HRO.out
    unfold ReadOut at hro
    cases hr : readG [] (fl b) with
    | none => rw [hr] at hro; cases hro
    | some p =>
      obtain ⟨fs, en, bd⟩ := p
      rw [hr] at hro
      obtain ⟨fv, Ae, ce, Ab, cb, he, hF, hE, hce, hD, hcb⟩ := hro
      have hrb := read_bytes hr
      obtain ⟨Af, nf, cf, hfv, hfn⟩ : ∃ Af nf cf, fv = .slice Af nf cf ∧ fs.length = nf := by
        obtain ⟨vs, ho, _⟩ := hF
        obtain ⟨Af, cf, hv, _⟩ := own_form ho
        exact ⟨Af, _, cf, hv, rfl⟩
      subst hfv
      injection he with he
      injection he with he
      simp only [Array.mk.injEq, List.cons.injEq, Value.agg.injEq, Value.slice.injEq, Value.bool.injEq, and_true, true_and] at he
      obtain ⟨⟨⟨rfl, rfl, rfl⟩, ⟨rfl, e11, rfl⟩, ⟨rfl, e21, rfl⟩⟩, rfl, hok⟩ := he
      have hfl : fs.flatten.length ≤ 1000000 ∧ en.length ≤ 1000000 ∧ bd.length ≤ 1000000 := by
        have h := congrArg List.length hrb
        rw [List.length_append, List.length_append, HN.out] at h
        omega
      have hnf0 : 0 < n0 := by
        rw [← hfn]
        cases fs with
        | nil => simp at hok
        | cons a r => simp
      have hnf1 : n0 ≤ 1000000 := by
        have h1 := flat_ge (read_ne hr).1
        omega
      have F3 := hF.below hm3
      have hs0 : (w.alloc (.cells #[.int .i64 z, .int .i64 N, .int .i64 M, .string T] 26)).heap.size + 1 ≤ w3.heap.size := by
        have h1 := hB3.size
        have h2 := r3.lt
        have h3 := hm3.size
        have h4 := t3.lt
        rw [World.size_alloc]
        have h5 : w.heap.size < w1.heap.size := by
          have := hb1.size
          rw [World.size_alloc] at this
          omega
        omega
      have hch := change_none A0 A1 A2 fs _ n0 c0 c1 c2 n1 n2 z N M T w3 F3 hs0 hnf0 hnf1 hN z3 z4 z5 z7 z8
      have hE3 := hE
      have HFL := Lib.hid hfl
      have HRB := Lib.hid hrb
      have hB3' : Below (w.alloc (.cells #[.int .i64 z, .int .i64 N, .int .i64 M, .string T] 26)).heap.size (w.alloc (.cells #[.int .i64 z, .int .i64 N, .int .i64 M, .string T] 26)) w3 := hb1.trans (hm3.mono hb1.size)
      have HE1 := Lib.hid e11
      have HE2 := Lib.hid e21
      clear hok hr hrb hfl e11 e21 hfn
      go_wp2_with fail
      refine hch.mono ?_
      rintro e w4 ⟨rfl, hb4⟩
      have hB4 := hB3.trans (hb4.mono hB3.size)
      have hB4' := hB3'.trans (hb4.mono hB3'.size)
      have hbt := bytes_any A0 A1 A2 fs en bd _ n0 c0 c1 c2 n1 n2 w4 (F3.below hb4) (hE w4 hB4') (hD w4 hB4') HE1.out.symm HE2.out.symm (Nat.le_trans hs0 hb4.size) hnf1 HFL.out.1 (by rw [HE1.out]; exact HFL.out.2.1) (by rw [HE2.out]; exact HFL.out.2.2)
      rw [HRB.out] at hbt
      go_wp2_with fail
      refine hbt.mono ?_
      rintro e w5 ⟨⟨A5, c5, rfl, g1, g2, g3, g4⟩, hb5⟩
      go_wp2_with fail
      go_ret
      exact ⟨⟨A5, c5, rfl, g1, g2, g3, g4⟩, hB4.trans (hb5.mono hB4.size)⟩
end Go.Proofs.YtcagkoakbdbbaaaGreatDoor
