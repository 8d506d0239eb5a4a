/- The program's change at kind 5: a field left out. -/
import Derived.Test.YtcagkoakbdbbaaaGreatDoorJ28
namespace Go.Proofs.YtcagkoakbdbbaaaGreatDoor
set_option linter.unusedVariables false
set_option linter.unusedSimpArgs false
open Go.RowKit

/-- a field that need not stay is left out -/
def dropL (fs : List (List UInt8)) (a : Nat) (f : List UInt8) : List (List UInt8) := if protL (nameL f) then fs else fs.eraseIdx a

set_option maxRecDepth 100000 in
set_option maxHeartbeats 2000000 in
theorem change_drop (Af Ae Ab : Option Addr) (fs : List (List UInt8)) (B n cf ce cb m k : Nat) (N M : Int) (T : ByteArray) (w : World) (hG : Gl w) (hF : FR w B (.slice Af n cf) fs) (hB : B ≤ w.heap.size) (hn0 : 0 < n) (hn1 : n ≤ 1000000) (hN : -9223372036854775808 ≤ N ∧ N ≤ 9223372036854775807) (hll : ∀ f ∈ fs, f.length ≤ 1000000) :
    Calls Tryz.prog 21 #[.agg #[.slice Af n cf, .slice Ae m ce, .slice Ab k cb], .agg #[.int .i64 5, .int .i64 N, .int .i64 M, .string T]] w fun e w' => (∃ (a : Nat) (f : List UInt8) (n' : Nat), N % (n : Int) = (a : Int) ∧ fs[a]? = some f ∧ (dropL fs a f).length = n' ∧ e = .returned (.agg #[.slice Af n' cf, .slice Ae m ce, .slice Ab k cb]) ∧ FR w' B (.slice Af n' cf) (dropL fs a f)) ∧ Below B w w' := by
  obtain ⟨vs, ho, he⟩ := hF
  obtain ⟨_, _, e9, hnc, _, hRv, hvl⟩ := own_form ho
  cases e9
  obtain ⟨at', hat⟩ : ∃ a : Nat, N % (fs.length : Int) = (a : Int) := ⟨(N % (fs.length : Int)).toNat, by have := Int.emod_nonneg N (by omega : (fs.length : Int) ≠ 0); omega⟩
  have hatl : at' < fs.length := by have := Int.emod_lt_of_pos N (by omega : (0 : Int) < (fs.length : Int)); omega
  obtain ⟨nf, hnf⟩ : ∃ nf, fs.length = nf := ⟨_, rfl⟩
  obtain ⟨f, hf⟩ : ∃ f, fs[at']? = some f := ⟨_, List.getElem?_eq_getElem hatl⟩
  obtain ⟨bz, oz, cz, hvz, hzc, hz0, hRz, _⟩ := he at' f hf
  obtain ⟨bg, hgo, hgb, hgl⟩ : ∃ go, Af = some ⟨go, 0, none⟩ ∧ B ≤ go ∧ go < w.heap.size := by
    rcases ho.2 with ⟨hv, _⟩ | ⟨g, cap, cur, hv, hbg, hg, _⟩
    · injection hv with h1 h2 h3; omega
    · injection hv with h1 h2 h3; exact ⟨g, h1, hbg, (Array.getElem?_eq_some_iff.1 hg).1⟩
  subst hgo
  obtain ⟨fn, hfn⟩ : ∃ fn, f.length = fn := ⟨_, rfl⟩
  have HFN := Lib.hid hfn
  have hfl := hll f (List.mem_of_getElem? hf)
  rw [hfn] at hvz hzc hfl
  have hfn0 : 0 < fn := by rw [← hfn]; exact List.length_pos_iff.2 hz0
  have hat0 := hat
  have HNF := Lib.hid hnf
  rw [hnf] at hn0 hn1 hat hatl ⊢
  obtain ⟨W3, hW3⟩ : ∃ W3, ((w.alloc (.cells #[.slice (some ⟨bg, 0, none⟩) nf cf, .slice Ae m ce, .slice Ab k cb] 49)).alloc (.cells #[.int .i64 5, .int .i64 N, .int .i64 M, .string T] 26)).alloc (.cells #[.slice none 0 0, .slice none 0 0, .slice none 0 0] 49) = W3 := ⟨_, rfl⟩
  have hb3 : Below w.heap.size w W3 := by rw [← hW3]; exact (((Below.refl _ w).alloc (Nat.le_refl _) _).alloc (by simp) _).alloc (by simp; omega) _
  have r1 : Row W3 w.heap.size 49 [.slice (some ⟨bg, 0, none⟩) nf cf, .slice Ae m ce, .slice Ab k cb] := by rw [← hW3]; exact ((Row.new w _ _).alloc _).alloc _
  have r2 : Row W3 (w.heap.size + 1) 26 [.int .i64 5, .int .i64 N, .int .i64 M, .string T] := by
    have h := (Row.new (w.alloc (.cells #[.slice (some ⟨bg, 0, none⟩) nf cf, .slice Ae m ce, .slice Ab k cb] 49)) #[.int .i64 5, .int .i64 N, .int .i64 M, .string T] 26).alloc (.cells #[.slice none 0 0, .slice none 0 0, .slice none 0 0] 49)
    rw [World.size_alloc, hW3] at h
    exact h
  have r3 : Row W3 (w.heap.size + 1 + 1) 49 [.slice none 0 0, .slice none 0 0, .slice none 0 0] := by
    have h := Row.new ((w.alloc (.cells #[.slice (some ⟨bg, 0, none⟩) nf cf, .slice Ae m ce, .slice Ab k cb] 49)).alloc (.cells #[.int .i64 5, .int .i64 N, .int .i64 M, .string T] 26)) #[.slice none 0 0, .slice none 0 0, .slice none 0 0] 49
    rw [World.size_alloc, World.size_alloc, hW3] at h
    exact h
  have hs3 : w.heap.size + 3 ≤ W3.heap.size := by rw [← hW3]; simp
  have ho3 := own_below ho hb3
  have hF0 : FR W3 B (.slice (some ⟨bg, 0, none⟩) nf cf) fs := FR.below (W := w) ⟨vs, by have h := ho; rw [HNF.out] at h; rw [HNF.out]; exact h, he⟩ hb3
  have hg0 : W3.cell? ⟨bg, at', none⟩ = some (.slice (some ⟨bz, oz, none⟩) fn cz) := by
    have h1 := ho3.cells (g := bg) rfl at' _ hvz
    rw [addr_add, Nat.zero_add] at h1
    exact h1
  have hR3 := hRz.below hb3
  have a0 := r1.cell (j := 0) rfl
  have a1 := r1.cell (j := 1) rfl
  have a2 := r1.cell (j := 2) rfl
  have x0 := r2.cell (j := 0) rfl
  have x1 := r2.cell (j := 1) rfl
  have x2 := r2.cell (j := 2) rfl
  have hre := rest_any N nf W3 hn0 hn1 hN
  rw [hat] at hre
  have hia := ixa bg nf cf at' hatl
  have HAT := Lib.hid hat
  have HFF := Lib.hid hf
  have hvl2 : vs.length = nf := by have := ho.1; omega
  have hnm : ∀ W, Below w.heap.size w W → Calls Tryz.prog 41 #[.slice (some ⟨bz, oz, none⟩) fn cz] W fun e w' => e = .returned (.string (bs (nameL f))) ∧ Below W.heap.size W w' := fun W hW => name_any bz oz f fn cz W HFN.out (hRz.below hW) (by omega) (by omega) hfn0
  obtain ⟨nm, hnme⟩ : ∃ nm, nameL f = nm := ⟨_, rfl⟩
  have HNM := Lib.hid hnme
  rw [hnme] at hnm
  clear hnf hvz hRv hvl hfn hat hat0 hf hnme hRz
  go_enter Tryz.func21, Tryz.ntmps21
  go_upto_region 1 with fail
  go_wp2_with fail
  refine hre.mono ?_
  rintro e w4 ⟨rfl, rfl⟩
  go_wp2_with fail
  refine (hnm _ hb3).mono ?_
  rintro e w5 ⟨rfl, hb5⟩
  have hb35 := hb3.trans (hb5.mono hb3.size)
  have hpr := prot_any nm w5 (hG.below hb35)
  obtain ⟨q, hq⟩ : ∃ q, protL nm = q := ⟨_, rfl⟩
  have HQ := Lib.hid hq
  rw [hq] at hpr
  clear hq
  go_wp2_with fail
  refine hpr.mono ?_
  rintro e w6 ⟨rfl, hb6⟩
  have hb46 := hb5.trans (hb6.mono hb5.size)
  have hbw6 := hb3.trans (hb46.mono hb3.size)
  have p1 := r1.below hb46
  have p3 := r3.below hb46
  have F6 := hF0.below hb46
  have B6 : Below B w w6 := hbw6.mono hB
  clear hpr hb5 hb6 hb35 hnm x0 x1 x2 a0 a1 a2 hre
  cases q with
  | true =>
    have t0 := p1.cell (j := 0) rfl
    have t1 := p1.cell (j := 1) rfl
    have t2 := p1.cell (j := 2) rfl
    have s0 := p3.cell (j := 0) rfl
    have s1 := p3.cell (j := 1) rfl
    have s2 := p3.cell (j := 2) rfl
    have z0 := p3.frozen 0
    have z1 := p3.frozen 1
    have z2 := p3.frozen 2
    have n0 : ∀ v ∈ ([.slice none 0 0, .slice none 0 0, .slice none 0 0] : List Value), ∀ x : UInt8, v ≠ bv x := by
      intro v hv x e
      simp only [List.mem_cons, List.not_mem_nil, or_false, or_self] at hv
      subst hv
      cases e
    have n1 : ∀ v ∈ ([.slice (some ⟨bg, 0, none⟩) nf cf, .slice none 0 0, .slice none 0 0] : List Value), ∀ x : UInt8, v ≠ bv x := by
      intro v hv x e
      simp only [List.mem_cons, List.not_mem_nil, or_false, or_self] at hv
      rcases hv with rfl | rfl <;> cases e
    have n2 : ∀ v ∈ ([.slice (some ⟨bg, 0, none⟩) nf cf, .slice Ae m ce, .slice none 0 0] : List Value), ∀ x : UInt8, v ≠ bv x := by
      intro v hv x e
      simp only [List.mem_cons, List.not_mem_nil, or_false] at hv
      rcases hv with rfl | rfl | rfl <;> cases e
    have hgn : ¬ nb (.slice (some ⟨bg, 0, none⟩) nf cf) (w.heap.size + 1 + 1) := by
      intro e
      simp [nb, Value.ownBlock] at e
      omega
    have p4 := p3.set 0 (.slice (some ⟨bg, 0, none⟩) nf cf)
    have p5 := p4.set 1 (.slice Ae m ce)
    have p6 := p5.set 2 (.slice Ab k cb)
    have F9 := ((F6.setRow2 p3 n0 hgn 0 (.slice (some ⟨bg, 0, none⟩) nf cf)).setRow2 p4 n1 hgn 1 (.slice Ae m ce)).setRow2 p5 n2 hgn 2 (.slice Ab k cb)
    have B9 := ((B6.setCell (p := ⟨w.heap.size + 1 + 1, 0, none⟩) (by show B ≤ w.heap.size + 1 + 1; omega) (.slice (some ⟨bg, 0, none⟩) nf cf)).setCell (p := ⟨w.heap.size + 1 + 1, 1, none⟩) (by show B ≤ w.heap.size + 1 + 1; omega) (.slice Ae m ce)).setCell (p := ⟨w.heap.size + 1 + 1, 2, none⟩) (by show B ≤ w.heap.size + 1 + 1; omega) (.slice Ab k cb)
    go_wp2_with fail
    obtain ⟨W9, hW9⟩ : ∃ W9, ((w6.setCell ⟨w.heap.size + 1 + 1, 0, none⟩ (.slice (some ⟨bg, 0, none⟩) nf cf)).setCell ⟨w.heap.size + 1 + 1, 1, none⟩ (.slice Ae m ce)).setCell ⟨w.heap.size + 1 + 1, 2, none⟩ (.slice Ab k cb) = W9 := ⟨_, rfl⟩
    rw [hW9] at p6 F9 B9 ⊢
    have e0 := p6.cell (j := 0) rfl
    have e1 := p6.cell (j := 1) rfl
    have e2 := p6.cell (j := 2) rfl
    exact bodyPost_ret (v := .agg #[.slice (some ⟨bg, 0, none⟩) nf cf, .slice Ae m ce, .slice Ab k cb]) (by simp [results, Tryz.results21, go_sem, e0, e1, e2]) rfl ⟨⟨at', f, nf, HAT.out, HFF.out, by unfold dropL; rw [HNM.out, HQ.out]; exact HNF.out, rfl, by unfold dropL; rw [HNM.out, HQ.out]; exact F9⟩, B9⟩
  | false =>
    have hdel := delete_any (some ⟨bg, 0, none⟩) fs B nf cf at' w6 F6 hatl hn1
    have u0 := p1.cell (j := 0) rfl
    go_wp2_with fail
    refine hdel.mono ?_
    rintro e w7 ⟨rfl, F7, hx7⟩
    have hgne : bg ≠ w.heap.size ∧ bg ≠ w.heap.size + 1 + 1 := by omega
    have p1' : Row w7 w.heap.size 49 [.slice (some ⟨bg, 0, none⟩) nf cf, .slice Ae m ce, .slice Ab k cb] := hx7.row p1 (by intro e; simp [nb, Value.ownBlock] at e; omega)
    have p3' : Row w7 (w.heap.size + 1 + 1) 49 [.slice none 0 0, .slice none 0 0, .slice none 0 0] := hx7.row p3 (by intro e; simp [nb, Value.ownBlock] at e; omega)
    have B7 : Below B w w7 := hx7.below B6 (by have := hbw6.size; omega) (by intro b e; simp [nb, Value.ownBlock] at e; omega)
    have v0 := p1'.cell (j := 0) rfl
    have vz := p1'.frozen 0
    have p1 := p1'.set 0 (.slice (some ⟨bg, 0, none⟩) (nf - 1) cf)
    have p3 : Row (w7.setCell ⟨w.heap.size, 0, none⟩ (.slice (some ⟨bg, 0, none⟩) (nf - 1) cf)) (w.heap.size + 1 + 1) 49 [.slice none 0 0, .slice none 0 0, .slice none 0 0] := p3'.far (a := ⟨w.heap.size, 0, none⟩) (by show w.heap.size ≠ w.heap.size + 1 + 1; omega) _
    have F6 := F7.setRow2 p1' (t := 49) (by
      intro v hv x e
      simp only [List.mem_cons, List.not_mem_nil, or_false] at hv
      rcases hv with rfl | rfl | rfl <;> cases e) (by intro e; simp [nb, Value.ownBlock] at e; omega) 0 (.slice (some ⟨bg, 0, none⟩) (nf - 1) cf)
    have B6 := B7.setCell (p := ⟨w.heap.size, 0, none⟩) (by show B ≤ w.heap.size; exact hB) (.slice (some ⟨bg, 0, none⟩) (nf - 1) cf)
    obtain ⟨w8, hw8⟩ : ∃ w8, w7.setCell ⟨w.heap.size, 0, none⟩ (.slice (some ⟨bg, 0, none⟩) (nf - 1) cf) = w8 := ⟨_, rfl⟩
    go_upto_region 19 with fail
    rw [hw8] at p1 p3 F6 B6
    clear hw8 v0 vz u0 p1' p3' F7 hx7 B7
    obtain ⟨w6, rfl⟩ : ∃ w6, w6 = w8 := ⟨_, rfl⟩
    have t0 := p1.cell (j := 0) rfl
    have t1 := p1.cell (j := 1) rfl
    have t2 := p1.cell (j := 2) rfl
    have s0 := p3.cell (j := 0) rfl
    have s1 := p3.cell (j := 1) rfl
    have s2 := p3.cell (j := 2) rfl
    have z0 := p3.frozen 0
    have z1 := p3.frozen 1
    have z2 := p3.frozen 2
    have n0 : ∀ v ∈ ([.slice none 0 0, .slice none 0 0, .slice none 0 0] : List Value), ∀ x : UInt8, v ≠ bv x := by
      intro v hv x e
      simp only [List.mem_cons, List.not_mem_nil, or_false, or_self] at hv
      subst hv
      cases e
    have n1 : ∀ v ∈ ([.slice (some ⟨bg, 0, none⟩) (nf - 1) cf, .slice none 0 0, .slice none 0 0] : List Value), ∀ x : UInt8, v ≠ bv x := by
      intro v hv x e
      simp only [List.mem_cons, List.not_mem_nil, or_false, or_self] at hv
      rcases hv with rfl | rfl <;> cases e
    have n2 : ∀ v ∈ ([.slice (some ⟨bg, 0, none⟩) (nf - 1) cf, .slice Ae m ce, .slice none 0 0] : List Value), ∀ x : UInt8, v ≠ bv x := by
      intro v hv x e
      simp only [List.mem_cons, List.not_mem_nil, or_false] at hv
      rcases hv with rfl | rfl | rfl <;> cases e
    have hgn : ¬ nb (.slice (some ⟨bg, 0, none⟩) (nf - 1) cf) (w.heap.size + 1 + 1) := by
      intro e
      simp [nb, Value.ownBlock] at e
      omega
    have p4 := p3.set 0 (.slice (some ⟨bg, 0, none⟩) (nf - 1) cf)
    have p5 := p4.set 1 (.slice Ae m ce)
    have p6 := p5.set 2 (.slice Ab k cb)
    have F9 := ((F6.setRow2 p3 n0 hgn 0 (.slice (some ⟨bg, 0, none⟩) (nf - 1) cf)).setRow2 p4 n1 hgn 1 (.slice Ae m ce)).setRow2 p5 n2 hgn 2 (.slice Ab k cb)
    have B9 := ((B6.setCell (p := ⟨w.heap.size + 1 + 1, 0, none⟩) (by show B ≤ w.heap.size + 1 + 1; omega) (.slice (some ⟨bg, 0, none⟩) (nf - 1) cf)).setCell (p := ⟨w.heap.size + 1 + 1, 1, none⟩) (by show B ≤ w.heap.size + 1 + 1; omega) (.slice Ae m ce)).setCell (p := ⟨w.heap.size + 1 + 1, 2, none⟩) (by show B ≤ w.heap.size + 1 + 1; omega) (.slice Ab k cb)
    go_wp2_with fail
    obtain ⟨W9, hW9⟩ : ∃ W9, ((w6.setCell ⟨w.heap.size + 1 + 1, 0, none⟩ (.slice (some ⟨bg, 0, none⟩) (nf - 1) cf)).setCell ⟨w.heap.size + 1 + 1, 1, none⟩ (.slice Ae m ce)).setCell ⟨w.heap.size + 1 + 1, 2, none⟩ (.slice Ab k cb) = W9 := ⟨_, rfl⟩
    rw [hW9] at p6 F9 B9 ⊢
    have e0 := p6.cell (j := 0) rfl
    have e1 := p6.cell (j := 1) rfl
    have e2 := p6.cell (j := 2) rfl
    exact bodyPost_ret (v := .agg #[.slice (some ⟨bg, 0, none⟩) (nf - 1) cf, .slice Ae m ce, .slice Ab k cb]) (by simp [results, Tryz.results21, go_sem, e0, e1, e2]) rfl ⟨⟨at', f, nf - 1, HAT.out, HFF.out, by unfold dropL; rw [HNM.out, HQ.out]; show (fs.eraseIdx at').length = nf - 1; rw [List.length_eraseIdx, HNF.out, if_pos hatl], rfl, by unfold dropL; rw [HNM.out, HQ.out]; exact F9⟩, B9⟩
end Go.Proofs.YtcagkoakbdbbaaaGreatDoor
