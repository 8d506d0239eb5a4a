/- The program's change at kind 8: armor's lines cut anew. -/
import Derived.Test.YtcagkoakbdbbaaaGreatDoorJ30
namespace Go.Proofs.YtcagkoakbdbbaaaGreatDoor
set_option linter.unusedVariables false
set_option linter.unusedSimpArgs false
open Go.RowKit

theorem rb_set3 {W : World} {A : Option Addr} {l : List UInt8} {g : Nat} (h : Rb W A l) (hn : ∀ b o, A = some ⟨b, o, none⟩ → l ≠ [] → b ≠ g) (j : Nat) (v : Value) : Rb (W.setCell ⟨g, j, none⟩ v) A l := fun hp => by
  obtain ⟨b, o, e, hc⟩ := h hp
  have hl : l ≠ [] := by intro e; rw [e] at hp; simp at hp
  have hb := hn b o e hl
  exact ⟨b, o, e, fun i x hx => (World.cell?_setCell_other W ⟨g, j, none⟩ ⟨b, o + i, none⟩ v (fun e => hb (by injection e with e1; exact e1.symm))).trans (hc i x hx)⟩
theorem wrap_tb {b : List UInt8} {k m : Nat} (hk : 0 < k) (hm : m ≤ (flatT (fl b)).length) (hj : ∀ j, j < m → j * k < (flatT (fl b)).length) : TB b (wrapL k m (flatT (fl b))) := by
  have hn : ∀ x ∈ flatT (fl b), x ≠ 10 := by
    intro x hx
    unfold flatT at hx
    obtain ⟨y, hy, hxy⟩ := List.mem_flatten.1 hx
    obtain ⟨z, hz, rfl⟩ := List.mem_map.1 hy
    exact text_nolf hz x hxy
  obtain ⟨w1, w2, w3, w4⟩ := wrap_lines k hn m hj hk
  refine ⟨?_, by rw [w3]; omega⟩
  rw [w2, List.length_take]
  omega

set_option maxRecDepth 100000 in
set_option maxHeartbeats 2000000 in
theorem change_wrap (Af Ae Ab : Option Addr) (fs : List (List UInt8)) (bd : List UInt8) (B n cf ce cb m k : Nat) (N M : Int) (T : ByteArray) (w : World) (hG : Gl w) (hF : FR w B (.slice Af n cf) fs) (hB : B ≤ w.heap.size) (hn0 : 0 < n) (hn1 : n ≤ 1000000) (hN : -9223372036854775808 ≤ N ∧ N ≤ 9223372036854775807) (hM : -9223372036854775808 ≤ M ∧ M ≤ 9223372036854775807) (hll : ∀ f ∈ fs, f.length ≤ 1000000) (hbd : Rb w Ab bd) (hbk : bd.length = k) (hkc : k ≤ cb) (hk6 : k ≤ 1000000) :
    Calls Tryz.prog 21 #[.agg #[.slice Af n cf, .slice Ae m ce, .slice Ab k cb], .agg #[.int .i64 8, .int .i64 N, .int .i64 M, .string T]] w fun e w' => (∃ (A7 : Option Addr) (c7 : Nat) (r : List UInt8) (r7 : Nat), TB bd r ∧ r.length = r7 ∧ r7 ≤ c7 ∧ e = .returned (.agg #[.slice Af n cf, .slice Ae m ce, .slice A7 r7 c7]) ∧ FR w' B (.slice Af n cf) fs ∧ Rb w' A7 r) ∧ Below B w w' := by
  have HLL := Lib.hid hll
  obtain ⟨vs, ho, he⟩ := hF
  obtain ⟨_, _, e9, hnc, _, hRv, hvl⟩ := own_form ho
  cases e9
  obtain ⟨at', hat⟩ : ∃ a : Nat, N % (fs.length : Int) = (a : Int) := ⟨(N % (fs.length : Int)).toNat, by have := Int.emod_nonneg N (by omega : (fs.length : Int) ≠ 0); omega⟩
  have hatl : at' < fs.length := by have := Int.emod_lt_of_pos N (by omega : (0 : Int) < (fs.length : Int)); omega
  obtain ⟨nf, hnf⟩ : ∃ nf, fs.length = nf := ⟨_, rfl⟩
  obtain ⟨f, hf⟩ : ∃ f, fs[at']? = some f := ⟨_, List.getElem?_eq_getElem hatl⟩
  obtain ⟨bz, oz, cz, hvz, hzc, hz0, hRz, _⟩ := he at' f hf
  obtain ⟨bg, hgo, hgb, hgl⟩ : ∃ go, Af = some ⟨go, 0, none⟩ ∧ B ≤ go ∧ go < w.heap.size := by
    rcases ho.2 with ⟨hv, _⟩ | ⟨g, cap, cur, hv, hbg, hg, _⟩
    · injection hv with h1 h2 h3; omega
    · injection hv with h1 h2 h3; exact ⟨g, h1, hbg, (Array.getElem?_eq_some_iff.1 hg).1⟩
  subst hgo
  obtain ⟨fn, hfn⟩ : ∃ fn, f.length = fn := ⟨_, rfl⟩
  have HFN := Lib.hid hfn
  have hfl := hll f (List.mem_of_getElem? hf)
  rw [hfn] at hvz hzc hfl
  have hfn0 : 0 < fn := by rw [← hfn]; exact List.length_pos_iff.2 hz0
  have hat0 := hat
  have HNF := Lib.hid hnf
  rw [hnf] at hn0 hn1 hat hatl ⊢
  obtain ⟨W3, hW3⟩ : ∃ W3, ((w.alloc (.cells #[.slice (some ⟨bg, 0, none⟩) nf cf, .slice Ae m ce, .slice Ab k cb] 49)).alloc (.cells #[.int .i64 8, .int .i64 N, .int .i64 M, .string T] 26)).alloc (.cells #[.slice none 0 0, .slice none 0 0, .slice none 0 0] 49) = W3 := ⟨_, rfl⟩
  have hb3 : Below w.heap.size w W3 := by rw [← hW3]; exact (((Below.refl _ w).alloc (Nat.le_refl _) _).alloc (by simp) _).alloc (by simp; omega) _
  have r1 : Row W3 w.heap.size 49 [.slice (some ⟨bg, 0, none⟩) nf cf, .slice Ae m ce, .slice Ab k cb] := by rw [← hW3]; exact ((Row.new w _ _).alloc _).alloc _
  have r2 : Row W3 (w.heap.size + 1) 26 [.int .i64 8, .int .i64 N, .int .i64 M, .string T] := by
    have h := (Row.new (w.alloc (.cells #[.slice (some ⟨bg, 0, none⟩) nf cf, .slice Ae m ce, .slice Ab k cb] 49)) #[.int .i64 8, .int .i64 N, .int .i64 M, .string T] 26).alloc (.cells #[.slice none 0 0, .slice none 0 0, .slice none 0 0] 49)
    rw [World.size_alloc, hW3] at h
    exact h
  have r3 : Row W3 (w.heap.size + 1 + 1) 49 [.slice none 0 0, .slice none 0 0, .slice none 0 0] := by
    have h := Row.new ((w.alloc (.cells #[.slice (some ⟨bg, 0, none⟩) nf cf, .slice Ae m ce, .slice Ab k cb] 49)).alloc (.cells #[.int .i64 8, .int .i64 N, .int .i64 M, .string T] 26)) #[.slice none 0 0, .slice none 0 0, .slice none 0 0] 49
    rw [World.size_alloc, World.size_alloc, hW3] at h
    exact h
  have hs3 : w.heap.size + 3 ≤ W3.heap.size := by rw [← hW3]; simp
  have ho3 := own_below ho hb3
  have hF0 : FR W3 B (.slice (some ⟨bg, 0, none⟩) nf cf) fs := FR.below (W := w) ⟨vs, by have h := ho; rw [HNF.out] at h; rw [HNF.out]; exact h, he⟩ hb3
  have hg0 : W3.cell? ⟨bg, at', none⟩ = some (.slice (some ⟨bz, oz, none⟩) fn cz) := by
    have h1 := ho3.cells (g := bg) rfl at' _ hvz
    rw [addr_add, Nat.zero_add] at h1
    exact h1
  have hR3 := hRz.below hb3
  have a0 := r1.cell (j := 0) rfl
  have a1 := r1.cell (j := 1) rfl
  have a2 := r1.cell (j := 2) rfl
  have x0 := r2.cell (j := 0) rfl
  have x1 := r2.cell (j := 1) rfl
  have x2 := r2.cell (j := 2) rfl
  have hre := rest_any N nf W3 hn0 hn1 hN
  rw [hat] at hre
  have hia := ixa bg nf cf at' hatl
  have HAT := Lib.hid hat
  have HFF := Lib.hid hf
  have hvl2 : vs.length = nf := by have := ho.1; omega
  have HBK := Lib.hid hbk
  obtain ⟨kk, hkM⟩ : ∃ kk : Nat, M % 76 = (kk : Int) := ⟨(M % 76).toNat, by have := Int.emod_nonneg M (by decide : (76 : Int) ≠ 0); omega⟩
  have hk76 : kk < 76 := by have := Int.emod_lt_of_pos M (by decide : (0 : Int) < 76); omega
  have hre2 : ∀ W, Calls Tryz.prog 20 #[.int .i64 M, .int .i64 76] W fun e w' => e = .returned (.int .i64 (kk : Int)) ∧ w' = W := fun W => by rw [← hkM]; exact rest_any M 76 W (by omega) (by omega) hM
  have harm := armored_any (some ⟨bg, 0, none⟩) Ae Ab fs B nf cf ce cb m k W3 (hG.below hb3).tabs hF0 hn1 HLL.out
  clear hnf hvz hRv hvl hfn hat hat0 hf hRz hbk hkM hll hfl hz0 he
  go_enter Tryz.func21, Tryz.ntmps21
  go_upto_region 1 with fail
  go_wp2_with fail
  refine hre.mono ?_
  rintro e w4 ⟨rfl, rfl⟩
  go_wp2_with fail
  refine (hre2 _).mono ?_
  rintro e w4' ⟨rfl, rfl⟩
  go_wp2_with fail
  refine harm.mono ?_
  rintro e w5 ⟨⟨q, rfl⟩, hb5⟩
  have u0 := (r1.below hb5).cell (j := 2) rfl
  have hbd5 := (hbd.below hb3).below hb5
  have hw05 := hb3.trans (hb5.mono hb3.size)
  have hs5 := hb5.size
  cases q with
  | true =>
    have hsp := callsIn_wide.1 (lsplit_in 5 (Nat.le_refl _) Ab bd k cb w5 HBK.out hbd5 hkc (by omega))
    clear harm hre hre2 x0 x1 x2 a0 a1 a2 hg0
    go_wp2_with fail
    refine hsp.mono ?_
    rintro e w6' ⟨⟨v, ps, rfl, hls, hle, hown⟩, hb6⟩
    obtain ⟨Al, cl, hv, hlc, hlm, hRl, _⟩ := own_form hown
    subst hv
    have hto : lnTold bd ps = fl bd := hls.all hle
    have hps := hls.2.2.2
    rw [hle, HBK.out] at hps
    have hall : (flatT (fl bd)).length ≤ 1000000 := by
      have h1 := flat_len2 bd
      rw [HBK.out] at h1
      omega
    have hwr := wrap_any Ab Al bd ps ps.length cl (kk + 1) w6' (hbd5.below hb6) rfl hRl (fun p hp => hls.2.2.1 p hp) hlc (by rw [HBK.out]; exact hk6) (by rw [hto]; exact hall) (by omega) (by omega) (by omega)
    rw [hto] at hwr
    have ekk : ((kk + 1 : Nat) : Int) = (kk : Int) + 1 := by omega
    rw [ekk] at hwr
    obtain ⟨pn, hpn⟩ : ∃ pn, ps.length = pn := ⟨_, rfl⟩
    rw [hpn] at hwr ⊢
    clear hsp hto hall hls hle hown hRl hpn hps
    go_wp2_with fail
    refine hwr.mono ?_
    rintro e w7 ⟨⟨v7, rfl, mm, hm1, hm2, hov7⟩, hb7⟩
    have HTB : Hid (TB bd (wrapL (kk + 1) mm (flatT (fl bd)))) := Lib.hid (wrap_tb (by omega) hm1 hm2)
    generalize wrapL (kk + 1) mm (flatT (fl bd)) = rs at *
    have hB7 : Below w4'.heap.size w4' w7 := hb5.trans ((hb6.trans (hb7.mono hb6.size)).mono hb5.size)
    have hB7' : Below w4'.heap.size w4' w6' := hb5.trans (hb6.mono hb5.size)
    clear hwr hm1 hm2 hb6 hb7
    obtain ⟨A7, c7, e7, h7c, h7m, hR7, _, h7p⟩ : ∃ A7 c7, v7 = .slice A7 rs.length c7 ∧ rs.length ≤ c7 ∧ c7 ≤ maxLen ∧ Rb w7 A7 rs ∧ True ∧ Pl A7 c7 := by
      obtain ⟨A2, c2, e2, h1, h2, h3, h4⟩ := BOut.own hov7
      exact ⟨A2, c2, by injection e2, h1, h2, h3, trivial, h4⟩
    obtain ⟨r7, hr7⟩ : ∃ r7, rs.length = r7 := ⟨_, rfl⟩
    have HRN := Lib.hid hr7
    rw [hr7] at e7 h7c
    subst e7
    have h7n : ∀ b o, A7 = some ⟨b, o, none⟩ → rs ≠ [] → b ≠ w.heap.size ∧ b ≠ w.heap.size + 1 + 1 := by
      intro b o e h0
      have hk : nb (.slice A7 r7 c7) b := by rw [e]; simp [nb, Value.ownBlock]
      have h1 := (hov7.lt b hk).1
      have h2 := hB7'.size
      omega
    clear hov7 hr7
    have p1 := r1.below hB7
    have p3 := r3.below hB7
    have F6 := hF0.below hB7
    have B6 : Below B w w7 := (hb3.trans (hB7.mono hb3.size)).mono hB
    have t0 := p1.cell (j := 2) rfl
    have t0z := p1.frozen 2
    have p1 := p1.set 2 (.slice A7 r7 c7)
    have p3 := p3.far (a := ⟨w.heap.size, 2, none⟩) (by show w.heap.size ≠ w.heap.size + 1 + 1; omega) (.slice A7 r7 c7)
    have F6 := F6.setRow2 (r1.below hB7) (by
      intro v hv x e
      simp only [List.mem_cons, List.not_mem_nil, or_false] at hv
      rcases hv with rfl | rfl | rfl <;> cases e) (by intro e; simp [nb, Value.ownBlock] at e; omega) 2 (.slice A7 r7 c7)
    have B6 := B6.setCell (p := ⟨w.heap.size, 2, none⟩) (by show B ≤ w.heap.size; exact hB) (.slice A7 r7 c7)
    have R6 : Rb (w7.setCell ⟨w.heap.size, 2, none⟩ (.slice A7 r7 c7)) A7 rs := rb_set3 hR7 (fun b o e h0 => (h7n b o e h0).1) 2 _
    go_upto_region 19 with fail
    obtain ⟨w6, hw6⟩ : ∃ w6, w7.setCell ⟨w.heap.size, 2, none⟩ (.slice A7 r7 c7) = w6 := ⟨_, rfl⟩
    rw [hw6] at p1 p3 F6 B6 R6 ⊢
    clear hw6 t0 t0z hR7
    have t0 := p1.cell (j := 0) rfl
    have t1 := p1.cell (j := 1) rfl
    have t2 := p1.cell (j := 2) rfl
    have s0 := p3.cell (j := 0) rfl
    have s1 := p3.cell (j := 1) rfl
    have s2 := p3.cell (j := 2) rfl
    have z0 := p3.frozen 0
    have z1 := p3.frozen 1
    have z2 := p3.frozen 2
    have n0 : ∀ v ∈ ([.slice none 0 0, .slice none 0 0, .slice none 0 0] : List Value), ∀ x : UInt8, v ≠ bv x := by
      intro v hv x e
      simp only [List.mem_cons, List.not_mem_nil, or_false, or_self] at hv
      subst hv
      cases e
    have n1 : ∀ v ∈ ([.slice (some ⟨bg, 0, none⟩) nf cf, .slice none 0 0, .slice none 0 0] : List Value), ∀ x : UInt8, v ≠ bv x := by
      intro v hv x e
      simp only [List.mem_cons, List.not_mem_nil, or_false, or_self] at hv
      rcases hv with rfl | rfl <;> cases e
    have n2 : ∀ v ∈ ([.slice (some ⟨bg, 0, none⟩) nf cf, .slice Ae m ce, .slice none 0 0] : List Value), ∀ x : UInt8, v ≠ bv x := by
      intro v hv x e
      simp only [List.mem_cons, List.not_mem_nil, or_false] at hv
      rcases hv with rfl | rfl | rfl <;> cases e
    have hgn : ¬ nb (.slice (some ⟨bg, 0, none⟩) nf cf) (w.heap.size + 1 + 1) := by
      intro e
      simp [nb, Value.ownBlock] at e
      omega
    have p4 := p3.set 0 (.slice (some ⟨bg, 0, none⟩) nf cf)
    have p5 := p4.set 1 (.slice Ae m ce)
    have p6 := p5.set 2 (.slice A7 r7 c7)
    have F9 := ((F6.setRow2 p3 n0 hgn 0 (.slice (some ⟨bg, 0, none⟩) nf cf)).setRow2 p4 n1 hgn 1 (.slice Ae m ce)).setRow2 p5 n2 hgn 2 (.slice A7 r7 c7)
    have B9 := ((B6.setCell (p := ⟨w.heap.size + 1 + 1, 0, none⟩) (by show B ≤ w.heap.size + 1 + 1; omega) (.slice (some ⟨bg, 0, none⟩) nf cf)).setCell (p := ⟨w.heap.size + 1 + 1, 1, none⟩) (by show B ≤ w.heap.size + 1 + 1; omega) (.slice Ae m ce)).setCell (p := ⟨w.heap.size + 1 + 1, 2, none⟩) (by show B ≤ w.heap.size + 1 + 1; omega) (.slice A7 r7 c7)
    have R9 := rb_set3 (rb_set3 (rb_set3 R6 (fun b o e h0 => (h7n b o e h0).2) 0 (.slice (some ⟨bg, 0, none⟩) nf cf)) (fun b o e h0 => (h7n b o e h0).2) 1 (.slice Ae m ce)) (fun b o e h0 => (h7n b o e h0).2) 2 (.slice A7 r7 c7)
    go_wp2_with fail
    obtain ⟨W9, hW9⟩ : ∃ W9, ((w6.setCell ⟨w.heap.size + 1 + 1, 0, none⟩ (.slice (some ⟨bg, 0, none⟩) nf cf)).setCell ⟨w.heap.size + 1 + 1, 1, none⟩ (.slice Ae m ce)).setCell ⟨w.heap.size + 1 + 1, 2, none⟩ (.slice A7 r7 c7) = W9 := ⟨_, rfl⟩
    rw [hW9] at p6 F9 B9 R9 ⊢
    have e0 := p6.cell (j := 0) rfl
    have e1 := p6.cell (j := 1) rfl
    have e2 := p6.cell (j := 2) rfl
    exact bodyPost_ret (v := .agg #[.slice (some ⟨bg, 0, none⟩) nf cf, .slice Ae m ce, .slice A7 r7 c7]) (by simp [results, Tryz.results21, go_sem, e0, e1, e2]) rfl ⟨⟨A7, c7, rs, r7, HTB.out, HRN.out, h7c, rfl, F9, R9⟩, B9⟩
  | false =>
    have hpa := parts_any Ab bd k cb (kk + 1) w5 ((hG.below hw05).tabs) HBK.out hbd5 hkc hk6 (by omega) (by omega)
    have ekk : ((kk + 1 : Nat) : Int) = (kk : Int) + 1 := by omega
    rw [ekk] at hpa
    clear harm hre hre2 x0 x1 x2 a0 a1 a2 hg0
    go_wp2_with fail
    refine hpa.mono ?_
    rintro e w7 ⟨⟨v7, rfl, rs, htb, hov7⟩, hb7⟩
    have HTB := Lib.hid htb
    have hB7 : Below w4'.heap.size w4' w7 := hb5.trans (hb7.mono hb5.size)
    have hB7' := hb5
    clear hpa htb hb7
    obtain ⟨A7, c7, e7, h7c, h7m, hR7, _, h7p⟩ : ∃ A7 c7, v7 = .slice A7 rs.length c7 ∧ rs.length ≤ c7 ∧ c7 ≤ maxLen ∧ Rb w7 A7 rs ∧ True ∧ Pl A7 c7 := by
      obtain ⟨A2, c2, e2, h1, h2, h3, h4⟩ := BOut.own hov7
      exact ⟨A2, c2, by injection e2, h1, h2, h3, trivial, h4⟩
    obtain ⟨r7, hr7⟩ : ∃ r7, rs.length = r7 := ⟨_, rfl⟩
    have HRN := Lib.hid hr7
    rw [hr7] at e7 h7c
    subst e7
    have h7n : ∀ b o, A7 = some ⟨b, o, none⟩ → rs ≠ [] → b ≠ w.heap.size ∧ b ≠ w.heap.size + 1 + 1 := by
      intro b o e h0
      have hk : nb (.slice A7 r7 c7) b := by rw [e]; simp [nb, Value.ownBlock]
      have h1 := (hov7.lt b hk).1
      have h2 := hB7'.size
      omega
    clear hov7 hr7
    have p1 := r1.below hB7
    have p3 := r3.below hB7
    have F6 := hF0.below hB7
    have B6 : Below B w w7 := (hb3.trans (hB7.mono hb3.size)).mono hB
    have t0 := p1.cell (j := 2) rfl
    have t0z := p1.frozen 2
    have p1 := p1.set 2 (.slice A7 r7 c7)
    have p3 := p3.far (a := ⟨w.heap.size, 2, none⟩) (by show w.heap.size ≠ w.heap.size + 1 + 1; omega) (.slice A7 r7 c7)
    have F6 := F6.setRow2 (r1.below hB7) (by
      intro v hv x e
      simp only [List.mem_cons, List.not_mem_nil, or_false] at hv
      rcases hv with rfl | rfl | rfl <;> cases e) (by intro e; simp [nb, Value.ownBlock] at e; omega) 2 (.slice A7 r7 c7)
    have B6 := B6.setCell (p := ⟨w.heap.size, 2, none⟩) (by show B ≤ w.heap.size; exact hB) (.slice A7 r7 c7)
    have R6 : Rb (w7.setCell ⟨w.heap.size, 2, none⟩ (.slice A7 r7 c7)) A7 rs := rb_set3 hR7 (fun b o e h0 => (h7n b o e h0).1) 2 _
    go_upto_region 19 with fail
    obtain ⟨w6, hw6⟩ : ∃ w6, w7.setCell ⟨w.heap.size, 2, none⟩ (.slice A7 r7 c7) = w6 := ⟨_, rfl⟩
    rw [hw6] at p1 p3 F6 B6 R6 ⊢
    clear hw6 t0 t0z hR7
    have t0 := p1.cell (j := 0) rfl
    have t1 := p1.cell (j := 1) rfl
    have t2 := p1.cell (j := 2) rfl
    have s0 := p3.cell (j := 0) rfl
    have s1 := p3.cell (j := 1) rfl
    have s2 := p3.cell (j := 2) rfl
    have z0 := p3.frozen 0
    have z1 := p3.frozen 1
    have z2 := p3.frozen 2
    have n0 : ∀ v ∈ ([.slice none 0 0, .slice none 0 0, .slice none 0 0] : List Value), ∀ x : UInt8, v ≠ bv x := by
      intro v hv x e
      simp only [List.mem_cons, List.not_mem_nil, or_false, or_self] at hv
      subst hv
      cases e
    have n1 : ∀ v ∈ ([.slice (some ⟨bg, 0, none⟩) nf cf, .slice none 0 0, .slice none 0 0] : List Value), ∀ x : UInt8, v ≠ bv x := by
      intro v hv x e
      simp only [List.mem_cons, List.not_mem_nil, or_false, or_self] at hv
      rcases hv with rfl | rfl <;> cases e
    have n2 : ∀ v ∈ ([.slice (some ⟨bg, 0, none⟩) nf cf, .slice Ae m ce, .slice none 0 0] : List Value), ∀ x : UInt8, v ≠ bv x := by
      intro v hv x e
      simp only [List.mem_cons, List.not_mem_nil, or_false] at hv
      rcases hv with rfl | rfl | rfl <;> cases e
    have hgn : ¬ nb (.slice (some ⟨bg, 0, none⟩) nf cf) (w.heap.size + 1 + 1) := by
      intro e
      simp [nb, Value.ownBlock] at e
      omega
    have p4 := p3.set 0 (.slice (some ⟨bg, 0, none⟩) nf cf)
    have p5 := p4.set 1 (.slice Ae m ce)
    have p6 := p5.set 2 (.slice A7 r7 c7)
    have F9 := ((F6.setRow2 p3 n0 hgn 0 (.slice (some ⟨bg, 0, none⟩) nf cf)).setRow2 p4 n1 hgn 1 (.slice Ae m ce)).setRow2 p5 n2 hgn 2 (.slice A7 r7 c7)
    have B9 := ((B6.setCell (p := ⟨w.heap.size + 1 + 1, 0, none⟩) (by show B ≤ w.heap.size + 1 + 1; omega) (.slice (some ⟨bg, 0, none⟩) nf cf)).setCell (p := ⟨w.heap.size + 1 + 1, 1, none⟩) (by show B ≤ w.heap.size + 1 + 1; omega) (.slice Ae m ce)).setCell (p := ⟨w.heap.size + 1 + 1, 2, none⟩) (by show B ≤ w.heap.size + 1 + 1; omega) (.slice A7 r7 c7)
    have R9 := rb_set3 (rb_set3 (rb_set3 R6 (fun b o e h0 => (h7n b o e h0).2) 0 (.slice (some ⟨bg, 0, none⟩) nf cf)) (fun b o e h0 => (h7n b o e h0).2) 1 (.slice Ae m ce)) (fun b o e h0 => (h7n b o e h0).2) 2 (.slice A7 r7 c7)
    go_wp2_with fail
    obtain ⟨W9, hW9⟩ : ∃ W9, ((w6.setCell ⟨w.heap.size + 1 + 1, 0, none⟩ (.slice (some ⟨bg, 0, none⟩) nf cf)).setCell ⟨w.heap.size + 1 + 1, 1, none⟩ (.slice Ae m ce)).setCell ⟨w.heap.size + 1 + 1, 2, none⟩ (.slice A7 r7 c7) = W9 := ⟨_, rfl⟩
    rw [hW9] at p6 F9 B9 R9 ⊢
    have e0 := p6.cell (j := 0) rfl
    have e1 := p6.cell (j := 1) rfl
    have e2 := p6.cell (j := 2) rfl
    exact bodyPost_ret (v := .agg #[.slice (some ⟨bg, 0, none⟩) nf cf, .slice Ae m ce, .slice A7 r7 c7]) (by simp [results, Tryz.results21, go_sem, e0, e1, e2]) rfl ⟨⟨A7, c7, rs, r7, HTB.out, HRN.out, h7c, rfl, F9, R9⟩, B9⟩
end Go.Proofs.YtcagkoakbdbbaaaGreatDoor
