/- A mail's bytes: bytes.Join of its fields, its head's end and its body. · The program's rest; a mail with one field's letters changed. -/
import Derived.Test.YtcagkoakbdbbaaaGreatDoorJ13
import Derived.Deep.RegionWith
namespace Go.Proofs.YtcagkoakbdbbaaaGreatDoor
set_option linter.unusedVariables false
set_option linter.unusedSimpArgs false
open Go.RowKit

theorem Rb_fresh {B : Nat} {w : World} {v : Value} {l : List UInt8} (h : Lib.FreshBytes B w v l) : ∃ A c, v = .slice A l.length c ∧ l.length ≤ c ∧ Rb w A l := by
  obtain ⟨g, cap, zs, rfl, hg, hlc, hcm, hz, hzb, hl, hc, hf⟩ := h
  refine ⟨_, cap, rfl, hlc, fun hp => ⟨g, 0, rfl, fun j v hj => ?_⟩⟩
  have hlt := lt_of_get hj
  simp only [List.length_map] at hlt
  rw [Nat.zero_add, hc j (by omega), ← hj]
  have hjz : j < (zs.take l.length).length := by simp; omega
  have hb := hzb (zs.getD j 0) (by rw [List.getD_eq_getElem?_getD, List.getElem?_eq_getElem (by omega : j < zs.length)]; exact List.getElem_mem _)
  have hz' : zs.getD j 0 = zs[j]'(by omega) := by rw [List.getD_eq_getElem?_getD, List.getElem?_eq_getElem (by omega : j < zs.length)]; rfl
  have e : l[j]? = some (UInt8.ofNat (zs.getD j 0).toNat) := by
    rw [hz']
    have h1 : (Lib.bytesOf (zs.take l.length))[j]? = l[j]? := by rw [hl]
    rw [← h1]
    simp [Lib.bytesOf, hlt, List.getElem?_eq_getElem (by omega : j < zs.length)]
  rw [List.getElem?_map, e]
  simp only [Option.map_some, bv]
  rw [UInt8.toNat_ofNat']
  congr 2
  omega

theorem join_flat (ls : List (List UInt8)) : Lib.join ls [] = ls.flatten := by
  rcases ls with _ | ⟨x, r⟩
  · rfl
  · rw [Lib.join_cons, Lib.joinTail]
    simp

theorem BOut.fresh {B : Nat} {w : World} {v : Value} {l : List UInt8} (h : Lib.FreshBytes B w v l) : BOut l (.returned v) w := by
  have h2 := Rb_fresh h
  obtain ⟨g, cap, zs, rfl, hg, hlc, hcm, hz, hzb, hl, hc, hf⟩ := h
  obtain ⟨A, c, e, _, hr⟩ := h2
  cases e
  exact ⟨_, _, rfl, hlc, hcm, hr, .inr ⟨_, _, rfl⟩⟩
theorem holds_of {w : World} {A : Option Addr} {l : List UInt8} {c : Nat} (h : Rb w A l) : Lib.HoldsBytes w (.slice A l.length c) l := by
  refine ⟨A, c, rfl, fun e => ?_, fun b e j x hj => ?_⟩
  · subst e
    cases l with
    | nil => rfl
    | cons a r => obtain ⟨_, _, e, _⟩ := h (by simp); cases e
  · subst e
    obtain ⟨b1, o1, e, hc⟩ := h (by have := lt_of_get hj; simp; omega)
    cases e
    rw [addr_add]
    exact hc j (bv x) (by rw [List.getElem?_map, hj]; rfl)
/-- bytes.Join with nothing between -/
theorem join_any (A : Option Addr) (c n : Nat) (vs : List Value) (ls : List (List UInt8)) (w : World) (hn : ls.length = n) (hA : 0 < n → ∃ g, A = some ⟨g, 0, none⟩ ∧ Lib.PartsAt w ⟨g, 0, none⟩ vs ls) (hc : n ≤ c) (h47 : n ≤ 1000000000) (hlen : ls.flatten.length ≤ 1000000000) :
    Calls Tryz.prog 47 #[.slice A n c, .slice none 0 0] w fun e w' => BOut ls.flatten e w' ∧ Below w.heap.size w w' := by
  rcases (by omega : n = 0 ∨ n = 1 ∨ 2 ≤ n) with rfl | rfl | h2
  · obtain rfl : ls = [] := List.eq_nil_of_length_eq_zero hn
    refine (Tryz.bytes_Join_none _ _ _ _).mono ?_
    rintro e w' ⟨rfl, rfl⟩
    exact ⟨⟨_, _, rfl, Nat.le_refl _, by unfold maxLen; omega, Rb.nil _ _, .inr ⟨_, _, rfl⟩⟩, (Below.refl _ _).alloc (Nat.le_refl _) _⟩
  · obtain ⟨g, rfl, hP⟩ := hA (by omega)
    obtain ⟨l0, rfl⟩ : ∃ l0, ls = [l0] := List.length_eq_one_iff.1 hn
    obtain ⟨p, cap, l, hl, hcell, hp0, hbs⟩ := hP.get 0 (by simp)
    simp at hl
    subst hl
    simp only [List.flatten_cons, List.flatten_nil, List.append_nil] at hlen ⊢
    rw [addr_add] at hcell
    rcases Nat.eq_zero_or_pos l0.length with h0 | h0
    · obtain rfl : l0 = [] := List.eq_nil_of_length_eq_zero h0
      refine (Tryz.bytes_Join_one_empty g 0 c p cap _ w hcell).mono ?_
      rintro e w' ⟨rfl, rfl⟩
      exact ⟨⟨_, _, rfl, Nat.le_refl _, by unfold maxLen; omega, Rb.nil _ _, .inl ⟨rfl, rfl⟩⟩, Below.refl _ _⟩
    · rcases p with _ | a
      · rw [hp0 rfl] at h0
        simp at h0
      refine (Tryz.bytes_Join_one g 0 c a cap l0 _ w hcell (hbs a rfl) h0 (by omega)).mono ?_
      rintro e w' ⟨v, rfl, hv, hb⟩
      exact ⟨BOut.fresh hv, hb⟩
  · obtain ⟨g, rfl, hP⟩ := hA (by omega)
    have hS : Lib.HoldsBytes w (.slice none 0 0) [] := ⟨none, 0, rfl, fun _ => rfl, by simp⟩
    refine (Tryz.bytes_Join_many g 0 n c vs ls _ [] w hn h2 hP hc hS (by omega) (by have h9 : ls.flatten.length = Lib.lens ls := by simp [Lib.lens, List.length_flatten]
                                                                                    simp; omega)).mono ?_
    rintro e w' ⟨v, rfl, hv, hb⟩
    rw [join_flat] at hv
    exact ⟨BOut.fresh hv, hb⟩
theorem FR.parts {W : World} {B : Nat} {A : Option Addr} {n c : Nat} {fs : List (List UInt8)} (h : FR W B (.slice A n c) fs) : fs.length = n ∧ n ≤ c ∧ ∃ vs, (0 < n → ∃ g, A = some ⟨g, 0, none⟩ ∧ Lib.PartsAt W ⟨g, 0, none⟩ vs fs) := by
  obtain ⟨vs, ho, he⟩ := h
  obtain ⟨A', c', e, h1, _, hr, hl⟩ := own_form ho
  cases e
  refine ⟨rfl, h1, vs, fun hp => ?_⟩
  obtain ⟨g, hg⟩ : ∃ g, A = some ⟨g, 0, none⟩ := by
    rcases ho.2 with ⟨hv, _⟩ | ⟨g, cap, cur, hv, _⟩
    · injection hv with h1 h2 h3; omega
    · injection hv with h1 h2 h3; exact ⟨g, h1⟩
  subst hg
  refine ⟨g, rfl, by omega, fun i v hv => ?_, fun i v l hv hl2 => ?_⟩
  · exact ho.cells (g := g) rfl i v hv
  · obtain ⟨b, o, c2, k1, k2, k3, k4, _⟩ := he i l hl2
    rw [hv] at k1
    cases k1
    exact holds_of k4

set_option maxRecDepth 100000 in
set_option maxHeartbeats 1000000 in
theorem bytes_any (Af Ae Ab : Option Addr) (fs : List (List UInt8)) (en bd : List UInt8) (B n cf ce cb m k : Nat) (w : World) (hF : FR w B (.slice Af n cf) fs) (hE : Rb w Ae en) (hD : Rb w Ab bd) (hen : en.length = m) (hbd : bd.length = k) (hB : B ≤ w.heap.size)
    (hn : n ≤ 1000000) (hfl : fs.flatten.length ≤ 1000000) (hm : m ≤ 1000000) (hk : k ≤ 1000000) :
    Calls Tryz.prog 22 #[.agg #[.slice Af n cf, .slice Ae m ce, .slice Ab k cb]] w fun e w' => BOut (fs.flatten ++ en ++ bd) e w' ∧ Below w.heap.size w w' := by
  obtain ⟨L, hL⟩ : ∃ L, fs.flatten = L := ⟨_, rfl⟩
  rw [hL] at hfl ⊢
  have HL := Lib.hid hL
  have HEN := Lib.hid hen
  have HBD := Lib.hid hbd
  clear hen hbd hL
  obtain ⟨W0, hW0⟩ : ∃ W0, w.alloc (.cells #[.slice Af n cf, .slice Ae m ce, .slice Ab k cb] 49) = W0 := ⟨_, rfl⟩
  have hB0 : Below w.heap.size w W0 := by rw [← hW0]; exact (Below.refl _ _).alloc (Nat.le_refl _) _
  have r0 : Row W0 w.heap.size 49 [.slice Af n cf, .slice Ae m ce, .slice Ab k cb] := by rw [← hW0]; exact Row.new w _ _
  have hj1 : ∀ W, Below W0.heap.size W0 W → Calls Tryz.prog 47 #[.slice Af n cf, .slice none 0 0] W fun e w' => BOut L e w' ∧ Below W.heap.size W w' := fun W hW => by
    obtain ⟨h1, h2, vs, h3⟩ := ((hF.below hB0).below hW).parts
    have h := join_any Af cf n vs fs W h1 h3 h2 (by omega) (by rw [HL.out]; omega)
    rw [HL.out] at h
    exact h
  have hc : ∀ W, Below W0.heap.size W0 W → W.cell? ⟨w.heap.size, 0, none⟩ = some (.slice Af n cf) ∧ W.cell? ⟨w.heap.size, 1, none⟩ = some (.slice Ae m ce) ∧ W.cell? ⟨w.heap.size, 2, none⟩ = some (.slice Ab k cb) := fun W hW =>
    ⟨(r0.below hW).cell (j := 0) rfl, (r0.below hW).cell (j := 1) rfl, (r0.below hW).cell (j := 2) rfl⟩
  have hj2 : ∀ W A1 c1, Below W0.heap.size W0 W → Rb W A1 L → Calls Tryz.prog 47 #[.slice (some ⟨W.heap.size, 0, none⟩) 3 3, .slice none 0 0] (W.alloc (.cells #[.slice A1 L.length c1, .slice Ae m ce, .slice Ab k cb] 22)) fun e w' => BOut (L ++ en ++ bd) e w' ∧ Below (W.heap.size + 1) (W.alloc (.cells #[.slice A1 L.length c1, .slice Ae m ce, .slice Ab k cb] 22)) w' := fun W A1 c1 hW hA1 => by
    have hbA : Below W.heap.size W (W.alloc (.cells #[.slice A1 L.length c1, .slice Ae m ce, .slice Ab k cb] 22)) := (Below.refl _ _).alloc (Nat.le_refl _) _
    have hr := Row.new W #[.slice A1 L.length c1, .slice Ae m ce, .slice Ab k cb] 22
    have hP : Lib.PartsAt (W.alloc (.cells #[.slice A1 L.length c1, .slice Ae m ce, .slice Ab k cb] 22)) ⟨W.heap.size, 0, none⟩ [.slice A1 L.length c1, .slice Ae en.length ce, .slice Ab bd.length cb] [L, en, bd] := by
      refine ⟨rfl, fun i v hv => ?_, fun i v l hv hl => ?_⟩
      · rw [addr_add, Nat.zero_add]
        exact hr.cell (by rw [HEN.out, HBD.out] at hv; exact hv)
      · rcases i with _ | _ | _ | i
        · cases hv; cases hl; exact holds_of (hA1.below hbA)
        · cases hv; cases hl; exact holds_of (((hE.below hB0).below hW).below hbA)
        · cases hv; cases hl; exact holds_of (((hD.below hB0).below hW).below hbA)
        · simp at hl
    have h := join_any (some ⟨W.heap.size, 0, none⟩) 3 3 _ [L, en, bd] _ rfl (fun _ => ⟨_, rfl, hP⟩) (Nat.le_refl _) (by omega) (by simp only [List.flatten_cons, List.flatten_nil, List.append_nil, List.length_append, HEN.out, HBD.out]; omega)
    have hfe : [L, en, bd].flatten = L ++ en ++ bd := by simp
    rw [hfe, World.size_alloc] at h
    exact h
  obtain ⟨c0, c1, c2⟩ := hc W0 (Below.refl _ _)
  obtain ⟨d0, d1, d2⟩ := hc W0.drew (Below.refl _ _).drew
  go_enter Tryz.func22, Tryz.ntmps22
  go_upto_region 1 with fail
  (try rw [hW0])
  clear hW0
  go_region_with (go_at_call 47; first
    | ((with_reducible refine (hj1 _ (Below.refl _ _).drew).mono ?_); rintro e W1 ⟨⟨A1, c9, rfl, h91, h92, h93, h94⟩, hb1⟩; have hB1 : Below W0.heap.size W0 W1 := (Below.refl W0.heap.size W0).drew.trans hb1; obtain ⟨q0, q1, q2⟩ := hc W1 hB1)
    | ((with_reducible refine (hj2 W1 A1 c9 hB1 h93).mono ?_); rintro e W2 ⟨⟨A2, c8, rfl, g1, g2, g3, g4⟩, hb2⟩))
  all_goals
    go_wp2_with fail
    go_ret
    refine ⟨⟨A2, c8, by first | rfl | (simp only [List.append_assoc, List.length_append]; rfl) | (rw [List.length_append, List.length_append]; rfl), g1, g2, g3, g4⟩, ?_⟩
    have hs1 := hB1.size
    have hs0 := hB0.size
    exact ((hB0.trans (hB1.mono hs0)).trans ((mark_below W1 _ _ _).mono (Nat.le_trans hs0 hs1))).trans (hb2.mono (by omega))
end Go.Proofs.YtcagkoakbdbbaaaGreatDoor

namespace Go.Proofs.YtcagkoakbdbbaaaGreatDoor
set_option linter.unusedVariables false
set_option linter.unusedSimpArgs false
open Go.RowKit

theorem rest_one (w : World) : Calls Tryz.prog 20 #[.int .i64 0, .int .i64 1] w fun e w' => e = .returned (.int .i64 0) ∧ w' = w := by
  go_enter Tryz.func20, Tryz.ntmps20
  go_wp2_with fail
  go_ret
  exact ⟨rfl, rfl⟩

theorem FR.setRow2 {W : World} {B g : Nat} {t : TypeId} {cs : List Value} {fv : Value} {fs : List (List UInt8)} (h : FR W B fv fs) (hr : Row W g t cs) (hc : ∀ v ∈ cs, ∀ x : UInt8, v ≠ bv x) (hg : ¬ nb fv g) (j : Nat) (v : Value) : FR (W.setCell ⟨g, j, none⟩ v) B fv fs :=
  h.ext (S := fun k => k = g) (Ext.setCell _ W ⟨g, j, none⟩ v rfl) (fun k hk e => hg (e ▸ hk)) (fun b o l h0 hb _ e => absurd e (rb_notR hr hb h0 hc))

set_option maxRecDepth 100000 in
set_option maxHeartbeats 1000000 in
/-- kind 4 at a mail of one field -/
theorem change_one (Af Ae Ab : Option Addr) (f : List UInt8) (B cf ce cb m k : Nat) (M : Int) (T : ByteArray) (w : World) (hF : FR w B (.slice Af 1 cf) [f]) (hB : B ≤ w.heap.size) (hf : f.length ≤ 1000000) :
    Calls Tryz.prog 21 #[.agg #[.slice Af 1 cf, .slice Ae m ce, .slice Ab k cb], .agg #[.int .i64 4, .int .i64 0, .int .i64 M, .string T]] w fun e w' => e = .returned (.agg #[.slice Af 1 cf, .slice Ae m ce, .slice Ab k cb]) ∧ FR w' B (.slice Af 1 cf) [lettersL M f] ∧ Below B w w' := by
  obtain ⟨vs, ho, he⟩ := hF
  obtain ⟨b0, o0, c0, hv0, hc0, hf0, hR0, hnb⟩ := he 0 f rfl
  obtain ⟨go, hgo, hgb, hgl⟩ : ∃ go, Af = some ⟨go, 0, none⟩ ∧ B ≤ go ∧ go < w.heap.size := by
    rcases ho.2 with ⟨hv, _⟩ | ⟨g, cap, cur, hv, hbg, hg, _⟩
    · injection hv with h1 h2 h3; simp at h2
    · injection hv with h1 h2 h3; exact ⟨g, h1, hbg, (Array.getElem?_eq_some_iff.1 hg).1⟩
  subst hgo
  obtain ⟨n, hn⟩ : ∃ n, f.length = n := ⟨_, rfl⟩
  have HN := Lib.hid hn
  rw [hn] at hv0 hc0 hf
  have hn0 : 0 < n := by rw [← hn]; exact List.length_pos_iff.2 hf0
  obtain ⟨W3, hW3⟩ : ∃ W3, ((w.alloc (.cells #[.slice (some ⟨go, 0, none⟩) 1 cf, .slice Ae m ce, .slice Ab k cb] 49)).alloc (.cells #[.int .i64 4, .int .i64 0, .int .i64 M, .string T] 26)).alloc (.cells #[.slice none 0 0, .slice none 0 0, .slice none 0 0] 49) = W3 := ⟨_, rfl⟩
  have hb3 : Below w.heap.size w W3 := by rw [← hW3]; exact (((Below.refl _ w).alloc (Nat.le_refl _) _).alloc (by simp) _).alloc (by simp; omega) _
  have r1 : Row W3 w.heap.size 49 [.slice (some ⟨go, 0, none⟩) 1 cf, .slice Ae m ce, .slice Ab k cb] := by rw [← hW3]; exact ((Row.new w _ _).alloc _).alloc _
  have r2 : Row W3 (w.heap.size + 1) 26 [.int .i64 4, .int .i64 0, .int .i64 M, .string T] := by
    have h := (Row.new (w.alloc (.cells #[.slice (some ⟨go, 0, none⟩) 1 cf, .slice Ae m ce, .slice Ab k cb] 49)) #[.int .i64 4, .int .i64 0, .int .i64 M, .string T] 26).alloc (.cells #[.slice none 0 0, .slice none 0 0, .slice none 0 0] 49)
    rw [World.size_alloc, hW3] at h
    exact h
  have r3 : Row W3 (w.heap.size + 1 + 1) 49 [.slice none 0 0, .slice none 0 0, .slice none 0 0] := by
    have h := Row.new ((w.alloc (.cells #[.slice (some ⟨go, 0, none⟩) 1 cf, .slice Ae m ce, .slice Ab k cb] 49)).alloc (.cells #[.int .i64 4, .int .i64 0, .int .i64 M, .string T] 26)) #[.slice none 0 0, .slice none 0 0, .slice none 0 0] 49
    rw [World.size_alloc, World.size_alloc, hW3] at h
    exact h
  have hs3 : w.heap.size + 3 ≤ W3.heap.size := by rw [← hW3]; simp
  have ho3 := own_below ho hb3
  have hg0 : W3.cell? ⟨go, 0, none⟩ = some (.slice (some ⟨b0, o0, none⟩) n c0) := by
    have h1 := ho3.cells (g := go) rfl 0 _ hv0
    rw [addr_add] at h1
    exact h1
  have hgf : W3.frozen? ⟨go, 0, none⟩ = false := by
    rcases ho3.2 with ⟨hv, _⟩ | ⟨g, cap, cur, hv, hbg, hg, _⟩
    · cases hv
    · cases hv
      exact frozen_of_row W3 go 0 cur 22 hg
  have hR3 := hR0.below hb3
  clear hn
  have a0 := r1.cell (j := 0) rfl
  have a1 := r1.cell (j := 1) rfl
  have a2 := r1.cell (j := 2) rfl
  have x0 := r2.cell (j := 0) rfl
  have x1 := r2.cell (j := 1) rfl
  have x2 := r2.cell (j := 2) rfl
  have a0d : W3.drew.cell? ⟨w.heap.size, 0, none⟩ = some (.slice (some ⟨go, 0, none⟩) 1 cf) := a0
  have x2d : W3.drew.cell? ⟨w.heap.size + 1, 2, none⟩ = some (.int .i64 M) := x2
  have hlet : ∀ W, Below W3.heap.size W3 W → Calls Tryz.prog 39 #[.slice (some ⟨b0, o0, none⟩) n c0, .int .i64 M] W fun e w' => (∃ v, e = .returned v ∧ w'.ownsRow W.heap.size 5 1 v n ((lettersL M f).map bv)) ∧ Below W.heap.size W w' := fun W hW =>
    letters_any b0 o0 f n c0 M W HN.out (hR3.below hW) hc0 hf hn0
  go_enter Tryz.func21, Tryz.ntmps21
  go_upto_region 1 with fail
  go_wp2_with fail
  refine (rest_one _).mono ?_
  rintro e w4 ⟨rfl, rfl⟩
  have hbd : Below w4.heap.size w4 w4.drew := (Below.refl _ _).drew
  have hgfd : w4.drew.frozen? ⟨go, 0, none⟩ = false := hgf
  have hg0d : w4.drew.cell? ⟨go, 0, none⟩ = some (.slice (some ⟨b0, o0, none⟩) n c0) := hg0
  go_upto_region 7 with fail
  go_region_with (go_at_call 39; refine (hlet _ hbd).mono ?_; rintro e w5 ⟨⟨v, rfl, hov⟩, hb5⟩; obtain ⟨Av, cv, hv, hnv, _, hRv, _⟩ := own_form hov; subst hv; have q0 := (hb5.cell (cell_lt a0d)).trans a0d; have q1 := (hb5.cell (cell_lt hg0d)).trans hg0d; have q2 := (hb5.frozen (p := ⟨go, 0, none⟩) (cell_lt hg0d)).trans hgfd)
  all_goals
    have hb5' : Below w4.heap.size w4 w5 := ⟨hb5.os, hb5.tape, hb5.output, hb5.size, hb5.block⟩
    obtain ⟨h, hh, hhb⟩ : ∃ h, Av = some ⟨h, 0, none⟩ ∧ w4.heap.size ≤ h := by
      rcases hov.2 with ⟨hv, _⟩ | ⟨g, cap, cur, hv, hbg, hg, _⟩
      · injection hv with h1 h2 h3; omega
      · injection hv with h1 h2 h3; exact ⟨g, h1, hbg⟩
    subst hh
    have p1 := (r1.below hb5').far (a := ⟨go, 0, none⟩) (by show go ≠ w.heap.size; omega) (.slice (some ⟨h, 0, none⟩) n cv)
    have p3 := (r3.below hb5').far (a := ⟨go, 0, none⟩) (by show go ≠ w.heap.size + 1 + 1; omega) (.slice (some ⟨h, 0, none⟩) n cv)
    have F6 : FR (w5.setCell ⟨go, 0, none⟩ (.slice (some ⟨h, 0, none⟩) n cv)) B (.slice (some ⟨go, 0, none⟩) 1 cf) [lettersL M f] := by
      have hvl : vs.length = 1 := by have := ho.1; simpa using this
      refine ⟨vs.set 0 (.slice (some ⟨h, 0, none⟩) n cv), own_setAt (own_below ho3 hb5') (by simp) _, fun j l hj => ?_⟩
      rcases j with _ | j
      · cases hj
        have hll : (lettersL M f).length = n := by unfold lettersL; rw [lg_len]; exact HN.out
        refine ⟨h, 0, cv, ?_, by rw [hll]; exact hnv, by intro e; rw [e] at hll; simp at hll; omega, ?_, ?_⟩
        · rw [hll, List.getElem?_set_self (by omega)]
        · exact Rb.setFar (W := w5) (show Rb w5 (some ⟨h, 0, none⟩) (lettersL M f) from hRv) (by show go ≠ h; omega) _
        · intro e
          simp [nb, Value.ownBlock] at e
          omega
      · simp at hj
    have B6 : Below B w (w5.setCell ⟨go, 0, none⟩ (.slice (some ⟨h, 0, none⟩) n cv)) := ((hb3.mono hB).trans (hb5'.mono (by omega))).setCell (p := ⟨go, 0, none⟩) hgb _
    obtain ⟨w6, hw6⟩ : ∃ w6, w5.setCell ⟨go, 0, none⟩ (.slice (some ⟨h, 0, none⟩) n cv) = w6 := ⟨_, rfl⟩
    rw [hw6] at p1 p3 F6 B6 ⊢
    clear hw6 q0 q1 q2 hb5 hb5' hov hRv
    have t0 := p1.cell (j := 0) rfl
    have t1 := p1.cell (j := 1) rfl
    have t2 := p1.cell (j := 2) rfl
    have s0 := p3.cell (j := 0) rfl
    have s1 := p3.cell (j := 1) rfl
    have s2 := p3.cell (j := 2) rfl
    have z0 := p3.frozen 0
    have z1 := p3.frozen 1
    have z2 := p3.frozen 2
    have n0 : ∀ v ∈ ([.slice none 0 0, .slice none 0 0, .slice none 0 0] : List Value), ∀ x : UInt8, v ≠ bv x := by
      intro v hv x e
      simp only [List.mem_cons, List.not_mem_nil, or_false, or_self] at hv
      subst hv
      cases e
    have n1 : ∀ v ∈ ([.slice (some ⟨go, 0, none⟩) 1 cf, .slice none 0 0, .slice none 0 0] : List Value), ∀ x : UInt8, v ≠ bv x := by
      intro v hv x e
      simp only [List.mem_cons, List.not_mem_nil, or_false, or_self] at hv
      rcases hv with rfl | rfl <;> cases e
    have n2 : ∀ v ∈ ([.slice (some ⟨go, 0, none⟩) 1 cf, .slice Ae m ce, .slice none 0 0] : List Value), ∀ x : UInt8, v ≠ bv x := by
      intro v hv x e
      simp only [List.mem_cons, List.not_mem_nil, or_false] at hv
      rcases hv with rfl | rfl | rfl <;> cases e
    have hgn : ¬ nb (.slice (some ⟨go, 0, none⟩) 1 cf) (w.heap.size + 1 + 1) := by
      intro e
      simp [nb, Value.ownBlock] at e
      omega
    have p4 := p3.set 0 (.slice (some ⟨go, 0, none⟩) 1 cf)
    have p5 := p4.set 1 (.slice Ae m ce)
    have p6 := p5.set 2 (.slice Ab k cb)
    have F9 := ((F6.setRow2 p3 n0 hgn 0 (.slice (some ⟨go, 0, none⟩) 1 cf)).setRow2 p4 n1 hgn 1 (.slice Ae m ce)).setRow2 p5 n2 hgn 2 (.slice Ab k cb)
    have B9 := ((B6.setCell (p := ⟨w.heap.size + 1 + 1, 0, none⟩) (by show B ≤ w.heap.size + 1 + 1; omega) (.slice (some ⟨go, 0, none⟩) 1 cf)).setCell (p := ⟨w.heap.size + 1 + 1, 1, none⟩) (by show B ≤ w.heap.size + 1 + 1; omega) (.slice Ae m ce)).setCell (p := ⟨w.heap.size + 1 + 1, 2, none⟩) (by show B ≤ w.heap.size + 1 + 1; omega) (.slice Ab k cb)
    go_wp2_with fail
    obtain ⟨W9, hW9⟩ : ∃ W9, ((w6.setCell ⟨w.heap.size + 1 + 1, 0, none⟩ (.slice (some ⟨go, 0, none⟩) 1 cf)).setCell ⟨w.heap.size + 1 + 1, 1, none⟩ (.slice Ae m ce)).setCell ⟨w.heap.size + 1 + 1, 2, none⟩ (.slice Ab k cb) = W9 := ⟨_, rfl⟩
    rw [hW9] at p6 F9 B9 ⊢
    have e0 := p6.cell (j := 0) rfl
    have e1 := p6.cell (j := 1) rfl
    have e2 := p6.cell (j := 2) rfl
    exact bodyPost_ret (v := .agg #[.slice (some ⟨go, 0, none⟩) 1 cf, .slice Ae m ce, .slice Ab k cb]) (by simp [results, Tryz.results21, go_sem, e0, e1, e2]) rfl ⟨rfl, F9, B9⟩
end Go.Proofs.YtcagkoakbdbbaaaGreatDoor
