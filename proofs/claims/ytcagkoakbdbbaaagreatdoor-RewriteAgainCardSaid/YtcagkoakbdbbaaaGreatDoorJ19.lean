/- A mail's bytes: bytes.Join of its fields, its head's end and its body. -/
import Derived.Test.YtcagkoakbdbbaaaGreatDoorJ18
import Derived.Deep.RegionWith
namespace Go.Proofs.YtcagkoakbdbbaaaGreatDoor
set_option linter.unusedVariables false
set_option linter.unusedSimpArgs false
open Go.RowKit

theorem Rb_fresh {B : Nat} {w : World} {v : Value} {l : List UInt8} (h : Lib.FreshBytes B w v l) : ∃ A c, v = .slice A l.length c ∧ l.length ≤ c ∧ Rb w A l := by
  obtain ⟨g, cap, zs, rfl, hg, hlc, hcm, hz, hzb, hl, hc, hf⟩ := h
  refine ⟨_, cap, rfl, hlc, fun hp => ⟨g, 0, rfl, fun j v hj => ?_⟩⟩
  have hlt := lt_of_get hj
  simp only [List.length_map] at hlt
  rw [Nat.zero_add, hc j (by omega), ← hj]
  have hjz : j < (zs.take l.length).length := by simp; omega
  have hb := hzb (zs.getD j 0) (by rw [List.getD_eq_getElem?_getD, List.getElem?_eq_getElem (by omega : j < zs.length)]; exact List.getElem_mem _)
  have hz' : zs.getD j 0 = zs[j]'(by omega) := by rw [List.getD_eq_getElem?_getD, List.getElem?_eq_getElem (by omega : j < zs.length)]; rfl
  have e : l[j]? = some (UInt8.ofNat (zs.getD j 0).toNat) := by
    rw [hz']
    have h1 : (Lib.bytesOf (zs.take l.length))[j]? = l[j]? := by rw [hl]
    rw [← h1]
    simp [Lib.bytesOf, hlt, List.getElem?_eq_getElem (by omega : j < zs.length)]
  rw [List.getElem?_map, e]
  simp only [Option.map_some, bv]
  rw [UInt8.toNat_ofNat']
  congr 2
  omega

theorem join_flat (ls : List (List UInt8)) : Lib.join ls [] = ls.flatten := by
  rcases ls with _ | ⟨x, r⟩
  · rfl
  · rw [Lib.join_cons, Lib.joinTail]
    simp

theorem BOut.fresh {B : Nat} {w : World} {v : Value} {l : List UInt8} (h : Lib.FreshBytes B w v l) : BOut l (.returned v) w := by
  have h2 := Rb_fresh h
  obtain ⟨g, cap, zs, rfl, hg, hlc, hcm, hz, hzb, hl, hc, hf⟩ := h
  obtain ⟨A, c, e, _, hr⟩ := h2
  cases e
  exact ⟨_, _, rfl, hlc, hcm, hr, .inr ⟨_, _, rfl⟩⟩
theorem holds_of {w : World} {A : Option Addr} {l : List UInt8} {c : Nat} (h : Rb w A l) : Lib.HoldsBytes w (.slice A l.length c) l := by
  refine ⟨A, c, rfl, fun e => ?_, fun b e j x hj => ?_⟩
  · subst e
    cases l with
    | nil => rfl
    | cons a r => obtain ⟨_, _, e, _⟩ := h (by simp); cases e
  · subst e
    obtain ⟨b1, o1, e, hc⟩ := h (by have := lt_of_get hj; simp; omega)
    cases e
    rw [addr_add]
    exact hc j (bv x) (by rw [List.getElem?_map, hj]; rfl)
/-- bytes.Join with nothing between -/
theorem join_any (A : Option Addr) (c n : Nat) (vs : List Value) (ls : List (List UInt8)) (w : World) (hn : ls.length = n) (hA : 0 < n → ∃ g, A = some ⟨g, 0, none⟩ ∧ Lib.PartsAt w ⟨g, 0, none⟩ vs ls) (hc : n ≤ c) (h47 : n ≤ 1000000000) (hlen : ls.flatten.length ≤ 1000000000) :
    Calls Tryz.prog 47 #[.slice A n c, .slice none 0 0] w fun e w' => BOut ls.flatten e w' ∧ Below w.heap.size w w' := by
  rcases (by omega : n = 0 ∨ n = 1 ∨ 2 ≤ n) with rfl | rfl | h2
  · obtain rfl : ls = [] := List.eq_nil_of_length_eq_zero hn
    refine (Tryz.bytes_Join_none _ _ _ _).mono ?_
    rintro e w' ⟨rfl, rfl⟩
    exact ⟨⟨_, _, rfl, Nat.le_refl _, by unfold maxLen; omega, Rb.nil _ _, .inr ⟨_, _, rfl⟩⟩, (Below.refl _ _).alloc (Nat.le_refl _) _⟩
  · obtain ⟨g, rfl, hP⟩ := hA (by omega)
    obtain ⟨l0, rfl⟩ : ∃ l0, ls = [l0] := List.length_eq_one_iff.1 hn
    obtain ⟨p, cap, l, hl, hcell, hp0, hbs⟩ := hP.get 0 (by simp)
    simp at hl
    subst hl
    simp only [List.flatten_cons, List.flatten_nil, List.append_nil] at hlen ⊢
    rw [addr_add] at hcell
    rcases Nat.eq_zero_or_pos l0.length with h0 | h0
    · obtain rfl : l0 = [] := List.eq_nil_of_length_eq_zero h0
      refine (Tryz.bytes_Join_one_empty g 0 c p cap _ w hcell).mono ?_
      rintro e w' ⟨rfl, rfl⟩
      exact ⟨⟨_, _, rfl, Nat.le_refl _, by unfold maxLen; omega, Rb.nil _ _, .inl ⟨rfl, rfl⟩⟩, Below.refl _ _⟩
    · rcases p with _ | a
      · rw [hp0 rfl] at h0
        simp at h0
      refine (Tryz.bytes_Join_one g 0 c a cap l0 _ w hcell (hbs a rfl) h0 (by omega)).mono ?_
      rintro e w' ⟨v, rfl, hv, hb⟩
      exact ⟨BOut.fresh hv, hb⟩
  · obtain ⟨g, rfl, hP⟩ := hA (by omega)
    have hS : Lib.HoldsBytes w (.slice none 0 0) [] := ⟨none, 0, rfl, fun _ => rfl, by simp⟩
    refine (Tryz.bytes_Join_many g 0 n c vs ls _ [] w hn h2 hP hc hS (by omega) (by have h9 : ls.flatten.length = Lib.lens ls := by simp [Lib.lens, List.length_flatten]
                                                                                    simp; omega)).mono ?_
    rintro e w' ⟨v, rfl, hv, hb⟩
    rw [join_flat] at hv
    exact ⟨BOut.fresh hv, hb⟩
theorem FR.parts {W : World} {B : Nat} {A : Option Addr} {n c : Nat} {fs : List (List UInt8)} (h : FR W B (.slice A n c) fs) : fs.length = n ∧ n ≤ c ∧ ∃ vs, (0 < n → ∃ g, A = some ⟨g, 0, none⟩ ∧ Lib.PartsAt W ⟨g, 0, none⟩ vs fs) := by
  obtain ⟨vs, ho, he⟩ := h
  obtain ⟨A', c', e, h1, _, hr, hl⟩ := own_form ho
  cases e
  refine ⟨rfl, h1, vs, fun hp => ?_⟩
  obtain ⟨g, hg⟩ : ∃ g, A = some ⟨g, 0, none⟩ := by
    rcases ho.2 with ⟨hv, _⟩ | ⟨g, cap, cur, hv, _⟩
    · injection hv with h1 h2 h3; omega
    · injection hv with h1 h2 h3; exact ⟨g, h1⟩
  subst hg
  refine ⟨g, rfl, by omega, fun i v hv => ?_, fun i v l hv hl2 => ?_⟩
  · exact ho.cells (g := g) rfl i v hv
  · obtain ⟨b, o, c2, k1, k2, k3, k4, _⟩ := he i l hl2
    rw [hv] at k1
    cases k1
    exact holds_of k4

set_option maxRecDepth 100000 in
set_option maxHeartbeats 1000000 in
theorem bytes_any (Af Ae Ab : Option Addr) (fs : List (List UInt8)) (en bd : List UInt8) (B n cf ce cb m k : Nat) (w : World) (hF : FR w B (.slice Af n cf) fs) (hE : Rb w Ae en) (hD : Rb w Ab bd) (hen : en.length = m) (hbd : bd.length = k) (hB : B ≤ w.heap.size)
    (hn : n ≤ 1000000) (hfl : fs.flatten.length ≤ 1000000) (hm : m ≤ 1000000) (hk : k ≤ 1000000) :
    Calls Tryz.prog 22 #[.agg #[.slice Af n cf, .slice Ae m ce, .slice Ab k cb]] w fun e w' => BOut (fs.flatten ++ en ++ bd) e w' ∧ Below w.heap.size w w' := by
  obtain ⟨L, hL⟩ : ∃ L, fs.flatten = L := ⟨_, rfl⟩
  rw [hL] at hfl ⊢
  have HL := Lib.hid hL
  have HEN := Lib.hid hen
  have HBD := Lib.hid hbd
  clear hen hbd hL
  obtain ⟨W0, hW0⟩ : ∃ W0, w.alloc (.cells #[.slice Af n cf, .slice Ae m ce, .slice Ab k cb] 49) = W0 := ⟨_, rfl⟩
  have hB0 : Below w.heap.size w W0 := by rw [← hW0]; exact (Below.refl _ _).alloc (Nat.le_refl _) _
  have r0 : Row W0 w.heap.size 49 [.slice Af n cf, .slice Ae m ce, .slice Ab k cb] := by rw [← hW0]; exact Row.new w _ _
  have hj1 : ∀ W, Below W0.heap.size W0 W → Calls Tryz.prog 47 #[.slice Af n cf, .slice none 0 0] W fun e w' => BOut L e w' ∧ Below W.heap.size W w' := fun W hW => by
    obtain ⟨h1, h2, vs, h3⟩ := ((hF.below hB0).below hW).parts
    have h := join_any Af cf n vs fs W h1 h3 h2 (by omega) (by rw [HL.out]; omega)
    rw [HL.out] at h
    exact h
  have hc : ∀ W, Below W0.heap.size W0 W → W.cell? ⟨w.heap.size, 0, none⟩ = some (.slice Af n cf) ∧ W.cell? ⟨w.heap.size, 1, none⟩ = some (.slice Ae m ce) ∧ W.cell? ⟨w.heap.size, 2, none⟩ = some (.slice Ab k cb) := fun W hW =>
    ⟨(r0.below hW).cell (j := 0) rfl, (r0.below hW).cell (j := 1) rfl, (r0.below hW).cell (j := 2) rfl⟩
  have hj2 : ∀ W A1 c1, Below W0.heap.size W0 W → Rb W A1 L → Calls Tryz.prog 47 #[.slice (some ⟨W.heap.size, 0, none⟩) 3 3, .slice none 0 0] (W.alloc (.cells #[.slice A1 L.length c1, .slice Ae m ce, .slice Ab k cb] 22)) fun e w' => BOut (L ++ en ++ bd) e w' ∧ Below (W.heap.size + 1) (W.alloc (.cells #[.slice A1 L.length c1, .slice Ae m ce, .slice Ab k cb] 22)) w' := fun W A1 c1 hW hA1 => by
    have hbA : Below W.heap.size W (W.alloc (.cells #[.slice A1 L.length c1, .slice Ae m ce, .slice Ab k cb] 22)) := (Below.refl _ _).alloc (Nat.le_refl _) _
    have hr := Row.new W #[.slice A1 L.length c1, .slice Ae m ce, .slice Ab k cb] 22
    have hP : Lib.PartsAt (W.alloc (.cells #[.slice A1 L.length c1, .slice Ae m ce, .slice Ab k cb] 22)) ⟨W.heap.size, 0, none⟩ [.slice A1 L.length c1, .slice Ae en.length ce, .slice Ab bd.length cb] [L, en, bd] := by
      refine ⟨rfl, fun i v hv => ?_, fun i v l hv hl => ?_⟩
      · rw [addr_add, Nat.zero_add]
        exact hr.cell (by rw [HEN.out, HBD.out] at hv; exact hv)
      · rcases i with _ | _ | _ | i
        · cases hv; cases hl; exact holds_of (hA1.below hbA)
        · cases hv; cases hl; exact holds_of (((hE.below hB0).below hW).below hbA)
        · cases hv; cases hl; exact holds_of (((hD.below hB0).below hW).below hbA)
        · simp at hl
    have h := join_any (some ⟨W.heap.size, 0, none⟩) 3 3 _ [L, en, bd] _ rfl (fun _ => ⟨_, rfl, hP⟩) (Nat.le_refl _) (by omega) (by simp only [List.flatten_cons, List.flatten_nil, List.append_nil, List.length_append, HEN.out, HBD.out]; omega)
    have hfe : [L, en, bd].flatten = L ++ en ++ bd := by simp
    rw [hfe, World.size_alloc] at h
    exact h
  obtain ⟨c0, c1, c2⟩ := hc W0 (Below.refl _ _)
  obtain ⟨d0, d1, d2⟩ := hc W0.drew (Below.refl _ _).drew
  go_enter Tryz.func22, Tryz.ntmps22
  go_upto_region 1 with fail
  (try rw [hW0])
  clear hW0
  go_region_with (go_at_call 47; first
    | ((with_reducible refine (hj1 _ (Below.refl _ _).drew).mono ?_); rintro e W1 ⟨⟨A1, c9, rfl, h91, h92, h93, h94⟩, hb1⟩; have hB1 : Below W0.heap.size W0 W1 := (Below.refl W0.heap.size W0).drew.trans hb1; obtain ⟨q0, q1, q2⟩ := hc W1 hB1)
    | ((with_reducible refine (hj2 W1 A1 c9 hB1 h93).mono ?_); rintro e W2 ⟨⟨A2, c8, rfl, g1, g2, g3, g4⟩, hb2⟩))
  all_goals
    go_wp2_with fail
    go_ret
    refine ⟨⟨A2, c8, by first | rfl | (simp only [List.append_assoc, List.length_append]; rfl) | (rw [List.length_append, List.length_append]; rfl), g1, g2, g3, g4⟩, ?_⟩
    have hs1 := hB1.size
    have hs0 := hB0.size
    exact ((hB0.trans (hB1.mono hs0)).trans ((mark_below W1 _ _ _).mono (Nat.le_trans hs0 hs1))).trans (hb2.mono (by omega))
end Go.Proofs.YtcagkoakbdbbaaaGreatDoor
