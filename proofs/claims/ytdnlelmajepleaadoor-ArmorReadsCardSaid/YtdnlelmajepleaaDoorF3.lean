/- armor.Read: what stands between blanks, joined, as bytes. -/
import Derived.Test.YtdnlelmajepleaaDoorF2
import Derived.Test.YtdnlelmajepleaaDoorA7
namespace Go.Proofs.YtdnlelmajepleaaDoor
open Go.RowKit

theorem Rb_fresh {B : Nat} {w : World} {v : Value} {l : List UInt8} (h : Lib.FreshBytes B w v l) : ∃ A c, v = .slice A l.length c ∧ l.length ≤ c ∧ Rb w A l := by
  obtain ⟨g, cap, zs, rfl, hg, hlc, hcm, hz, hzb, hl, hc, hf⟩ := h
  refine ⟨_, cap, rfl, hlc, fun hp => ⟨g, 0, rfl, fun j v hj => ?_⟩⟩
  have hlt := lt_of_get hj
  simp only [List.length_map] at hlt
  rw [Nat.zero_add, hc j (by omega), ← hj]
  have hjz : j < (zs.take l.length).length := by simp; omega
  have hb := hzb (zs.getD j 0) (by rw [List.getD_eq_getElem?_getD, List.getElem?_eq_getElem (by omega : j < zs.length)]; exact List.getElem_mem _)
  have hz' : zs.getD j 0 = zs[j]'(by omega) := by rw [List.getD_eq_getElem?_getD, List.getElem?_eq_getElem (by omega : j < zs.length)]; rfl
  have e : l[j]? = some (UInt8.ofNat (zs.getD j 0).toNat) := by
    rw [hz']
    have h1 : (Lib.bytesOf (zs.take l.length))[j]? = l[j]? := by rw [hl]
    rw [← h1]
    simp [Lib.bytesOf, hlt, List.getElem?_eq_getElem (by omega : j < zs.length)]
  rw [List.getElem?_map, e]
  simp only [Option.map_some, bv]
  rw [UInt8.toNat_ofNat']
  congr 2
  omega

theorem join_flat (ls : List (List UInt8)) : Lib.join ls [] = ls.flatten := by
  rcases ls with _ | ⟨x, r⟩
  · rfl
  · rw [Lib.join_cons, Lib.joinTail]
    simp

theorem join_any (g c : Nat) (vs : List Value) (ls : List (List UInt8)) (n : Nat) (w : World) (hn : ls.length = n) (hP : Lib.PartsAt w ⟨g, 0, none⟩ vs ls) (hc : n ≤ c) (h47 : n ≤ 140737488355328) (hlen : ls.flatten.length ≤ 140737488355328) :
    Calls Tryd.prog 15 #[.slice (some ⟨g, 0, none⟩) n c, .slice none 0 0] w fun e w' => (∃ A c', e = .returned (.slice A ls.flatten.length c') ∧ ls.flatten.length ≤ c' ∧ Rb w' A ls.flatten) ∧ Below w.heap.size w w' := by
  have pl : ∀ (b o j : Nat), (⟨b, o, none⟩ : Addr).add j = ⟨b, o + j, none⟩ := fun b o j => by unfold Addr.add; split <;> simp_all
  rcases (by omega : n = 0 ∨ n = 1 ∨ 2 ≤ n) with rfl | rfl | h2
  · obtain rfl : ls = [] := List.eq_nil_of_length_eq_zero hn
    refine (Tryd.bytes_Join_none _ _ _ _).mono ?_
    rintro e w' ⟨rfl, rfl⟩
    exact ⟨⟨_, _, rfl, Nat.le_refl _, Rb.nil _ _⟩, (Below.refl _ _).alloc (Nat.le_refl _) _⟩
  · obtain ⟨l0, rfl⟩ : ∃ l0, ls = [l0] := List.length_eq_one_iff.1 hn
    obtain ⟨p, cap, l, hl, hcell, hp0, hbs⟩ := hP.get 0 (by simp)
    simp at hl
    subst hl
    simp only [List.flatten_cons, List.flatten_nil, List.append_nil] at hlen ⊢
    rw [pl] at hcell
    rcases Nat.eq_zero_or_pos l0.length with h0 | h0
    · obtain rfl : l0 = [] := List.eq_nil_of_length_eq_zero h0
      refine (Tryd.bytes_Join_one_empty g 0 c p cap _ w hcell).mono ?_
      rintro e w' ⟨rfl, rfl⟩
      exact ⟨⟨_, _, rfl, Nat.le_refl _, Rb.nil _ _⟩, Below.refl _ _⟩
    · rcases p with _ | a
      · rw [hp0 rfl] at h0
        simp at h0
      refine (Tryd.bytes_Join_one g 0 c a cap l0 _ w hcell (hbs a rfl) h0 hlen).mono ?_
      rintro e w' ⟨v, rfl, hv, hb⟩
      obtain ⟨A, c', rfl, h1, h2⟩ := Rb_fresh hv
      exact ⟨⟨_, _, rfl, h1, h2⟩, hb⟩
  · have hS : Lib.HoldsBytes w (.slice none 0 0) [] := ⟨none, 0, rfl, fun _ => rfl, by simp⟩
    refine (Tryd.bytes_Join_many g 0 n c vs ls _ [] w hn h2 hP hc hS h47 (by simpa [Lib.lens, List.length_flatten] using hlen)).mono ?_
    rintro e w' ⟨v, rfl, hv, hb⟩
    rw [join_flat] at hv
    obtain ⟨A, c', rfl, h1, h2⟩ := Rb_fresh hv
    exact ⟨⟨_, _, rfl, h1, h2⟩, hb⟩

theorem nob_length (l : List UInt8) : (nob l).length ≤ l.length := List.length_filter_le _ _

set_option maxRecDepth 100000 in
set_option maxHeartbeats 2000000 in
theorem read_any (A : Option Addr) (l : List UInt8) (n c : Nat) (w : World) (hT : Lib.Utf8Tabs 1 2 w) (hn : l.length = n) (hA : Rb w A l) (hnc : n ≤ c) (hb : n ≤ 100000000) :
    Calls Tryd.prog 8 #[.slice A n c] w (DecOut (nob l) w) := by
  have HN := Lib.hid hn
  clear hn
  go_enter Tryd.func8, Tryd.ntmps8
  go_wp2_with fail
  refine (fields_any A l n c w hT HN.out hA hnc (by omega)).mono ?_
  rintro e w1 ⟨⟨g, vs, ls, c', rfl, hc', hll, hP, hf⟩, hb1⟩
  have hnl := nob_length l
  rw [HN.out] at hnl
  have hfl : ls.flatten.length ≤ 100000000 := by rw [hf]; omega
  go_wp2_with fail
  refine (join_any g c' vs ls _ w1 rfl hP hc' (by omega) (by omega)).mono ?_
  rintro e w2 ⟨⟨A2, c2, rfl, hc2, hR2⟩, hb2⟩
  have hcv := conv_str (P := Tryd.prog) (src := 22) (dst := 9) (e := 5) Tryd.underlying22 Tryd.underlying5 Tryd.underlying9 (n := ls.flatten.length) (c := c2) hR2 rfl
  have HF := Lib.hid hf
  have hB2 := hb1.trans (hb2.mono hb1.size)
  clear hf
  generalize ls.flatten = m at *
  go_wp2_with fail
  refine (dec_any m _ hfl).mono ?_
  intro e w3 hd
  rw [HF.out] at hd
  obtain ⟨hd1, hb3⟩ := hd
  rcases hd1 with ⟨A3, n3, c3, a3, rfl, h1, h2, h3, h4, h5⟩ | ⟨rfl, h1⟩
  · have H1 := Lib.hid h1
    have H5 := Lib.hid h5
    clear h1 h5
    go_wp2
    go_ret2
    exact ⟨.inl ⟨_, _, _, _, rfl, H1.out, h2, h3, h4, H5.out⟩, hB2.trans (hb3.mono hB2.size)⟩
  · have H1 := Lib.hid h1
    clear h1
    go_wp2
    go_ret2
    exact ⟨.inr ⟨rfl, H1.out⟩, hB2.trans (hb3.mono hB2.size)⟩
end Go.Proofs.YtdnlelmajepleaaDoor
