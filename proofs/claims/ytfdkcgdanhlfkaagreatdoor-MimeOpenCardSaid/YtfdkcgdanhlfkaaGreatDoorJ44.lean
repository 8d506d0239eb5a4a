/- Lines of signs, in plain words: no line is longer than 76 signs. Nothing of the program. · Lines and Decode, in one form. · armor.Read: what stands between blanks, joined, as bytes. -/
import Derived.Test.YtfdkcgdanhlfkaaGreatDoorJ39
import Derived.Test.YtfdkcgdanhlfkaaGreatDoorJ43
import Derived.Test.YtfdkcgdanhlfkaaGreatDoorJ38
namespace Go.Proofs.YtfdkcgdanhlfkaaGreatDoor
namespace Ar
set_option linter.unusedVariables false
set_option linter.unusedSimpArgs false

/-- how many bytes since the last line's end -/
def cnt (l : List UInt8) : Nat := l.foldl (fun n c => if c = 10 then 0 else n + 1) 0
theorem cnt_snoc (l : List UInt8) (c : UInt8) : cnt (l ++ [c]) = if c = 10 then 0 else cnt l + 1 := by simp [cnt]
theorem cnt_plain (L s : List UInt8) (h : ∀ c ∈ s, c ≠ 10) : cnt (L ++ s) = cnt L + s.length := by
  induction s generalizing L with
  | nil => simp
  | cons c s ih =>
    have e : L ++ c :: s = (L ++ [c]) ++ s := by simp
    rw [e, ih (L ++ [c]) (fun x hx => h x (by simp [hx])), cnt_snoc, if_neg (h c (by simp)), List.length_cons]
    omega
/-- no line is too long -/
def Short (L : List UInt8) : Prop := (∀ k, cnt (L.take k) ≤ 77) ∧ cnt L = 0
theorem Short.nil : Short [] := ⟨fun k => by simp [cnt], rfl⟩
theorem Short.line {L s : List UInt8} (h : Short L) (hs : ∀ c ∈ s, c ≠ 10) (hl : s.length ≤ 76) : Short (L ++ (s ++ [13, 10])) := by
  have h13 : ∀ t : List UInt8, (∀ c ∈ t, c ≠ 10) → cnt (L ++ t) = t.length := fun t ht => by rw [cnt_plain L t ht, h.2]; omega
  have hend : cnt (L ++ (s ++ [13, 10])) = 0 := by
    have e : L ++ (s ++ [13, 10]) = (L ++ (s ++ [13])) ++ [10] := by simp
    rw [e, cnt_snoc, if_pos rfl]
  refine ⟨fun k => ?_, hend⟩
  by_cases h1 : k ≤ L.length
  · rw [List.take_append_of_le_length h1]
    exact h.1 k
  · obtain ⟨q, rfl⟩ : ∃ q, k = L.length + q := ⟨k - L.length, by omega⟩
    rw [List.take_length_add_append]
    by_cases h2 : q ≤ s.length + 1
    · have e : (s ++ [13, 10]).take q = (s ++ [13]).take q := by
        have : s ++ [13, 10] = (s ++ [13]) ++ [10] := by simp
        rw [this, List.take_append_of_le_length (by simp; omega)]
      rw [e, h13 _ (fun c hc => by
        have := List.mem_of_mem_take hc
        rcases List.mem_append.1 this with h' | h'
        · exact hs c h'
        · simp at h'
          subst h'
          decide)]
      simp
      omega
    · rw [List.take_of_length_le (by simp; omega), hend]
      omega
theorem sgs_10 : ∀ c ∈ sgs, c ≠ 10 := by decide
theorem gsign_10 (ys : List UInt8) (i : Nat) : gsign ys i ≠ 10 := by
  unfold gsign
  split
  · decide
  · have hT : gnum ys 3 / 2 ^ (18 - 6 * i) % 64 < 64 := Nat.mod_lt _ (by omega)
    generalize gnum ys 3 / 2 ^ (18 - 6 * i) % 64 = T at *
    have hl : T < sgs.length := hT
    rw [List.getD_eq_getElem?_getD, List.getElem?_eq_getElem hl]
    exact sgs_10 _ (List.getElem_mem hl)
theorem enc_10 (xs : List UInt8) : ∀ c ∈ enc xs, c ≠ 10 := by
  intro c hc
  unfold enc at hc
  obtain ⟨j, _, h⟩ := List.mem_flatMap.1 hc
  unfold enc3 at h
  split at h
  · simp at h
  · obtain ⟨i, _, rfl⟩ := List.mem_map.1 h
    exact gsign_10 _ _
theorem lin_short (l : List UInt8) (h : ∀ c ∈ l, c ≠ 10) : Short (lin l) := by
  unfold lin
  generalize (l.length + 75) / 76 = m
  induction m with
  | zero => exact Short.nil
  | succ m ih =>
    rw [List.range_succ, List.flatMap_append]
    simp only [List.flatMap_cons, List.flatMap_nil, List.append_nil]
    exact ih.line (fun c hc => h c (List.mem_of_mem_drop (List.mem_of_mem_take hc))) (by unfold chk; simp; omega)
theorem lin_len (l : List UInt8) : (lin l).length ≤ 78 * ((l.length + 75) / 76) := by
  unfold lin
  generalize (l.length + 75) / 76 = m
  induction m with
  | zero => simp
  | succ m ih =>
    have hc : (chk l 76 m).length ≤ 76 := by unfold chk; simp; omega
    rw [List.range_succ, List.flatMap_append, List.length_append]
    simp only [List.flatMap_cons, List.flatMap_nil, List.append_nil, List.length_append, List.length_cons, List.length_nil]
    omega
theorem enc_inj (a b : List UInt8) (h : enc a = enc b) : a = b := by
  generalize hn : a.length = n
  induction n using Nat.strongRecOn generalizing a b with
  | _ n ih =>
    have hl := congrArg List.length h
    rw [enc_length, enc_length] at hl
    by_cases ha : a = []
    · subst ha
      have : b.length = 0 := by simp at hl; omega
      exact (List.eq_nil_of_length_eq_zero this).symm
    · by_cases hb : b = []
      · subst hb
        have : a.length = 0 := by simp at hl; omega
        exact List.eq_nil_of_length_eq_zero this
      · have ta : 1 ≤ (a.take 3).length := by
          rcases a with _ | ⟨x, r⟩
          · exact absurd rfl ha
          · simp
        have tb : 1 ≤ (b.take 3).length := by
          rcases b with _ | ⟨x, r⟩
          · exact absurd rfl hb
          · simp
        have ta3 : (a.take 3).length ≤ 3 := by simp; omega
        have tb3 : (b.take 3).length ≤ 3 := by simp; omega
        have na : a.take 3 ≠ [] := by intro e; rw [e] at ta; simp at ta
        have nb : b.take 3 ≠ [] := by intro e; rw [e] at tb; simp at tb
        rw [enc_cons a ha, enc_cons b hb] at h
        obtain ⟨e1, e2⟩ := List.append_inj h (by rw [enc3_len _ na, enc3_len _ nb])
        have e3 := enc3_inj ta ta3 tb tb3 e1
        have e4 := ih (a.length - 3) (by simp at ta; omega) (a.drop 3) (b.drop 3) e2 (by simp)
        rw [← List.take_append_drop 3 a, ← List.take_append_drop 3 b, e3, e4]
end Ar
end Go.Proofs.YtfdkcgdanhlfkaaGreatDoor

namespace Go.Proofs.YtfdkcgdanhlfkaaGreatDoor
namespace Ar
set_option linter.unusedVariables false
set_option linter.unusedSimpArgs false
open Go.RowKit

theorem lines_any (A : Option Addr) (xs : List UInt8) (n c : Nat) (w : World) (hn : xs.length = n) (hA : Rb w A xs) (hnc : n ≤ c) (hc : n ≤ 1000000000) :
    Calls Tryz.prog 80 #[.slice A n c] w fun e w' => (∃ v, e = .returned v ∧ w'.ownsRow w.heap.size 5 1 v (lin (enc xs)).length ((lin (enc xs)).map bv)) ∧ Below w.heap.size w w' :=
  callsIn_wide.1 (lines_in 5 (by omega) A xs n c w hn hA hnc hc)

/-- what Decode answers, in one form -/
theorem dec_form {l : List UInt8} {w w' : World} {e : Ending} (h : DecOut l w e w') : ∃ A n c a k, e = .returned (.tuple #[.slice A n c, .int .i64 k]) ∧ a.length = n ∧ n ≤ c ∧ n ≤ l.length ∧ Rb w' A a ∧
    ((k = 0 ∧ enc a = l) ∨ (k = 3 ∧ ∀ a, enc a ≠ l)) ∧ Below w.heap.size w w' := by
  obtain ⟨⟨A, n, c, a, rfl, h1, hc, h2, h3, h4⟩ | ⟨rfl, h1⟩, hb⟩ := h
  · exact ⟨A, n, c, a, 0, rfl, h1, hc, h2, h3, .inl ⟨rfl, h4⟩, hb⟩
  · exact ⟨none, 0, 0, [], 3, rfl, rfl, Nat.le_refl _, by omega, Rb.nil _ _, .inr ⟨rfl, h1⟩, hb⟩
end Ar
end Go.Proofs.YtfdkcgdanhlfkaaGreatDoor

namespace Go.Proofs.YtfdkcgdanhlfkaaGreatDoor
namespace Ar
set_option linter.unusedVariables false
set_option linter.unusedSimpArgs false
open Go.RowKit

theorem Rb_fresh {B : Nat} {w : World} {v : Value} {l : List UInt8} (h : Lib.FreshBytes B w v l) : ∃ A c, v = .slice A l.length c ∧ l.length ≤ c ∧ Rb w A l := by
  obtain ⟨g, cap, zs, rfl, hg, hlc, hcm, hz, hzb, hl, hc, hf⟩ := h
  refine ⟨_, cap, rfl, hlc, fun hp => ⟨g, 0, rfl, fun j v hj => ?_⟩⟩
  have hlt := lt_of_get hj
  simp only [List.length_map] at hlt
  rw [Nat.zero_add, hc j (by omega), ← hj]
  have hjz : j < (zs.take l.length).length := by simp; omega
  have hb := hzb (zs.getD j 0) (by rw [List.getD_eq_getElem?_getD, List.getElem?_eq_getElem (by omega : j < zs.length)]; exact List.getElem_mem _)
  have hz' : zs.getD j 0 = zs[j]'(by omega) := by rw [List.getD_eq_getElem?_getD, List.getElem?_eq_getElem (by omega : j < zs.length)]; rfl
  have e : l[j]? = some (UInt8.ofNat (zs.getD j 0).toNat) := by
    rw [hz']
    have h1 : (Lib.bytesOf (zs.take l.length))[j]? = l[j]? := by rw [hl]
    rw [← h1]
    simp [Lib.bytesOf, hlt, List.getElem?_eq_getElem (by omega : j < zs.length)]
  rw [List.getElem?_map, e]
  simp only [Option.map_some, bv]
  rw [UInt8.toNat_ofNat']
  congr 2
  omega

theorem join_flat (ls : List (List UInt8)) : Lib.join ls [] = ls.flatten := by
  rcases ls with _ | ⟨x, r⟩
  · rfl
  · rw [Lib.join_cons, Lib.joinTail]
    simp

theorem join_any (g c : Nat) (vs : List Value) (ls : List (List UInt8)) (n : Nat) (w : World) (hn : ls.length = n) (hP : Lib.PartsAt w ⟨g, 0, none⟩ vs ls) (hc : n ≤ c) (h47 : n ≤ 140737488355328) (hlen : ls.flatten.length ≤ 140737488355328) :
    Calls Tryz.prog 103 #[.slice (some ⟨g, 0, none⟩) n c, .slice none 0 0] w fun e w' => (∃ A c', e = .returned (.slice A ls.flatten.length c') ∧ ls.flatten.length ≤ c' ∧ Rb w' A ls.flatten) ∧ Below w.heap.size w w' := by
  have pl : ∀ (b o j : Nat), (⟨b, o, none⟩ : Addr).add j = ⟨b, o + j, none⟩ := fun b o j => by unfold Addr.add; split <;> simp_all
  rcases (by omega : n = 0 ∨ n = 1 ∨ 2 ≤ n) with rfl | rfl | h2
  · obtain rfl : ls = [] := List.eq_nil_of_length_eq_zero hn
    refine (Tryz.bytes_Join_none _ _ _ _).mono ?_
    rintro e w' ⟨rfl, rfl⟩
    exact ⟨⟨_, _, rfl, Nat.le_refl _, Rb.nil _ _⟩, (Below.refl _ _).alloc (Nat.le_refl _) _⟩
  · obtain ⟨l0, rfl⟩ : ∃ l0, ls = [l0] := List.length_eq_one_iff.1 hn
    obtain ⟨p, cap, l, hl, hcell, hp0, hbs⟩ := hP.get 0 (by simp)
    simp at hl
    subst hl
    simp only [List.flatten_cons, List.flatten_nil, List.append_nil] at hlen ⊢
    rw [pl] at hcell
    rcases Nat.eq_zero_or_pos l0.length with h0 | h0
    · obtain rfl : l0 = [] := List.eq_nil_of_length_eq_zero h0
      refine (Tryz.bytes_Join_one_empty g 0 c p cap _ w hcell).mono ?_
      rintro e w' ⟨rfl, rfl⟩
      exact ⟨⟨_, _, rfl, Nat.le_refl _, Rb.nil _ _⟩, Below.refl _ _⟩
    · rcases p with _ | a
      · rw [hp0 rfl] at h0
        simp at h0
      refine (Tryz.bytes_Join_one g 0 c a cap l0 _ w hcell (hbs a rfl) h0 hlen).mono ?_
      rintro e w' ⟨v, rfl, hv, hb⟩
      obtain ⟨A, c', rfl, h1, h2⟩ := Rb_fresh hv
      exact ⟨⟨_, _, rfl, h1, h2⟩, hb⟩
  · have hS : Lib.HoldsBytes w (.slice none 0 0) [] := ⟨none, 0, rfl, fun _ => rfl, by simp⟩
    refine (Tryz.bytes_Join_many g 0 n c vs ls _ [] w hn h2 hP hc hS h47 (by simpa [Lib.lens, List.length_flatten] using hlen)).mono ?_
    rintro e w' ⟨v, rfl, hv, hb⟩
    rw [join_flat] at hv
    obtain ⟨A, c', rfl, h1, h2⟩ := Rb_fresh hv
    exact ⟨⟨_, _, rfl, h1, h2⟩, hb⟩

theorem nob_length (l : List UInt8) : (nob l).length ≤ l.length := List.length_filter_le _ _

set_option maxRecDepth 100000 in
set_option maxHeartbeats 2000000 in
theorem read_any (A : Option Addr) (l : List UInt8) (n c : Nat) (w : World) (hT : Lib.Utf8Tabs 2 3 w) (hn : l.length = n) (hA : Rb w A l) (hnc : n ≤ c) (hb : n ≤ 100000000) :
    Calls Tryz.prog 73 #[.slice A n c] w (DecOut (nob l) w) := by
  have HN := Lib.hid hn
  clear hn
  go_enter Tryz.func73, Tryz.ntmps73
  go_wp2_with fail
  refine (fields_any A l n c w hT HN.out hA hnc (by omega)).mono ?_
  rintro e w1 ⟨⟨g, vs, ls, c', rfl, hc', hll, hP, hf⟩, hb1⟩
  have hnl := nob_length l
  rw [HN.out] at hnl
  have hfl : ls.flatten.length ≤ 100000000 := by rw [hf]; omega
  go_wp2_with fail
  refine (join_any g c' vs ls _ w1 rfl hP hc' (by omega) (by omega)).mono ?_
  rintro e w2 ⟨⟨A2, c2, rfl, hc2, hR2⟩, hb2⟩
  have hcv := conv_str (P := Tryz.prog) (src := 22) (dst := 9) (e := 5) Tryz.underlying22 Tryz.underlying5 Tryz.underlying9 (n := ls.flatten.length) (c := c2) hR2 rfl
  have HF := Lib.hid hf
  have hB2 := hb1.trans (hb2.mono hb1.size)
  clear hf
  generalize ls.flatten = m at *
  go_wp2_with fail
  refine (dec_any m _ hfl).mono ?_
  intro e w3 hd
  rw [HF.out] at hd
  obtain ⟨hd1, hb3⟩ := hd
  rcases hd1 with ⟨A3, n3, c3, a3, rfl, h1, h2, h3, h4, h5⟩ | ⟨rfl, h1⟩
  · have H1 := Lib.hid h1
    have H5 := Lib.hid h5
    clear h1 h5
    go_wp2
    go_ret2
    exact ⟨.inl ⟨_, _, _, _, rfl, H1.out, h2, h3, h4, H5.out⟩, hB2.trans (hb3.mono hB2.size)⟩
  · have H1 := Lib.hid h1
    clear h1
    go_wp2
    go_ret2
    exact ⟨.inr ⟨rfl, H1.out⟩, hB2.trans (hb3.mono hB2.size)⟩
end Ar
end Go.Proofs.YtfdkcgdanhlfkaaGreatDoor
