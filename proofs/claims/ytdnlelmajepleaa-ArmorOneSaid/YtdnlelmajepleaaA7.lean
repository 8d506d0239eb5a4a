/- The statement ArmorOne: the walk of the law. -/
import Derived.Test.YtdnlelmajepleaaA6
import Derived.Test.YtdnlelmajepleaaQ6
namespace Go.Proofs.Ytdnlelmajepleaa
open Go.RowKit

theorem lines_any (A : Option Addr) (xs : List UInt8) (n c : Nat) (w : World) (hn : xs.length = n) (hA : Rb w A xs) (hnc : n ≤ c) (hc : n ≤ 1000000000) :
    Calls Try.prog 9 #[.slice A n c] w fun e w' => (∃ v, e = .returned v ∧ w'.ownsRow w.heap.size 5 1 v (lin (enc xs)).length ((lin (enc xs)).map bv)) ∧ Below w.heap.size w w' :=
  callsIn_wide.1 (lines_in 5 (by omega) A xs n c w hn hA hnc hc)

/-- what Decode answers, in one form -/
theorem dec_form {l : List UInt8} {w w' : World} {e : Ending} (h : DecOut l w e w') : ∃ A n c a k, e = .returned (.tuple #[.slice A n c, .int .i64 k]) ∧ a.length = n ∧ n ≤ c ∧ n ≤ l.length ∧ Rb w' A a ∧
    ((k = 0 ∧ enc a = l) ∨ (k = 3 ∧ ∀ a, enc a ≠ l)) ∧ Below w.heap.size w w' := by
  obtain ⟨⟨A, n, c, a, rfl, h1, hc, h2, h3, h4⟩ | ⟨rfl, h1⟩, hb⟩ := h
  · exact ⟨A, n, c, a, 0, rfl, h1, hc, h2, h3, .inl ⟨rfl, h4⟩, hb⟩
  · exact ⟨none, 0, 0, [], 3, rfl, rfl, Nat.le_refl _, by omega, Rb.nil _ _, .inr ⟨rfl, h1⟩, hb⟩

set_option maxRecDepth 100000 in
set_option maxHeartbeats 2000000 in
theorem one_any (l m : List UInt8) (w : World) :
    Calls Try.prog 4 #[.string (bs l), .string (bs m)] w fun e w' => e = .returned (.bool true) ∧ Below w.heap.size w w' := by
  go_enter Try.func4, Try.ntmps4
  go_wp2_with fail
  refine (speaks_any _).mono ?_
  rintro e w1 ⟨rfl, hb1⟩
  by_cases h1 : 1000 < l.length
  · go_wp2
    go_ret
    exact ⟨rfl, hb1⟩
  by_cases h2 : 1000 < m.length
  · go_wp2
    go_ret
    exact ⟨rfl, hb1⟩
  go_wp2_with fail
  refine (dec_any l _ (by omega)).mono ?_
  intro e w2 hd
  obtain ⟨A, n, c, a, k, rfl, hn, hnc, hnl, hra, hka, hb2⟩ := dec_form hd
  have HN := Lib.hid hn
  have HKA := Lib.hid hka
  clear hn hka hd
  go_wp2_with fail
  refine (dec_any m _ (by omega)).mono ?_
  intro e w3 hd
  obtain ⟨B, n', c', b, k', rfl, hn', hnc', hnl', hrb, hkb, hb3⟩ := dec_form hd
  have HN' := Lib.hid hn'
  have HKB := Lib.hid hkb
  clear hn' hkb hd
  have hB2 := hb1.trans (hb2.mono hb1.size)
  have hB3 := hB2.trans (hb3.mono hB2.size)
  have hra3 := hra.below hb3
  have hne : k = 0 → k' = 0 → (!(decide (a = b) == (l == m))) = false := fun h h' => by
    have hea : enc a = l := by rcases HKA.out with ⟨_, h1⟩ | ⟨h1, _⟩; exact h1; omega
    have heb : enc b = m := by rcases HKB.out with ⟨_, h1⟩ | ⟨h1, _⟩; exact h1; omega
    have : (a = b) ↔ (l = m) := ⟨fun h => by rw [← hea, ← heb, h], fun h => enc_inj a b (by rw [hea, heb, h])⟩
    by_cases hlm : l = m <;> simp [this, hlm]
  have hk03 : k = 0 ∨ k = 3 := HKA.out.imp And.left And.left
  have hk03' : k' = 0 ∨ k' = 3 := HKB.out.imp And.left And.left
  have HNE := Lib.hid hne
  clear hne
  rcases hk03 with rfl | rfl <;> rcases hk03' with rfl | rfl
  · have hne := HNE.out rfl rfl
    go_wp2_with fail
    refine (same_any A B a b n n' c c' _ HN.out HN'.out hra3 hrb (by omega)).mono ?_
    rintro e w4 ⟨rfl, hdn⟩
    have hB4 := hB3.trans (hdn.below _)
    have hr4 := hra3.below (hdn.below _)
    clear hdn hra3 hrb hB3 hb3 hra hB2 hb2
    go_wp2_with fail
    clear hne
    refine (lines_any A a n c _ HN.out hr4 hnc (by omega)).mono ?_
    rintro e w5 ⟨⟨v, rfl, hown⟩, hb5⟩
    have hsh := lin_short (enc a) (enc_10 a)
    have hll := lin_len (enc a)
    have hel := enc_length a
    rw [HN.out] at hel
    have hlL : (lin (enc a)).length ≤ 100000 := by omega
    generalize lin (enc a) = L at *
    obtain ⟨C, d, rfl, _, _, hrL, _⟩ := own_slice hown
    have HSH := Lib.hid hsh
    clear hsh hll hel hown hr4
    go_wp2_with fail
    go_loop [9, 50] (fun x i => ∃ k : Nat, k ≤ L.length ∧ i = .int .i64 k ∧ x = .int .i64 (cnt (L.take k))) (fun _ i => L.length - (intOf i).toNat)
    case atStart => exact ⟨0, Nat.zero_le _, rfl, rfl⟩
    case round =>
      obtain ⟨k, hk, rfl, rfl⟩ := hrel
      by_cases hlt : k < L.length
      · obtain ⟨g, o, x, rfl, HX, hcell⟩ := hrL.one hlt
        have hc1 := HSH.out.1 k
        have hc2 := HSH.out.1 (k + 1)
        rw [take_succ_of HX.out, cnt_snoc] at hc2
        have HC2 := Lib.hid hc2
        clear hc2
        by_cases h10 : x = 10
        · have hb : ((x.toNat : Int) == 10) = true := by subst h10; rfl
          go_wp2
          go_round
          case rel => exact ⟨k + 1, by omega, by go_num, by rw [take_succ_of HX.out, cnt_snoc, if_pos h10]; rfl⟩
          case measure => simp [intOf]; omega
        · have hb : ((x.toNat : Int) == 10) = false := by
            have : (x.toNat : Int) ≠ ((10 : UInt8).toNat : Int) := fun e => h10 (u8_eq.1 e)
            simpa using this
          have hc3 := HC2.out
          rw [if_neg h10] at hc3
          go_wp2
          go_round
          case rel => exact ⟨k + 1, by omega, by go_num, by rw [take_succ_of HX.out, cnt_snoc, if_neg h10]; go_num⟩
          case measure => simp [intOf]; omega
      · have hz : cnt (L.take k) = 0 := by rw [List.take_of_length_le (by omega)]; exact HSH.out.2
        go_wp2
        go_ret
        exact ⟨rfl, hB4.trans (hb5.mono hB4.size)⟩
  all_goals
    have hB4 := hB3
    have hr4 := hra3
    clear hra3 hrb hB3 hb3 hra hB2 hb2
    go_wp2_with fail
    refine (lines_any A a n c _ HN.out hr4 hnc (by omega)).mono ?_
    rintro e w5 ⟨⟨v, rfl, hown⟩, hb5⟩
    have hsh := lin_short (enc a) (enc_10 a)
    have hll := lin_len (enc a)
    have hel := enc_length a
    rw [HN.out] at hel
    have hlL : (lin (enc a)).length ≤ 100000 := by omega
    generalize lin (enc a) = L at *
    obtain ⟨C, d, rfl, _, _, hrL, _⟩ := own_slice hown
    have HSH := Lib.hid hsh
    clear hsh hll hel hown hr4
    go_wp2_with fail
    go_loop [9, 50] (fun x i => ∃ k : Nat, k ≤ L.length ∧ i = .int .i64 k ∧ x = .int .i64 (cnt (L.take k))) (fun _ i => L.length - (intOf i).toNat)
    case atStart => exact ⟨0, Nat.zero_le _, rfl, rfl⟩
    case round =>
      obtain ⟨k, hk, rfl, rfl⟩ := hrel
      by_cases hlt : k < L.length
      · obtain ⟨g, o, x, rfl, HX, hcell⟩ := hrL.one hlt
        have hc1 := HSH.out.1 k
        have hc2 := HSH.out.1 (k + 1)
        rw [take_succ_of HX.out, cnt_snoc] at hc2
        have HC2 := Lib.hid hc2
        clear hc2
        by_cases h10 : x = 10
        · have hb : ((x.toNat : Int) == 10) = true := by subst h10; rfl
          go_wp2
          go_round
          case rel => exact ⟨k + 1, by omega, by go_num, by rw [take_succ_of HX.out, cnt_snoc, if_pos h10]; rfl⟩
          case measure => simp [intOf]; omega
        · have hb : ((x.toNat : Int) == 10) = false := by
            have : (x.toNat : Int) ≠ ((10 : UInt8).toNat : Int) := fun e => h10 (u8_eq.1 e)
            simpa using this
          have hc3 := HC2.out
          rw [if_neg h10] at hc3
          go_wp2
          go_round
          case rel => exact ⟨k + 1, by omega, by go_num, by rw [take_succ_of HX.out, cnt_snoc, if_neg h10]; go_num⟩
          case measure => simp [intOf]; omega
      · have hz : cnt (L.take k) = 0 := by rw [List.take_of_length_le (by omega)]; exact HSH.out.2
        go_wp2
        go_ret
        exact ⟨rfl, hB4.trans (hb5.mono hB4.size)⟩
end Go.Proofs.Ytdnlelmajepleaa
