/- The statement ArmorReads: the walk of the law. -/
import Derived.Test.YtdnlelmajepleaaDoorG3
import Derived.Test.YtdnlelmajepleaaDoorA7
namespace Go.Proofs.YtdnlelmajepleaaDoor
open Go.RowKit

/-- two answers for one text are one -/
theorem dec_same {l a b : List UInt8} {j k : Nat} (h1 : (j = 0 ∧ enc a = l) ∨ (j = 3 ∧ ∀ a, enc a ≠ l)) (h2 : (k = 0 ∧ enc b = l) ∨ (k = 3 ∧ ∀ a, enc a ≠ l)) (ha : j = 3 → a = []) (hb : k = 3 → b = []) : j = k ∧ a = b := by
  rcases h1 with ⟨rfl, e1⟩ | ⟨rfl, e1⟩ <;> rcases h2 with ⟨rfl, e2⟩ | ⟨rfl, e2⟩
  · exact ⟨rfl, enc_inj _ _ (e1.trans e2.symm)⟩
  · exact absurd e1 (e2 a)
  · exact absurd e2 (e1 b)
  · exact ⟨rfl, by rw [ha rfl, hb rfl]⟩
theorem dec_form2 {l : List UInt8} {w w' : World} {e : Ending} (h : DecOut l w e w') : ∃ A n c a k, e = .returned (.tuple #[.slice A n c, .int .i64 ((k : Nat) : Int)]) ∧ a.length = n ∧ n ≤ c ∧ n ≤ l.length ∧ Rb w' A a ∧
    ((k = 0 ∧ enc a = l) ∨ (k = 3 ∧ ∀ a, enc a ≠ l)) ∧ (k = 3 → a = []) ∧ Below w.heap.size w w' := by
  obtain ⟨⟨A, n, c, a, rfl, h1, hc, h2, h3, h4⟩ | ⟨rfl, h1⟩, hb⟩ := h
  · exact ⟨A, n, c, a, 0, rfl, h1, hc, h2, h3, .inl ⟨rfl, h4⟩, by omega, hb⟩
  · exact ⟨none, 0, 0, [], 3, rfl, rfl, Nat.le_refl _, by omega, Rb.nil _ _, .inr ⟨rfl, h1⟩, fun _ => rfl, hb⟩

set_option maxRecDepth 100000 in
set_option maxHeartbeats 1000000 in
theorem reads_any (A : Option Addr) (n c : Nat) (l : List UInt8) (w : World) (hT : Lib.Utf8Tabs 1 2 w) (hn : l.length = n) (hA : Rb w A l) (hnc : n ≤ c) :
    Calls Tryd.prog 3 #[.slice A n c] w fun e w' => e = .returned (.bool true) ∧ Below w.heap.size w w' := by
  go_enter Tryd.func3, Tryd.ntmps3
  have HN := Lib.hid hn
  clear hn
  go_wp2_with fail
  refine (speaks_any _).mono ?_
  rintro e w1 ⟨rfl, hb1⟩
  by_cases h1 : 2000 < n
  · go_wp2
    go_ret
    exact ⟨rfl, hb1⟩
  have hln : l.length ≤ 2000 := by rw [HN.out]; omega
  have hsz := hb1.size
  have hA1 := hA.below hb1
  have hcv := conv_str (P := Tryd.prog) (src := 22) (dst := 9) (e := 5) Tryd.underlying22 Tryd.underlying5 Tryd.underlying9 (n := n) (c := c) hA1 HN.out
  go_wp2_with fail
  refine (dec_any l _ (by omega)).mono ?_
  intro e w2 hd
  obtain ⟨A2, n2, c2, a2, k2, rfl, h21, h22, h23, hR2, h24, h25, hb2⟩ := dec_form2 hd
  have hA2 := hA1.below hb2
  have hcv2 := conv_str (P := Tryd.prog) (src := 22) (dst := 9) (e := 5) Tryd.underlying22 Tryd.underlying5 Tryd.underlying9 (n := n) (c := c) hA2 HN.out
  have H21 := Lib.hid h21
  have H24 := Lib.hid h24
  have H25 := Lib.hid h25
  clear h21 h24 h25 hd hcv
  go_wp2_with fail
  refine (refD_any l _ (by omega)).mono ?_
  intro e w3 hd
  obtain ⟨A3, n3, c3, a3, k3, rfl, h31, h32, h33, hR3, h34, h35, hb3⟩ := dec_form2 hd
  obtain ⟨hk, rfl⟩ := dec_same H24.out h34 H25.out h35
  subst hk
  obtain rfl : n2 = n3 := by rw [← h31, H21.out]
  clear h31 h34 h35 hd hcv2
  have hB3 := hb1.trans ((hb2.trans (hb3.mono hb2.size)).mono hsz)
  go_wp2_with fail
  refine (read_any A l n c _ (tabs_below hT hB3) HN.out (hA2.below hb3) hnc (by omega)).mono ?_
  intro e w4 hd
  obtain ⟨A4, n4, c4, a4, k4, rfl, h41, h42, h43, hR4, h44, h45, hb4⟩ := dec_form2 hd
  have H41 := Lib.hid h41
  have H44 := Lib.hid h44
  have H45 := Lib.hid h45
  have hnl := nob_length l
  clear h41 h44 h45 hd
  go_wp2_with fail
  refine (refR_any A l n c _ HN.out ((hA2.below hb3).below hb4) hnc (by omega)).mono ?_
  intro e w5 hd
  obtain ⟨A5, n5, c5, a5, k5, rfl, h51, h52, h53, hR5, h54, h55, hb5⟩ := dec_form2 hd
  obtain ⟨hk, rfl⟩ := dec_same H44.out h54 H45.out h55
  subst hk
  obtain rfl : n4 = n5 := by rw [← h51, H41.out]
  have hk4 : k4 = 0 ∨ k4 = 3 := by rcases h54 with ⟨h, _⟩ | ⟨h, _⟩ <;> omega
  have hk2 : k2 = 0 ∨ k2 = 3 := by rcases H24.out with ⟨h, _⟩ | ⟨h, _⟩ <;> omega
  have hB5 := hB3.trans ((hb4.trans (hb5.mono hb4.size)).mono hB3.size)
  have hR2' := (hR2.below hb3).below (hb4.trans (hb5.mono hb4.size))
  have hR3' := hR3.below (hb4.trans (hb5.mono hb4.size))
  have hR4' := hR4.below hb5
  have H2 := H21.out
  have H4 := H41.out
  clear h51 h54 h55 hd H24 H25 H44 H45 H21 H41
  have HH2 := Lib.hid H2
  have HH4 := Lib.hid H4
  clear H2 H4
  rcases hk2 with rfl | rfl <;> rcases hk4 with rfl | rfl
  all_goals
    go_wp2_with fail
    refine (same_any A2 A3 a2 a2 n2 n2 c2 c3 w5 HH2.out HH2.out hR2' hR3' (by omega)).mono ?_
    rintro e w8 ⟨rfl, hb8⟩
    rw [decide_eq_true rfl]
    go_wp2_with fail
    refine (same_any A4 A5 a4 a4 n4 n4 c4 c5 w8 HH4.out HH4.out (hR4'.below (hb8.below _)) (hR5.below (hb8.below _)) (by omega)).mono ?_
    rintro e w9 ⟨rfl, hb9⟩
    rw [decide_eq_true rfl]
    go_wp2_with fail
    go_ret
    exact ⟨rfl, hB5.trans (((hb8.below w5.heap.size).trans ((hb9.below w8.heap.size).mono (hb8.below w5.heap.size).size)).mono hB5.size)⟩
end Go.Proofs.YtdnlelmajepleaaDoor
