/- The statements of layer 6 that need no more than Encode and Decode: speaks, ArmorParts. -/
import Derived.Test.YtdnlelmajepleaaA4
namespace Go.Proofs.Ytdnlelmajepleaa
open Go.RowKit

set_option maxRecDepth 100000 in
set_option maxHeartbeats 1000000 in
theorem speaks_any (w : World) : Calls Try.prog 5 #[] w fun e w' => e = .returned (.bool true) ∧ Below w.heap.size w w' := by
  go_enter Try.func5, Try.ntmps5
  go_wp2_with fail
  refine (dec_any [90, 109, 57, 61] _ (by decide)).mono ?_
  rintro e w1 ⟨h | ⟨rfl, _⟩, hb1⟩
  · obtain ⟨A, n, c, a, _, _, _, _, _, h⟩ := h
    exact absurd h (zm9 a)
  have kc := Lib.run_convert_bytes_const (P := Try.prog) w1 22 5 #[.int .u8 102, .int .u8 111] 2 2 Try.underlying22 Try.underlying5
  have hr := Rb_new w1 [102, 111] 5 #[.int .u8 102, .int .u8 111] rfl 2 (2, 3)
  go_wp2_with fail
  refine (enc_any _ [102, 111] 2 2 _ rfl hr (by omega) (by omega)).mono ?_
  rintro e w2 ⟨rfl, hb2⟩
  rw [zm8]
  go_wp2
  go_ret
  exact ⟨rfl, hb1.trans ((((Below.refl _ w1).alloc (Nat.le_refl _) _).trans (hb2.mono (by simp))).mono hb1.size)⟩

set_option maxRecDepth 100000 in
set_option maxHeartbeats 1000000 in
theorem parts_any (A B : Option Addr) (n m c d : Nat) (xs ys : List UInt8) (w : World) (hn : xs.length = n) (hm : ys.length = m) (hA : Rb w A xs) (hB : Rb w B ys) (hnc : n ≤ c) (hmd : m ≤ d) :
    Calls Try.prog 3 #[.slice A n c, .slice B m d] w fun e w' => e = .returned (.bool true) ∧ Below w.heap.size w w' := by
  go_enter Try.func3, Try.ntmps3
  have HN := Lib.hid hn
  have HM := Lib.hid hm
  clear hn hm
  go_wp2_with fail
  refine (speaks_any _).mono ?_
  rintro e w1 ⟨rfl, hb1⟩
  by_cases h1 : 1000 < n
  · go_wp2
    go_ret
    exact ⟨rfl, hb1⟩
  by_cases h2 : 1000 < m
  · go_wp2
    go_ret
    exact ⟨rfl, hb1⟩
  have hsz := hb1.size
  have hp3 : n / 3 * 3 ≤ n := by omega
  have hown0 := World.ownsRow_lit (base := w1.heap.size) (e := 5) (size := 1) w1 #[] 0 (Nat.le_refl _) (by unfold maxLen; omega) rfl
  have hA1 : Rb (w1.alloc (.cells #[] 5)) A (xs.take (n / 3 * 3)) := ((hA.below hb1).below ((Below.refl _ _).alloc (Nat.le_refl _) _)).take _
  have hlp : (xs.take (n / 3 * 3)).length = n / 3 * 3 := by rw [List.length_take, HN.out]; omega
  generalize hxp : xs.take (n / 3 * 3) = xp at *
  have HP := Lib.hid hlp
  have HXP := Lib.hid hxp
  clear hlp hxp
  go_wp2_with (first
    | (at_builtin; refine wpList_app rfl (.tmp 22) (.tmp 23) _ _ rfl TU8 hown0 rfl (Src_rb Try.underlying22 HP.out hA1) rfl (by omega) (by simp) ?_; intro v2 w2 hown2 hgr2 hat2; have hb2 := below_app ((Below.refl _ w1).alloc (Nat.le_refl _) (.cells #[] 5)) hown0 hgr2 (by simp) (Nat.le_refl _); have hB2 : Rb w2 B ys := (hB.below hb1).below hb2)
    | (at_builtin; refine wpList_app rfl (.tmp 24) (.tmp 25) _ _ rfl TU8 hown2 rfl (Src_rb Try.underlying22 HM.out hB2) rfl (by omega) hb2.size ?_; intro v3 w3 hown3 hgr3 hat3))
  have hx3 : xp.length % 3 = 0 := by rw [HP.out]; omega
  have hl3 : 0 + n / 3 * 3 + m = (xp ++ ys).length := by rw [List.length_append, HP.out, HM.out]; omega
  rw [List.nil_append, ← List.map_append, hl3] at hown3
  obtain ⟨A3, c3, rfl, hc3, _, hr3, _⟩ := own_slice hown3
  have hB3 : Below w1.heap.size w1 w3 := below_app hb2 hown2 hgr3 hb2.size (Nat.le_refl _)
  have hA3 := ((hA.below hb1).below hB3).take (n / 3 * 3)
  rw [HXP.out] at hA3
  have hB3' := (hB.below hb1).below hB3
  have hlen := enc_length ys
  rw [HM.out] at hlen
  have hlenx := enc_length xp
  rw [HP.out] at hlenx
  have hq : (((enc ys).length : Int) == ((m : Int) + 2) / 3 * 4) = true := by rw [beq_iff_eq]; omega
  have hs1 : (enc ys).length ≤ 4000 := by omega
  have hs2 : (enc xp).length ≤ 4000 := by omega
  have hl3' : (xp ++ ys).length ≤ 2000 := by omega
  clear hlen hlenx hl3 hgr2 hgr3 hat2 hat3 hown0 hown2 hown3 hA1
  refine (enc_any _ (xp ++ ys) _ _ _ rfl hr3 hc3 (by omega)).mono ?_
  rintro e w4 ⟨rfl, hb4⟩
  rw [enc_append _ _ hx3]
  go_wp2_with fail
  refine (enc_any _ xp _ _ _ HP.out (hA3.below hb4) (by omega) (by omega)).mono ?_
  rintro e w5 ⟨rfl, hb5⟩
  go_wp2_with fail
  refine (enc_any _ ys _ _ _ HM.out ((hB3'.below hb4).below hb5) hmd (by omega)).mono ?_
  rintro e w6 ⟨rfl, hb6⟩
  go_wp2_with fail
  refine (enc_any _ ys _ _ _ HM.out (((hB3'.below hb4).below hb5).below hb6) hmd (by omega)).mono ?_
  rintro e w7 ⟨rfl, hb7⟩
  go_wp2
  go_ret
  refine ⟨rfl, ?_⟩
  have h14 := hB3.trans (hb4.mono hB3.size)
  have h15 := h14.trans (hb5.mono h14.size)
  have h16 := h15.trans (hb6.mono h15.size)
  have h17 := h16.trans (hb7.mono h16.size)
  exact hb1.trans (h17.mono hsz)
end Go.Proofs.Ytdnlelmajepleaa
