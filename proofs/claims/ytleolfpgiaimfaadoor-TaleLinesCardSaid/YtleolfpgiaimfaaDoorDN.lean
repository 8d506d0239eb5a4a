/- The document's numerals, digits, truths. -/
import Derived.Test.YtleolfpgiaimfaaDoorDL
namespace Go.Proofs.YtleolfpgiaimfaaDoor
set_option linter.unusedVariables false
set_option linter.unusedSimpArgs false
open Go.RowKit Go.Shelf

theorem rtruth_any (b : Bool) (w : World) : Calls Tryd.prog 16 #[.bool b] w fun e w' => e = .returned (.string (bs (tru b))) ∧ w' = w := by
  cases b <;>
  · go_enter Tryd.func16, Tryd.ntmps16
    go_wp2_with fail
    go_ret
    exact ⟨rfl, rfl⟩

/-- the digits that are still to come -/
def dgD (u i : Nat) : List UInt8 := if u = 0 ∧ i ≠ 0 then [] else Lib.decDigits u
theorem dgD_step {u i : Nat} (h : 0 < u ∨ i = 0) : dgD u i = dgD (u / 10) (i + 1) ++ [UInt8.ofNat (48 + u % 10)] := by
  have h1 : ¬ (u = 0 ∧ i ≠ 0) := by omega
  unfold dgD
  rw [if_neg h1]
  by_cases hu : u < 10
  · have : u / 10 = 0 := by omega
    have h2 : u % 10 = u := by omega
    rw [Lib.decDigits, dif_pos hu, if_pos ⟨this, by omega⟩, h2, List.nil_append]
  · have : ¬ (u / 10 = 0 ∧ i + 1 ≠ 0) := by omega
    rw [if_neg this]
    conv => lhs; rw [Lib.decDigits, dif_neg hu]
theorem dig_cut : ∀ d : Fin 10, (⟨#[48, 49, 50, 51, 52, 53, 54, 55, 56, 57]⟩ : ByteArray).extract d.val (d.val + 1) = bs [UInt8.ofNat (48 + d.val)] := by decide +kernel

set_option maxRecDepth 100000 in
set_option maxHeartbeats 1000000 in
theorem rint21_any (n : Nat) (w : World) (hn : n ≤ 9223372036854775807) :
    Calls Tryd.prog 45 #[.int .i64 (n : Int)] w fun e w' => e = .returned (.string (bs (Lib.decDigits n))) ∧ w' = w := by
  obtain ⟨m, hm⟩ : ∃ m : Nat, m = n := ⟨_, rfl⟩
  have HM := Lib.hid hm
  have hn2 : m ≤ 9223372036854775807 := by omega
  rw [← hm]
  clear hm hn
  go_enter Tryd.func45, Tryd.ntmps45
  go_wp2_with fail
  go_loop [0, 3, 4] (fun x y z => ∃ (u i : Nat) (s : List UInt8), x = .int .i64 (u : Int) ∧ y = .string (bs s) ∧ z = .int .i64 (i : Int) ∧ i ≤ 20 ∧ u * 10 ^ i ≤ m ∧ s.length ≤ i ∧ Hid (Lib.decDigits m = dgD u i ++ s)) (fun _ _ z => 20 - (intOf z).toNat)
  case atStart => exact ⟨m, 0, [], rfl, rfl, rfl, by omega, by simp, by simp, Lib.hid (by simp [dgD])⟩
  case round =>
    obtain ⟨u, i, s, rfl, rfl, rfl, hi, hu, hsl, HD⟩ := hrel
    have hum : u ≤ m := Nat.le_trans (Nat.le_mul_of_pos_right u (Nat.pow_pos (by omega))) hu
    by_cases hc : 0 < u
    · have hi20 : i < 20 := by
        rcases Nat.lt_or_ge i 20 with h | h
        · exact h
        · exfalso
          have e : i = 20 := by omega
          rw [e] at hu
          have : 1 * 10 ^ 20 ≤ u * 10 ^ 20 := Nat.mul_le_mul_right _ hc
          omega
      have hu2 : u / 10 * 10 ^ (i + 1) ≤ m := by
        rw [Nat.pow_succ, Nat.mul_comm (10 ^ i) 10, ← Nat.mul_assoc]
        exact Nat.le_trans (Nat.mul_le_mul_right _ (Nat.div_mul_le_self u 10)) hu
      have hst := dgD_step (u := u) (i := i) (.inl hc)
      have hdc := dig_cut ⟨u % 10, Nat.mod_lt _ (by omega)⟩
      obtain ⟨d, hd⟩ : ∃ d, u % 10 = d := ⟨_, rfl⟩
      obtain ⟨q, hq⟩ : ∃ q, u / 10 = q := ⟨_, rfl⟩
      have hdl : d < 10 := by omega
      have hql : q ≤ u := by omega
      have hmod : (u : Int) % 10 = (d : Int) := by omega
      have hdiv : (u : Int) / 10 = (q : Int) := by omega
      simp only [hd] at hdc
      rw [hd, hq] at hst
      rw [hq] at hu2
      have HST : Hid (Lib.decDigits m = dgD q (i + 1) ++ ([UInt8.ofNat (48 + d)] ++ s)) := Lib.hid (by rw [HD.out, hst, List.append_assoc])
      obtain ⟨c, hcc⟩ : ∃ c, UInt8.ofNat (48 + d) = c := ⟨_, rfl⟩
      rw [hcc] at hdc HST
      clear hst hd hq hcc hu
      have hc1 : decide ((0 : Int) < u) = true := by simpa using hc
      go_wp2_with fail
      all_goals
        go_round
        case rel => exact ⟨q, i + 1, c :: s, rfl, rfl, by go_num, by omega, hu2, by simp; omega, HST⟩
        case measure => simp [intOf]; omega
    · obtain rfl : u = 0 := by omega
      rcases Nat.eq_zero_or_pos i with rfl | hi0
      · have e0 : Lib.decDigits m = [48] ++ s := by
          rw [HD.out]
          have : dgD 0 0 = [48] := by
            unfold dgD
            rw [if_neg (by omega), Lib.decDigits, dif_pos (by omega)]
            rfl
          rw [this]
        have HE := Lib.hid e0
        clear e0 hu hc
        go_wp2_with fail
        go_round
        case rel => exact ⟨0, 1, 48 :: s, rfl, rfl, by go_num, by omega, by simp, by simp only [List.length_cons]; omega, Lib.hid (by rw [HE.out]; simp [dgD])⟩
        case measure => simp [intOf]
      · have hi1 : ((i : Int) == 0) = false := by rw [beq_eq_false_iff_ne]; omega
        have hx : Lib.decDigits m = s := by
          rw [HD.out]
          have : dgD 0 i = [] := by
            unfold dgD
            rw [if_pos ⟨rfl, by omega⟩]
          rw [this, List.nil_append]
        have HX := Lib.hid hx
        clear hx hu hc
        go_wp2_with fail
        all_goals
          go_ret
          exact ⟨ret_str (by rw [HX.out]), rfl⟩

theorem itoa_neg (u : Nat) (h : 0 < u) : Lib.itoa (-(u : Int)) = 45 :: Lib.decDigits u := by
  unfold Lib.itoa
  rw [if_pos (by omega)]
  congr 2
  omega
theorem dec_two (u : Nat) (h : 10 ≤ u) : Lib.decDigits u = Lib.decDigits (u / 10) ++ Lib.decDigits (u % 10) := by
  conv => lhs; rw [Lib.decDigits, dif_neg (by omega)]
  conv => rhs; rw [Lib.decDigits.eq_def (u % 10), dif_pos (by omega)]
set_option maxRecDepth 100000 in
set_option maxHeartbeats 1000000 in
theorem rint_any (z : Int) (w : World) (hz : isInt z) :
    Calls Tryd.prog 14 #[.int .i64 z] w fun e w' => e = .returned (.string (bs (Lib.itoa z))) ∧ w' = w := by
  obtain ⟨h1, h2⟩ := hz
  rcases Int.lt_or_le z 0 with h4 | h0
  rotate_left 1
  · obtain ⟨n, rfl⟩ : ∃ n : Nat, z = n := ⟨z.toNat, by omega⟩
    have hc := rint21_any n w (by omega)
    have hx : Lib.itoa (n : Int) = Lib.decDigits n := by
      unfold Lib.itoa
      rw [if_neg (by omega)]
      simp
    rw [hx]
    clear hx
    go_enter Tryd.func14, Tryd.ntmps14
    go_wp2_with (refine hc.mono ?_; rintro e w' ⟨rfl, rfl⟩)
    go_ret
    exact ⟨rfl, rfl⟩
  · · obtain ⟨u, rfl⟩ : ∃ u : Nat, z = -(u : Int) := ⟨(-z).toNat, by omega⟩
      have hu : 0 < u := by omega
      have hu2 : u ≤ 9223372036854775808 := by omega
      rw [itoa_neg u hu]
      by_cases h3 : u < 10
      · have hc := rint21_any u w (by omega)
        have hdl : (Lib.decDigits u).length ≤ 20 := by
          rw [Lib.decDigits, dif_pos h3]
          simp
        obtain ⟨D, hD⟩ : ∃ D, Lib.decDigits u = D := ⟨_, rfl⟩
        rw [hD] at hc hdl ⊢
        clear hD
        have g1 : ¬ (0 : Int) ≤ -(u : Int) := by omega
        have g2 : -10 < -(u : Int) := by omega
        go_enter Tryd.func14, Tryd.ntmps14
        go_wp2_with (refine hc.mono ?_; rintro e w' ⟨rfl, rfl⟩)
        go_ret
        exact ⟨ret_str (by show bs [45] ++ bs D = _; rw [bs_add]; rfl), rfl⟩
      · have hc1 := rint21_any (u / 10) w (by omega)
        have hc2 := rint21_any (u % 10) w (by omega)
        have hl1 : (Lib.decDigits (u / 10)).length ≤ 20 := by
          rw [Lib.decDigits_length]
          exact Lib.nDigits_le20 (u / 10) (by omega)
        have hl2 : (Lib.decDigits (u % 10)).length ≤ 20 := by
          rw [Lib.decDigits_length]
          exact Lib.nDigits_le20 (u % 10) (by omega)
        rw [dec_two u (by omega)]
        obtain ⟨D, hD⟩ : ∃ D, Lib.decDigits (u / 10) = D := ⟨_, rfl⟩
        obtain ⟨D2, hD2⟩ : ∃ D2, Lib.decDigits (u % 10) = D2 := ⟨_, rfl⟩
        rw [hD] at hc1 hl1 ⊢
        rw [hD2] at hc2 hl2 ⊢
        clear hD hD2
        obtain ⟨q, hq⟩ : ∃ q, u / 10 = q := ⟨_, rfl⟩
        obtain ⟨d, hd⟩ : ∃ d, u % 10 = d := ⟨_, rfl⟩
        rw [hq] at hc1
        rw [hd] at hc2
        have hq2 : (u : Int).tdiv 10 = (q : Int) := by rw [Int.tdiv_eq_ediv_of_nonneg (by omega)]; omega
        have hd2 : (u : Int).tmod 10 = (d : Int) := by rw [Int.tmod_eq_emod_of_nonneg (by omega)]; omega
        have g1 : ¬ (0 : Int) ≤ -(u : Int) := by omega
        have g2 : ¬ -10 < -(u : Int) := by omega
        have g3 : q ≤ 9223372036854775807 := by omega
        have g4 : d ≤ 9 := by omega
        clear hq hd
        go_enter Tryd.func14, Tryd.ntmps14
        go_wp2_with (first | ((with_reducible refine hc1.mono ?_); rintro e w' ⟨rfl, rfl⟩) | ((with_reducible refine hc2.mono ?_); rintro e w' ⟨rfl, rfl⟩))
        go_ret
        exact ⟨ret_str (by show bs [45] ++ bs D ++ bs D2 = _; rw [bs_add, bs_add]; rfl), rfl⟩

end Go.Proofs.YtleolfpgiaimfaaDoor
