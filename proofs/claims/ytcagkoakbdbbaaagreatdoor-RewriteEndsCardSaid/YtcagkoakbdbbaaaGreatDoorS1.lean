/- Whether two rows of bytes are the same. -/
import Derived.Test.YtcagkoakbdbbaaaGreatDoorChecked
import Derived.Test.YtcagkoakbdbbaaaGreatDoorK
namespace Go.Proofs.YtcagkoakbdbbaaaGreatDoor
set_option linter.unusedVariables false
set_option linter.unusedSimpArgs false
open Go.RowKit

set_option maxHeartbeats 400000 in
theorem same_any (A B : Option Addr) (xs ys : List UInt8) (n m c d : Nat) (w : World) (hn : xs.length = n) (hm : ys.length = m) (hA : Rb w A xs) (hB : Rb w B ys) (hl : n ≤ 9223372036854775807) :
    Calls Tryz.prog 8 #[.slice A n c, .slice B m d] w fun e w' => e = .returned (.bool (decide (xs = ys))) ∧ Dn w w' := by
  by_cases hnm : n = m
  · have HN := Lib.hid hn
    have HM := Lib.hid hm
    subst hnm
    clear hn hm
    go_enter Tryz.func8, Tryz.ntmps8
    go_wp2
    go_loopw [5] (fun i wr => ∃ k : Nat, k ≤ n ∧ i = .int .i64 k ∧ xs.take k = ys.take k ∧ ∃ q, wr = w.drewN q) (fun i _ => n - (intOf i).toNat)
    case atStart => exact ⟨0, Nat.zero_le _, rfl, by simp, 0, rfl⟩
    case round =>
      obtain ⟨k, hk, rfl, ht, q, rfl⟩ := hrel
      have HT := Lib.hid ht
      clear ht
      by_cases hlt : k < n
      · obtain ⟨b, o, x, rfl, HX, hxk⟩ := hA.one (k := k) (by rw [HN.out]; omega)
        obtain ⟨b', o', y, rfl, HY, hyk⟩ := hB.one (k := k) (by rw [HM.out]; omega)
        go_wp2_with fail
        go_quiet (fail)
        go_wp2
        · have h : ((x.toNat : Int) != y.toNat) = true := by assumption
          have hxy : ¬ xs = ys := fun e => by
            subst e
            have := HX.out.symm.trans HY.out
            simp_all
          go_ret
          exact ⟨ret_bool (decide_eq_false hxy).symm, Dn.of2 _ _ _⟩
        · have h : ((x.toNat : Int) != y.toNat) = false := by assumption
          have he : x = y := u8_eq.1 (by simpa using h)
          go_roundw
          case rel => exact ⟨k + 1, by omega, by go_num, by rw [take_succ_of HX.out, take_succ_of HY.out, HT.out, he], _, rfl⟩
          case measure => simp [intOf]; omega
      · have hxy : xs = ys := by
          have h := HT.out
          rwa [List.take_of_length_le (by rw [HN.out]; omega), List.take_of_length_le (by rw [HM.out]; omega)] at h
        go_wp2
        go_ret
        exact ⟨ret_bool (decide_eq_true hxy).symm, Dn.of _ _⟩
  · have hxy : ¬ xs = ys := fun e => by subst e; omega
    clear hn hm
    go_enter Tryz.func8, Tryz.ntmps8
    go_wp2
    go_ret
    exact ⟨ret_bool (decide_eq_false hxy).symm, Dn.refl _⟩
end Go.Proofs.YtcagkoakbdbbaaaGreatDoor
