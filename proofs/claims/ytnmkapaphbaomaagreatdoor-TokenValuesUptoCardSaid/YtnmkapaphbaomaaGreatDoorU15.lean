/- The document's Kind and part. -/
import Derived.Test.YtnmkapaphbaomaaGreatDoorU14
import Derived.Laws.ResultCell
import Derived.Deep.RegionHeldLaw
namespace Go.Proofs.YtnmkapaphbaomaaGreatDoor
set_option linter.unusedVariables false
set_option linter.unusedSimpArgs false
open Go.RowKit

theorem cut_here {s : UInt8} {l : List UInt8} {q : Nat} (h : (l.take q).all (fun c => c != s) = true) (hc : l[q]? = some s) : cutAt s l = some (l.take q, l.drop (q + 1)) := by
  have hq := lt_of_get hc
  have e : l = l.take q ++ s :: l.drop (q + 1) := by
    have := List.drop_eq_getElem_cons hq
    rw [List.getElem?_eq_getElem hq] at hc
    rw [Option.some.inj hc] at this
    rw [← this, List.take_append_drop]
  have hn : s ∉ l.take q := fun hm => by
    have := List.all_eq_true.1 h s hm
    simp at this
  have := cutAt_app (b := l.drop (q + 1)) hn
  rw [← e] at this
  exact this
theorem cut_no {s : UInt8} {l : List UInt8} (h : l.all (fun c => c != s) = true) : cutAt s l = none := cutAt_not fun hm => by
  have := List.all_eq_true.1 h s hm
  simp at this
theorem u8_ne {c s : UInt8} (h : c ≠ s) : ((c.toNat : Int) != (s.toNat : Int)) = true := by rw [u8_bne]; simp [h]

set_option maxRecDepth 100000 in
set_option maxHeartbeats 1000000 in
theorem rkind_any (l : List UInt8) (w : World) (hl : l.length ≤ 1000000000) :
    Calls Tryz.prog 28 #[.string (bs l)] w fun e w' => e = .returned (.bool (kindB l)) ∧ w' = w := by
  go_enter Tryz.func28, Tryz.ntmps28
  go_wp2_with fail
  go_loopw [3] (fun i wr => ∃ q : Nat, i = .int .i64 q ∧ q ≤ l.length ∧ Hid ((l.take q).all (fun c => c != 47) = true) ∧ wr = w) (fun i _ => l.length - (intOf i).toNat)
  case atStart => exact ⟨0, rfl, by omega, Lib.hid (by simp), rfl⟩
  case round =>
    obtain ⟨q, rfl, hq, ha, rfl⟩ := hrel
    by_cases hlt : q < l.length
    · obtain ⟨c, hc⟩ : ∃ c, l[q]? = some c := ⟨_, List.getElem?_eq_getElem hlt⟩
      have hi := str_index (P := Tryz.prog) Tryz.underlying9 hc .i64
      by_cases h : c = 47
      · have hk : kindB l = (atomB (l.take q) && atomB (l.drop (q + 1))) := by
          unfold kindB
          rw [cut_here ha.out (by rw [hc, h])]
        have hne : ((c.toNat : Int) != 47) = false := by rw [h]; rfl
        have h0 : (q : Int) + 1 ≤ (l.length : Int) := by omega
        have ht : (l.take q).length = q := by simp; omega
        have hd : (l.drop (q + 1)).length = l.length - (q + 1) := by simp
        have hat := fun W => ratom_any (l.take q) W (by omega)
        have had := fun W => ratom_any (l.drop (q + 1)) W (by omega)
        have h4 : (l.drop (q + 1)).take (l.length - (q + 1)) = l.drop (q + 1) := List.take_of_length_le (by omega)
        have HK := Lib.hid hk
        clear hk h hc ha ht hd
        rcases Bool.eq_false_or_eq_true (atomB (l.take q)) with h1 | h1
        · rw [h1] at hat HK
          go_wp2_with fail
          refine (hat _).mono ?_
          rintro e w' ⟨rfl, rfl⟩
          go_wp2_with fail
          (try rw [h4])
          refine (had _).mono ?_
          rintro e w' ⟨rfl, rfl⟩
          go_wp2_with fail
          go_ret
          exact ⟨ret_bool HK.out.symm, by first | rfl | trivial⟩
        · rw [h1] at hat HK
          go_wp2_with fail
          refine (hat _).mono ?_
          rintro e w' ⟨rfl, rfl⟩
          go_wp2_with fail
          go_ret
          exact ⟨ret_bool HK.out.symm, by first | rfl | trivial⟩
      · have hne : ((c.toNat : Int) != 47) = true := u8_ne h
        have HST := Lib.hid (show (l.take (q + 1)).all (fun c => c != 47) = true by rw [all_take _ _ hc, ha.out]; simp [h])
        clear h hc ha
        go_wp2_with fail
        go_roundw
        case rel => exact ⟨q + 1, by go_num, by omega, HST, by first | rfl | trivial⟩
        case measure => simp [intOf]; omega
    · obtain rfl : q = l.length := by omega
      have hno := ha.out
      rw [List.take_length] at hno
      have hk : kindB l = false := by unfold kindB; rw [cut_no hno]
      have HK := Lib.hid hk
      clear hk hno ha
      go_wp2_with fail
      go_ret
      exact ⟨ret_bool HK.out.symm, by first | rfl | trivial⟩
end Go.Proofs.YtnmkapaphbaomaaGreatDoor
