/- Signs of an atom: the document's in, Plain, Atom. -/
import Derived.Test.YtddjabjloplhiaaGreatDoorP21
import Derived.Test.YtddjabjloplhiaaGreatDoorChecked
namespace Go.Proofs.YtddjabjloplhiaaGreatDoor
set_option linter.unusedVariables false
set_option linter.unusedSimpArgs false
open Go.RowKit

set_option maxHeartbeats 400000 in
theorem rin_any (c : UInt8) (l : List UInt8) (w : World) (hl : l.length ≤ 1000000000) :
    Calls Tryz.prog 103 #[.int .u8 (c.toNat : Int), .string (bs l)] w fun e w' => e = .returned (.bool (l.contains c)) ∧ w = w' := by
  go_enter Tryz.func103, Tryz.ntmps103
  go_wp2_with fail
  go_loop [5] (fun i => ∃ k : Nat, i = .int .i64 k ∧ k ≤ l.length ∧ Hid ((l.take k).contains c = false)) (fun i => l.length - (intOf i).toNat)
  case atStart => exact ⟨0, rfl, by omega, Lib.hid (by simp)⟩
  case round =>
    obtain ⟨k, rfl, hk, hno⟩ := hrel
    by_cases hlt : k < l.length
    · obtain ⟨x, hx⟩ : ∃ x, l[k]? = some x := ⟨_, List.getElem?_eq_getElem hlt⟩
      have hi := str_index (P := Tryz.prog) Tryz.underlying9 hx .i64
      have hbb := u8_beq x c
      by_cases h : x = c
      · have hin : l.contains c = true := by
          rw [List.contains_iff_mem]
          rw [← h]
          exact List.mem_of_getElem? hx
        have HIN := Lib.hid hin
        have hb2 : ((x.toNat : Int) == (c.toNat : Int)) = true := by rw [hbb, h]; simp
        clear hbb hin hx h
        go_wp2_with fail
        go_ret
        exact ⟨ret_bool (by rw [← List.contains_eq_mem]; exact HIN.out.symm), rfl⟩
      · have hst : (l.take (k + 1)).contains c = false := by
          have h2 := hno.out
          rw [take_succ_of hx]
          simp [List.contains_eq_mem] at h2 ⊢
          exact ⟨h2, fun e => h e.symm⟩
        have HST := Lib.hid hst
        have hb2 : ((x.toNat : Int) == (c.toNat : Int)) = false := by rw [hbb]; simp [h]
        clear hbb hst hx h
        go_wp2_with fail
        go_round
        case rel => exact ⟨k + 1, by go_num, by omega, HST⟩
        case measure => simp [intOf]; omega
    · have hall : l.contains c = false := by
        have h2 := hno.out
        rwa [take_all l (by omega)] at h2
      have HA := Lib.hid hall
      clear hall
      go_wp2_with fail
      go_ret
      exact ⟨ret_bool (by rw [← List.contains_eq_mem]; exact HA.out.symm), rfl⟩
end Go.Proofs.YtddjabjloplhiaaGreatDoor
