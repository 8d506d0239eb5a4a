/- Whether a text may be a boundary: the document's Boundary. -/
import Derived.Test.YtkllecicddfjpaaGreatDoorJ33
namespace Go.Proofs.YtkllecicddfjpaaGreatDoor
set_option linter.unusedVariables false
set_option linter.unusedSimpArgs false
open Go.RowKit

/-- is it one of the first k signs, told round and round? -/
def inC (c : UInt8) (k : Nat) : Bool := (List.range k).any fun j => c == sgn.getD (j % 12) 0
theorem inC_succ (c : UInt8) (k : Nat) : inC c (k + 1) = (inC c k || c == sgn.getD (k % 12) 0) := by
  unfold inC
  rw [List.range_succ, List.any_append]
  simp
theorem inC_all (c : UInt8) : inC c 13 = sgn.contains c := by
  have h : ∀ n : Fin 256, inC (UInt8.ofNat n.1) 13 = sgn.contains (UInt8.ofNat n.1) := by decide +kernel
  have h2 := h ⟨c.toNat, c.toNat_lt⟩
  simpa using h2
/-- a letter or a digit -/
def alnum (c : UInt8) : Bool := (97 ≤ c && c ≤ 122) || (65 ≤ c && c ≤ 90) || (48 ≤ c && c ≤ 57)
theorem bdC_eq (c : UInt8) : bdC c = (alnum c || inC c 13) := by
  rw [inC_all]
  rfl
theorem bdC_eq' {c : UInt8} (h : (alnum c || inC c 13) = true) : [c].all bdC = true := by simp [bdC_eq, h]
theorem alnum_cases (c : UInt8) : (alnum c = true ∧ ((48 ≤ c.toNat ∧ c.toNat ≤ 57) ∨ (65 ≤ c.toNat ∧ c.toNat ≤ 90) ∨ (97 ≤ c.toNat ∧ c.toNat ≤ 122))) ∨
    (alnum c = false ∧ (c.toNat < 48 ∨ (57 < c.toNat ∧ c.toNat < 65) ∨ (90 < c.toNat ∧ c.toNat < 97) ∨ 122 < c.toNat)) := by
  have e : alnum c = (decide (97 ≤ c.toNat ∧ c.toNat ≤ 122) || decide (65 ≤ c.toNat ∧ c.toNat ≤ 90) || decide (48 ≤ c.toNat ∧ c.toNat ≤ 57)) := by
    unfold alnum
    simp only [UInt8.le_iff_toNat_le]
    simp [Bool.decide_and]
  rw [e]
  by_cases h : (48 ≤ c.toNat ∧ c.toNat ≤ 57) ∨ (65 ≤ c.toNat ∧ c.toNat ≤ 90) ∨ (97 ≤ c.toNat ∧ c.toNat ≤ 122)
  · left
    refine ⟨?_, h⟩
    simp
    omega
  · right
    refine ⟨?_, by omega⟩
    simp
    omega

set_option maxRecDepth 100000 in
set_option maxHeartbeats 4000000 in
theorem rboundary_any (l : List UInt8) (w : World) (hb : l.length ≤ 9223372036854775807) :
    Calls Tryz.prog 75 #[.string (bs l)] w fun e w' => e = .returned (.bool (bdOk l)) ∧ w = w' := by
  obtain ⟨n, hn⟩ : ∃ n, l.length = n := ⟨_, rfl⟩
  have HN := Lib.hid hn
  go_enter Tryz.func75, Tryz.ntmps75
  go_wp2_with fail
  go_loop [3] (fun i => ∃ q : Nat, i = .int .i64 q ∧ q ≤ n ∧ Hid ((l.take q).all bdC = true)) (fun i => n - (intOf i).toNat)
  case atStart => exact ⟨0, rfl, by omega, Lib.hid (by simp)⟩
  case round =>
    obtain ⟨q, rfl, hq, HA⟩ := hrel
    by_cases hlt : q < n
    · obtain ⟨x, hx⟩ : ∃ x, l[q]? = some x := ⟨_, List.getElem?_eq_getElem (by rw [hn]; exact hlt)⟩
      have hi := str_index (P := Tryz.prog) Tryz.underlying9 hx .i64
      have HX := Lib.hid hx
      have hx0 := u8_ge x
      have hx255 := u8_lt x
      clear hx
      go_upto_region 5 with fail
      go_cut [5] from 16 to 37 (fun s5 wx => s5 = .bool (alnum x) ∧ wx = w)
      case first =>
        rcases alnum_cases x with ⟨ha, h | h | h⟩ | ⟨ha, h | h | h | h⟩
        all_goals
          have HAl := Lib.hid ha
          clear ha
          go_wp2_with fail
          go_meet
          exact ⟨by (rw [HAl.out]) <;> first | rfl | (simp; done) | (simp; omega), rfl⟩
      case rest =>
        obtain ⟨rfl, rfl⟩ := hcut
        go_wp2_with fail
        go_loop [5, 6] (fun o i => ∃ (k : Nat) (ok : Bool), i = .int .i64 k ∧ k ≤ 13 ∧ o = .bool ok ∧ Hid (ok = (alnum x || inC x k))) (fun _ i => 13 - (intOf i).toNat)
        case atStart => exact ⟨0, _, rfl, by omega, rfl, Lib.hid (by simp [inC])⟩
        case round =>
          obtain ⟨k, ok, rfl, hk, rfl, HO⟩ := hrel
          by_cases hk13 : k < 13
          · obtain ⟨y, hy⟩ : ∃ y, sgn[k % 12]? = some y := ⟨_, List.getElem?_eq_getElem (by show k % 12 < 12; omega)⟩
            have hgd : sgn.getD (k % 12) 0 = y := by rw [List.getD_eq_getElem?_getD, hy]; rfl
            have hsi := str_index (P := Tryz.prog) Tryz.underlying9 hy .i64
            have hcast : ((k % 12 : Nat) : Int) = (k : Int) % 12 := by omega
            rw [hcast] at hsi
            have hsi2 : ∀ W, (Instr.index 9 (.string ⟨#[39, 40, 41, 43, 95, 44, 45, 46, 47, 58, 61, 63]⟩) (.int .i64 ((k : Int) % 12))).run Tryz.prog W = .ok (.int .u8 (y.toNat : Int)) W := hsi
            have HS := Lib.hid (show (alnum x || inC x (k + 1)) = (ok || x == y) by rw [inC_succ, hgd, HO.out, Bool.or_assoc])
            have hxy : ((x.toNat : Int) == (y.toNat : Int)) = (x == y) := u8_beq x y
            obtain ⟨t, ht⟩ : ∃ t, (x == y) = t := ⟨_, rfl⟩
            have HT := Lib.hid ht
            rw [ht] at hxy
            clear hsi hcast hy hgd ht
            cases ok with
            | true =>
              go_wp2_with fail
              go_round
              case rel => exact ⟨k + 1, true, by go_num, by omega, rfl, Lib.hid (by rw [HS.out]; rfl)⟩
              case measure => simp [intOf]; omega
            | false =>
              go_wp2_with fail
              go_round
              case rel => exact ⟨k + 1, t, by go_num, by omega, rfl, Lib.hid (by rw [HS.out, HT.out]; rfl)⟩
              case measure => simp [intOf]; omega
          · obtain rfl : k = 13 := by omega
            cases ok with
            | true =>
              have HB := Lib.hid (show (l.take (q + 1)).all bdC = true by
                rw [take_succ_of HX.out, List.all_append, HA.out, bdC_eq' HO.out.symm]
                rfl)
              go_wp2_with fail
              go_round
              case rel => exact ⟨q + 1, by go_num, by omega, HB⟩
              case measure => simp [intOf]; omega
            | false =>
              have HB := Lib.hid (show bdOk l = false by
                unfold bdOk
                have h1 : l.all bdC = false := by
                  rw [List.all_eq_false]
                  exact ⟨x, List.mem_of_getElem? HX.out, by rw [bdC_eq, ← HO.out]; simp⟩
                rw [h1, Bool.and_false])
              go_wp2_with fail
              go_ret
              exact ⟨ret_bool HB.out.symm, rfl⟩
    · obtain rfl : q = n := by omega
      have hall : l.all bdC = true := by
        have h := HA.out
        rwa [List.take_of_length_le (by rw [hn]; exact Nat.le_refl _)] at h
      have HB := Lib.hid (show bdOk l = (decide (1 ≤ q) && decide (q ≤ 70)) by unfold bdOk; rw [hall, hn, Bool.and_true])
      rcases (by omega : q = 0 ∨ (1 ≤ q ∧ q ≤ 70) ∨ 70 < q) with h | h | h
      · subst h
        go_wp2_with fail
        go_ret
        exact ⟨ret_bool (by rw [HB.out]; rfl), rfl⟩
      · obtain ⟨h1, h2⟩ := h
        go_wp2_with fail
        go_ret
        exact ⟨ret_bool (by rw [HB.out, decide_eq_true h1, decide_eq_true h2]; first | rfl | (simp; done) | (simp; omega)), rfl⟩
      · go_wp2_with fail
        go_ret
        exact ⟨ret_bool (by rw [HB.out, decide_eq_false (p := q ≤ 70) (by omega), Bool.and_false]; first | rfl | (simp; done) | (simp; omega)), rfl⟩
end Go.Proofs.YtkllecicddfjpaaGreatDoor
