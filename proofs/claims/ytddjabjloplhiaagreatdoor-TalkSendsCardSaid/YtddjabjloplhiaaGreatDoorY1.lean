/- Big letters: the program's upper; what is behind words: after. -/
import Derived.Test.YtddjabjloplhiaaGreatDoorU6
namespace Go.Proofs.YtddjabjloplhiaaGreatDoor
set_option linter.unusedVariables false
set_option linter.unusedSimpArgs false
open Go.RowKit

/-- a letter as a big one -/
def big (c : UInt8) : UInt8 := if 97 ≤ c.toNat ∧ c.toNat ≤ 122 then c - 32 else c
theorem big_nat (c : UInt8) : (big c).toNat = if 97 ≤ c.toNat ∧ c.toNat ≤ 122 then c.toNat - 32 else c.toNat := by
  unfold big
  split
  · rw [UInt8.toNat_sub_of_le _ _ (by rw [UInt8.le_iff_toNat_le]; show 32 ≤ _; omega)]
    rfl
  · rfl
/-- so far in big letters -/
def upAt (l : List UInt8) (q : Nat) : List UInt8 := (l.take q).map big ++ l.drop q
theorem upAt_len (l : List UInt8) (q : Nat) : (upAt l q).length = l.length := by
  unfold upAt
  simp
  omega
theorem upAt_at {l : List UInt8} {q : Nat} {c : UInt8} (h : l[q]? = some c) : (upAt l q)[q]? = some c := by
  have hq := lt_of_get h
  unfold upAt
  rw [List.getElem?_append_right (by simp; omega), List.length_map, List.length_take, Nat.min_eq_left (by omega), Nat.sub_self, List.getElem?_drop, Nat.add_zero]
  exact h
theorem upAt_set {l : List UInt8} {q : Nat} {c : UInt8} (h : l[q]? = some c) : (upAt l q).set q (big c) = upAt l (q + 1) := by
  have hq := lt_of_get h
  unfold upAt
  rw [drop_at h, take_succ_of h, List.map_append]
  have hl : ((l.take q).map big).length = q := by simp; omega
  have := set_at ((l.take q).map big) (l.drop (q + 1)) c (big c)
  rw [hl] at this
  exact this
theorem upAt_same {l : List UInt8} {q : Nat} {c : UInt8} (h : l[q]? = some c) (hc : big c = c) : upAt l q = upAt l (q + 1) := by
  rw [← upAt_set h, hc]
  obtain ⟨hlt, e⟩ := List.getElem?_eq_some_iff.1 (upAt_at h)
  have : (upAt l q).set q c = upAt l q := by
    conv => lhs; rw [← e]
    exact List.set_getElem_self hlt
  exact this.symm
theorem upAt_end (l : List UInt8) : upAt l l.length = l.map big := by simp [upAt]
set_option maxHeartbeats 800000 in
theorem upper_any (l : List UInt8) (w : World) (hl : l.length ≤ 140737488351232) :
    Calls Tryz.prog 61 #[.string (bs l)] w fun e w' => e = .returned (.string (bs (l.map big))) ∧ Below w.heap.size w w' := by
  obtain ⟨c, W, hcv, hown, hB, _⟩ := conv_bs (P := Tryz.prog) (src := 9) (dst := 22) Tryz.underlying9 Tryz.underlying22 Tryz.underlying5 w l (by unfold maxLen; omega)
  obtain ⟨B, hBB⟩ : ∃ B, w.heap.size = B := ⟨_, rfl⟩
  rw [hBB] at hcv hown hB ⊢
  obtain ⟨r, hrow⟩ := RowM.of hown
  obtain ⟨K, hK⟩ : ∃ K, l.length = K := ⟨_, rfl⟩
  have HK := Lib.hid hK
  have HBB := Lib.hid hBB
  rw [hK] at hcv hl
  clear hown hBB hK
  go_enter Tryz.func61, Tryz.ntmps61
  go_wp2_with fail
  go_loopw [10] (fun i wr => ∃ q : Nat, i = .int .i64 q ∧ q ≤ K ∧ Hid (RowM wr B 5 ((upAt l q).map bv ++ r)) ∧ Below B w wr) (fun i _ => K - (intOf i).toNat)
  case atStart => exact ⟨0, rfl, by omega, Lib.hid hrow, hB⟩
  case round =>
    clear hrow hB hcv
    obtain ⟨q, rfl, hq, hrow, hB⟩ := hrel
    by_cases hlt : q < K
    · have hlt2 : q < l.length := by rw [HK.out]; exact hlt
      obtain ⟨x, hx⟩ : ∃ x, l[q]? = some x := ⟨_, List.getElem?_eq_getElem hlt2⟩
      have hlen : q < (upAt l q).length := by rw [upAt_len]; exact hlt2
      have hcell : wr.cell? ⟨B, q, none⟩ = some (.int .u8 (x.toNat : Int)) := hrow.out.cell (by rw [List.getElem?_append_left (by simpa using hlen), List.getElem?_map, upAt_at hx]; rfl)
      have hfr : wr.frozen? ⟨B, q, none⟩ = false := hrow.out.frozen (by rw [List.length_append, List.length_map]; omega)
      by_cases h : 97 ≤ x.toNat ∧ x.toNat ≤ 122
      · obtain ⟨h1, h2⟩ := h
        have k1 : (97 : Int) ≤ (x.toNat : Int) := by omega
        have k2 : (x.toNat : Int) ≤ 122 := by omega
        have hsm : (big x).toNat = x.toNat - 32 := by rw [big_nat, if_pos ⟨h1, h2⟩]
        have hset := hrow.out.set q (bv (big x))
        rw [row_set_map (upAt_set hx) hlen] at hset
        have hbv : bv (big x) = .int .u8 ((x.toNat : Int) - 97 + 65) := by unfold bv; rw [hsm]; congr 1; omega
        rw [hbv] at hset
        have HSET := Lib.hid hset
        clear hset hbv hsm hx hlen hlt2 h1 h2 hrow
        go_wp2_with fail
        go_roundw
        case rel => exact ⟨q + 1, by go_num, by omega, HSET, hB.setCell (Nat.le_refl _) _⟩
        case measure => simp [intOf]; omega
      · have hsm : big x = x := by unfold big; rw [if_neg h]
        have hst := hrow.out
        rw [upAt_same hx hsm] at hst
        have HST := Lib.hid hst
        have k : ¬ (97 : Int) ≤ (x.toNat : Int) ∨ ((97 : Int) ≤ (x.toNat : Int) ∧ ¬ (x.toNat : Int) ≤ 122) := by omega
        clear hst hsm h hx hlen hlt2 hrow
        rcases k with k1 | ⟨k1, k2⟩
        all_goals
          go_wp2_with fail
          go_roundw
          case rel => exact ⟨q + 1, by go_num, by omega, HST, hB⟩
          case measure => simp [intOf]; omega
    · have hqK : q = l.length := by rw [HK.out]; omega
      have hrow2 := hrow.out
      rw [hqK, upAt_end] at hrow2
      have hRb : Rb wr (some ⟨B, 0, none⟩) (l.map big) := fun _ => ⟨B, 0, rfl, fun j v hj => by
        rw [Nat.zero_add]
        exact hrow2.cell (by rw [List.getElem?_append_left (by have := lt_of_get hj; simpa using this)]; exact hj)⟩
      have hcs := fun c => conv_str (P := Tryz.prog) (src := 22) (dst := 9) (c := c) (n := K) Tryz.underlying22 Tryz.underlying5 Tryz.underlying9 hRb (by rw [List.length_map]; exact HK.out)
      clear hRb hrow hrow2 hqK
      go_wp2_with fail
      go_ret
      exact ⟨rfl, hB⟩

/-- what is behind words that may have big and small letters -/
def aft (l ws : List UInt8) : Option (List UInt8) := if ws.length ≤ l.length ∧ (l.take ws.length).map big = ws then some (l.drop ws.length) else none
def AftOut (l ws : List UInt8) (e : Ending) : Prop := match aft l ws with
  | some r => e = .returned (.tuple #[.string (bs r), .bool true])
  | none => e = .returned (.tuple #[.string (bs []), .bool false])
set_option maxHeartbeats 800000 in
theorem after_any (l ws : List UInt8) (w : World) (hl : l.length ≤ 140737488351232) (hws : ws.length ≤ 140737488351232) :
    Calls Tryz.prog 38 #[.string (bs l), .string (bs ws)] w fun e w' => AftOut l ws e ∧ Below w.heap.size w w' := by
  by_cases h1 : l.length < ws.length
  · have ha : aft l ws = none := by unfold aft; rw [if_neg (by omega)]
    have HA : Hid (aft l ws = none) := Lib.hid ha
    clear ha
    go_enter Tryz.func38, Tryz.ntmps38
    go_wp2_with fail
    go_ret2
    exact ⟨by unfold AftOut; rw [HA.out]; rfl, Below.refl _ _⟩
  · have hup := fun W => upper_any (l.take ws.length) W (by rw [List.length_take]; omega)
    by_cases h2 : (l.take ws.length).map big = ws
    · have HA : Hid (aft l ws = some (l.drop ws.length)) := Lib.hid (by unfold aft; rw [if_pos ⟨by omega, h2⟩])
      rw [h2] at hup
      have HD : Hid (List.take (l.length - ws.length) (List.drop ws.length l) = l.drop ws.length) := Lib.hid (List.take_of_length_le (by simp))
      clear h2
      go_enter Tryz.func38, Tryz.ntmps38
      go_wp2_with fail
      refine (hup _).mono ?_
      rintro e w1 ⟨rfl, hb1⟩
      go_wp2_with fail
      rw [HD.out]
      go_ret2
      exact ⟨by unfold AftOut; rw [HA.out]; rfl, hb1⟩
    · have HA : Hid (aft l ws = none) := Lib.hid (by unfold aft; rw [if_neg (fun h => h2 h.2)])
      obtain ⟨u, hu⟩ : ∃ u, (l.take ws.length).map big = u := ⟨_, rfl⟩
      rw [hu] at hup h2
      have hne : (u == ws) = false := by simpa using h2
      clear hu h2
      go_enter Tryz.func38, Tryz.ntmps38
      go_wp2_with fail
      refine (hup _).mono ?_
      rintro e w1 ⟨rfl, hb1⟩
      go_wp2_with fail
      go_ret2
      exact ⟨by unfold AftOut; rw [HA.out]; rfl, hb1⟩
end Go.Proofs.YtddjabjloplhiaaGreatDoor
