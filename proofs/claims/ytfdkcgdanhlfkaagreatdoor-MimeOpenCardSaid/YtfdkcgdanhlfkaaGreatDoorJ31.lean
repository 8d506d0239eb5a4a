/- Where a quotation, a comment ends: the program's walks. -/
import Derived.Test.YtfdkcgdanhlfkaaGreatDoorJ30
namespace Go.Proofs.YtfdkcgdanhlfkaaGreatDoor
namespace Tk
set_option linter.unusedVariables false
set_option linter.unusedSimpArgs false
open Go.RowKit

theorem cmtGo_suf : ∀ (n : Nat) (l : List UInt8) (d : Nat) (t : List UInt8), l.length ≤ n → cmtGo d l = .ok t → ∃ u, l = u ++ t
  | 0, [], _, _, _, h => by simp [cmtGo] at h
  | n + 1, [], _, _, _, h => by simp [cmtGo] at h
  | n + 1, c :: l, d, t, hl, h => by
    simp only [List.length_cons] at hl
    rw [cmtGo.eq_def] at h
    simp only at h
    split at h
    · split at h
      · cases h
      · rename_i x r'
        obtain ⟨u, e⟩ := cmtGo_suf n r' d t (by simp at hl; omega) h
        exact ⟨c :: x :: u, by rw [e]; rfl⟩
    · split at h
      · split at h
        · cases h
        · obtain ⟨u, e⟩ := cmtGo_suf n l (d + 1) t (by omega) h
          exact ⟨c :: u, by rw [e]; rfl⟩
      · split at h
        · split at h
          · cases h
            exact ⟨[c], rfl⟩
          · obtain ⟨u, e⟩ := cmtGo_suf n l (d - 1) t (by omega) h
            exact ⟨c :: u, by rw [e]; rfl⟩
        · obtain ⟨u, e⟩ := cmtGo_suf n l d t (by omega) h
          exact ⟨c :: u, by rw [e]; rfl⟩
theorem drop_at {l : List UInt8} {q : Nat} {c : UInt8} (h : l[q]? = some c) : l.drop q = c :: l.drop (q + 1) := by
  have hq := lt_of_get h
  rw [List.drop_eq_getElem_cons hq]
  rw [List.getElem?_eq_getElem hq] at h
  rw [Option.some.inj h]
/-- from place q: where the quotation ends -/
def quoAt (l : List UInt8) (q : Nat) : Option Nat := (qGo (l.drop q)).map fun p => q + p.1.length
theorem quoAt_esc {l : List UInt8} {q : Nat} {c : UInt8} (h : l[q]? = some c) (hc : c = 92) : quoAt l q = quoAt l (q + 2) := by
  unfold quoAt
  rw [drop_at h, qGo.eq_def]
  simp only
  rw [if_pos hc]
  have e : l.drop (q + 2) = (l.drop (q + 1)).drop 1 := by rw [List.drop_drop]
  rw [e]
  cases l.drop (q + 1) with
  | nil => rfl
  | cons x r =>
    simp only [List.drop_one, List.tail_cons]
    cases qGo r with
    | none => rfl
    | some p => simp; omega
theorem quoAt_end {l : List UInt8} {q : Nat} {c : UInt8} (h : l[q]? = some c) (hc : c = 34) : quoAt l q = some (q + 1) := by
  unfold quoAt
  rw [drop_at h, qGo.eq_def, hc]
  simp
theorem quoAt_more {l : List UInt8} {q : Nat} {c : UInt8} (h : l[q]? = some c) (h9 : c ≠ 92) (h3 : c ≠ 34) : quoAt l q = quoAt l (q + 1) := by
  unfold quoAt
  rw [drop_at h, qGo.eq_def]
  simp only
  rw [if_neg h9, if_neg h3]
  cases qGo (l.drop (q + 1)) with
  | none => rfl
  | some p => simp; omega
theorem quoAt_out {l : List UInt8} {q : Nat} (h : l.length ≤ q) : quoAt l q = none := by
  unfold quoAt
  rw [List.drop_of_length_le h]
  rfl
/-- what quoted hands back -/
def QuoOut (r : Option Nat) (e : Ending) : Prop := match r with
  | some n => e = .returned (.tuple #[.int .i64 n, .bool true])
  | none => e = .returned (.tuple #[.int .i64 0, .bool false])
theorem quoOut_some {r : Option Nat} {n : Nat} {e : Ending} (h : r = some n) (he : e = .returned (.tuple #[.int .i64 n, .bool true])) : QuoOut r e := by rw [h]; exact he
theorem quoOut_none {r : Option Nat} {e : Ending} (h : r = none) (he : e = .returned (.tuple #[.int .i64 0, .bool false])) : QuoOut r e := by rw [h]; exact he

set_option maxHeartbeats 400000 in
theorem quoted_any (l : List UInt8) (w : World) (hl : l.length ≤ 140737488351232) :
    Calls Tryz.prog 63 #[.string (bs l)] w fun e w' => QuoOut (quoAt l 1) e ∧ w' = w := by
  go_enter Tryz.func63, Tryz.ntmps63
  go_wp2_with fail
  go_loop [4] (fun i => ∃ q : Nat, i = .int .i64 q ∧ 1 ≤ q ∧ q ≤ l.length + 1 ∧ Hid (quoAt l 1 = quoAt l q)) (fun i => l.length + 1 - (intOf i).toNat)
  case atStart => exact ⟨1, rfl, by omega, by omega, Lib.hid rfl⟩
  case round =>
    obtain ⟨q, rfl, hq1, hq, he⟩ := hrel
    by_cases hlt : q < l.length
    · obtain ⟨c, hc⟩ : ∃ c, l[q]? = some c := ⟨_, List.getElem?_eq_getElem hlt⟩
      have hi := str_index (P := Tryz.prog) Tryz.underlying9 hc .i64
      have h92 := u8_beq c 92
      have h34 := u8_beq c 34
      by_cases h1 : c = 92
      · have hst := Lib.hid (he.out.trans (quoAt_esc hc h1))
        have hb : ((c.toNat : Int) == 92) = true := by rw [show ((c.toNat : Int) == 92) = (c == 92) from h92, h1]; rfl
        clear hc h92 h34 h1 he
        go_wp2_with fail
        go_round
        case rel => exact ⟨q + 2, by go_num, by omega, by omega, hst⟩
        case measure => simp [intOf]; omega
      · have hb : ((c.toNat : Int) == 92) = false := by rw [show ((c.toNat : Int) == 92) = (c == 92) from h92]; simp [h1]
        by_cases h2 : c = 34
        · have hst := Lib.hid (he.out.trans (quoAt_end hc h2))
          have hb2 : ((c.toNat : Int) == 34) = true := by rw [show ((c.toNat : Int) == 34) = (c == 34) from h34, h2]; rfl
          clear hc h92 h34 h1 h2 he
          go_wp2_with fail
          go_ret2
          exact ⟨quoOut_some hst.out (by go_num), rfl⟩
        · have hst := Lib.hid (he.out.trans (quoAt_more hc h1 h2))
          have hb2 : ((c.toNat : Int) == 34) = false := by rw [show ((c.toNat : Int) == 34) = (c == 34) from h34]; simp [h2]
          clear hc h92 h34 h1 h2 he
          go_wp2_with fail
          go_round
          case rel => exact ⟨q + 1, by go_num, by omega, by omega, hst⟩
          case measure => simp [intOf]; omega
    · have hst := Lib.hid (he.out.trans (quoAt_out (by omega)))
      clear he
      go_wp2_with fail
      go_ret2
      exact ⟨quoOut_none hst.out rfl, rfl⟩

/-- from place q, so deep: where the comment ends -/
def comAt (l : List UInt8) (d q : Nat) : Except Nat Nat := match cmtGo d (l.drop q) with | .ok t => .ok (l.length - t.length) | .error e => .error e
theorem comAt_esc {l : List UInt8} {d q : Nat} {c : UInt8} (h : l[q]? = some c) (hc : c = 92) : comAt l d q = comAt l d (q + 2) := by
  unfold comAt
  rw [drop_at h, cmtGo.eq_def]
  simp only
  rw [if_pos hc]
  have e : l.drop (q + 2) = (l.drop (q + 1)).drop 1 := by rw [List.drop_drop]
  rw [e]
  cases l.drop (q + 1) with
  | nil => simp [cmtGo]
  | cons x r => rfl
theorem comAt_open {l : List UInt8} {d q : Nat} {c : UInt8} (h : l[q]? = some c) (hc : c = 40) : comAt l d q = if 9 < d + 1 then .error 5 else comAt l (d + 1) (q + 1) := by
  unfold comAt
  rw [drop_at h, cmtGo.eq_def]
  simp only
  rw [if_neg (by rw [hc]; decide), if_pos hc]
  by_cases h9 : 9 < d + 1
  · rw [if_pos h9, if_pos h9]
  · rw [if_neg h9, if_neg h9]
theorem comAt_close {l : List UInt8} {d q : Nat} {c : UInt8} (h : l[q]? = some c) (hc : c = 41) : comAt l d q = if d = 1 then .ok (q + 1) else comAt l (d - 1) (q + 1) := by
  have hq := lt_of_get h
  unfold comAt
  rw [drop_at h, cmtGo.eq_def]
  simp only
  rw [if_neg (by rw [hc]; decide), if_neg (by rw [hc]; decide), if_pos hc]
  by_cases h9 : d = 1
  · rw [if_pos h9, if_pos h9]
    simp
    omega
  · rw [if_neg h9, if_neg h9]
theorem comAt_more {l : List UInt8} {d q : Nat} {c : UInt8} (h : l[q]? = some c) (h1 : c ≠ 92) (h2 : c ≠ 40) (h3 : c ≠ 41) : comAt l d q = comAt l d (q + 1) := by
  unfold comAt
  rw [drop_at h, cmtGo.eq_def]
  simp only
  rw [if_neg h1, if_neg h2, if_neg h3]
theorem comAt_out {l : List UInt8} {d q : Nat} (h : l.length ≤ q) : comAt l d q = .error 3 := by
  unfold comAt
  rw [List.drop_of_length_le h]
  simp [cmtGo]
/-- what comment hands back -/
def ComOut (r : Except Nat Nat) (e : Ending) : Prop := match r with
  | .ok n => e = .returned (.tuple #[.int .i64 n, .int .i64 0])
  | .error k => e = .returned (.tuple #[.int .i64 0, .int .i64 k])
theorem comOut_ok {r : Except Nat Nat} {n : Nat} {e : Ending} (h : r = .ok n) (he : e = .returned (.tuple #[.int .i64 n, .int .i64 0])) : ComOut r e := by rw [h]; exact he
theorem comOut_err {r : Except Nat Nat} {k : Nat} {e : Ending} (h : r = .error k) (he : e = .returned (.tuple #[.int .i64 0, .int .i64 k])) : ComOut r e := by rw [h]; exact he
theorem u8_test (c x : UInt8) {n : Int} (hn : n = (x.toNat : Int)) : ((c.toNat : Int) == n) = (c == x) := by rw [hn, u8_beq]

set_option maxHeartbeats 800000 in
theorem comment_any (l : List UInt8) (w : World) (hl : l.length ≤ 140737488351232) (h0 : l[0]? = some 40) :
    Calls Tryz.prog 88 #[.string (bs l)] w fun e w' => ComOut (comAt l 0 0) e ∧ w' = w := by
  have hp := lt_of_get h0
  have H0 := Lib.hid h0
  clear h0
  go_enter Tryz.func88, Tryz.ntmps88
  go_wp2_with fail
  go_loop [4, 5] (fun dp i => ∃ d q : Nat, dp = .int .i64 d ∧ i = .int .i64 q ∧ q ≤ l.length + 1 ∧ d ≤ 9 ∧ (1 ≤ d ∨ q = 0) ∧ Hid (comAt l 0 0 = comAt l d q)) (fun _ i => l.length + 1 - (intOf i).toNat)
  case atStart => exact ⟨0, 0, rfl, rfl, by omega, by omega, .inr rfl, Lib.hid rfl⟩
  case round =>
    obtain ⟨d, q, rfl, rfl, hq, hd, hdq, he⟩ := hrel
    by_cases hlt : q < l.length
    · obtain ⟨c, hc⟩ : ∃ c, l[q]? = some c := ⟨_, List.getElem?_eq_getElem hlt⟩
      have hi := str_index (P := Tryz.prog) Tryz.underlying9 hc .i64
      have t92 : ((c.toNat : Int) == 92) = (c == 92) := u8_test c 92 rfl
      have t40 : ((c.toNat : Int) == 40) = (c == 40) := u8_test c 40 rfl
      have t41 : ((c.toNat : Int) == 41) = (c == 41) := u8_test c 41 rfl
      have hc0 : q = 0 → c = 40 := fun e => by subst e; rw [H0.out] at hc; exact (Option.some.inj hc).symm
      by_cases h1 : c = 92
      · have hst := Lib.hid (he.out.trans (comAt_esc hc h1))
        have hd1 : 1 ≤ d := by
          rcases hdq with h | h
          · exact h
          · have := hc0 h; rw [h1] at this; exact absurd this (by decide)
        have hb : ((c.toNat : Int) == 92) = true := by rw [t92, h1]; rfl
        clear hc t92 t40 t41 h1 he hc0 hdq
        go_wp2_with fail
        go_round
        case rel => exact ⟨d, q + 2, rfl, by go_num, by omega, hd, .inl hd1, hst⟩
        case measure => simp [intOf]; omega
      · have hb : ((c.toNat : Int) == 92) = false := by rw [t92]; simp [h1]
        by_cases h2 : c = 40
        · have hst := he.out.trans (comAt_open hc h2)
          have hb2 : ((c.toNat : Int) == 40) = true := by rw [t40, h2]; rfl
          by_cases h9 : 9 < d + 1
          · rw [if_pos h9] at hst
            have HST := Lib.hid hst
            have hgt : (9 : Int) < (d : Int) + 1 := by omega
            clear hst hc t92 t40 t41 h1 h2 he hc0 hdq
            go_wp2_with fail
            go_ret2
            exact ⟨comOut_err HST.out rfl, rfl⟩
          · rw [if_neg h9] at hst
            have HST := Lib.hid hst
            have hgt : ¬ (9 : Int) < (d : Int) + 1 := by omega
            clear hst hc t92 t40 t41 h1 h2 he hc0 hdq
            go_wp2_with fail
            go_round
            case rel => exact ⟨d + 1, q + 1, by go_num, by go_num, by omega, by omega, .inl (by omega), HST⟩
            case measure => simp [intOf]; omega
        · have hb2 : ((c.toNat : Int) == 40) = false := by rw [t40]; simp [h2]
          have hd1 : 1 ≤ d := by
            rcases hdq with h | h
            · exact h
            · exact absurd (hc0 h) h2
          by_cases h3 : c = 41
          · have hst := he.out.trans (comAt_close hc h3)
            have hb3 : ((c.toNat : Int) == 41) = true := by rw [t41, h3]; rfl
            by_cases h9 : d = 1
            · rw [if_pos h9] at hst
              have HST := Lib.hid hst
              subst h9
              clear hst hc t92 t40 t41 h1 h2 h3 he hc0 hdq
              go_wp2_with fail
              go_ret2
              exact ⟨comOut_ok HST.out (by go_num), rfl⟩
            · rw [if_neg h9] at hst
              have HST := Lib.hid hst
              have hne : ((d : Int) - 1 == 0) = false := by rw [beq_eq_false_iff_ne]; omega
              clear hst hc t92 t40 t41 h1 h2 h3 he hc0 hdq
              go_wp2_with fail
              go_round
              case rel => exact ⟨d - 1, q + 1, by go_num, by go_num, by omega, by omega, .inl (by omega), HST⟩
              case measure => simp [intOf]; omega
          · have hb3 : ((c.toNat : Int) == 41) = false := by rw [t41]; simp [h3]
            have hst := Lib.hid (he.out.trans (comAt_more hc h1 h2 h3))
            clear hc t92 t40 t41 h1 h2 h3 he hc0 hdq
            go_wp2_with fail
            go_round
            case rel => exact ⟨d, q + 1, rfl, by go_num, by omega, hd, .inl hd1, hst⟩
            case measure => simp [intOf]; omega
    · have hst := Lib.hid (he.out.trans (comAt_out (by omega)))
      clear he
      go_wp2_with fail
      go_ret2
      exact ⟨comOut_err hst.out rfl, rfl⟩
end Tk
end Go.Proofs.YtfdkcgdanhlfkaaGreatDoor
