/- A command as the document puts it: the same as the program's, in plain words. -/
import Derived.Test.YtddjabjloplhiaaGreatDoorZ1
namespace Go.Proofs.YtddjabjloplhiaaGreatDoor
set_option linter.unusedVariables false
set_option linter.unusedSimpArgs false
open Go.RowKit

/-- does a line start with words, letters' cases aside? -/
def stB (l ws : List UInt8) : Bool := decide (ws.length ≤ l.length ∧ (l.take ws.length).map big = ws)
theorem aft_of (l ws : List UInt8) : aft l ws = if stB l ws then some (l.drop ws.length) else none := by
  unfold aft stB
  by_cases h : ws.length ≤ l.length ∧ (l.take ws.length).map big = ws
  · rw [if_pos h, decide_eq_true h]; rfl
  · rw [if_neg h, decide_eq_false h]; rfl
theorem stB_word {l ws ws' : List UInt8} (h : l.map big = ws) (hl : ws.length = ws'.length) (h2 : stB l ws' = true) : ws = ws' := by
  unfold stB at h2
  obtain ⟨h3, h4⟩ := of_decide_eq_true h2
  have : l.length = ws.length := by rw [← h]; simp
  rw [List.take_of_length_le (by omega), h] at h4
  exact h4
theorem stB_self {l ws : List UInt8} (h : l.map big = ws) : stB l ws = true := by
  unfold stB
  have : l.length = ws.length := by rw [← h]; simp
  exact decide_eq_true ⟨by omega, by rw [List.take_of_length_le (by omega), h]⟩
theorem drop_word {l ws : List UInt8} (h : stB l ws = true) : l.drop ws.length = [] ↔ l.map big = ws := by
  unfold stB at h
  obtain ⟨h3, h4⟩ := of_decide_eq_true h
  constructor
  · intro h5
    have : l.length ≤ ws.length := by simpa using h5
    rwa [List.take_of_length_le this] at h4
  · intro h5
    have : l.length = ws.length := by rw [← h5]; simp
    simp [this]
theorem big_32 (c : UInt8) : big c = 32 ↔ c = 32 := by
  have h := big_nat c
  constructor
  · intro e
    rw [e] at h
    apply UInt8.toNat_inj.1
    change 32 = _ at h
    split at h
    · omega
    · exact h.symm
  · rintro rfl
    rfl
def heloSp : List UInt8 := heloW ++ [32]
theorem stB_helo {l : List UInt8} (h : stB l heloSp = true) : ∃ r, aft l heloW = some r ∧ Lib.hasPrefix r [32] = true := by
  unfold stB heloSp heloW at h
  obtain ⟨h1, h2⟩ := of_decide_eq_true h
  rcases l with _ | ⟨a, _ | ⟨b, _ | ⟨c, _ | ⟨d, _ | ⟨e, r⟩⟩⟩⟩⟩ <;> simp at h1 h2
  obtain ⟨h2, h3, h4, h5, h6⟩ := h2
  refine ⟨e :: r, ?_, ?_⟩
  · unfold aft heloW
    simp [h2, h3, h4, h5]
  · rw [(big_32 e).1 h6]
    simp [Lib.hasPrefix, List.isPrefixOf]
theorem helo_stB {l r : List UInt8} (h : aft l heloW = some r) (h2 : Lib.hasPrefix r [32] = true) : stB l heloSp = true := by
  unfold aft heloW at h
  split at h
  · rename_i hc
    cases h
    obtain ⟨h1, h3⟩ := hc
    rcases l with _ | ⟨a, _ | ⟨b, _ | ⟨c, _ | ⟨d, _ | ⟨e, r⟩⟩⟩⟩⟩ <;> simp [Lib.hasPrefix, List.isPrefixOf] at h1 h2 h3
    obtain ⟨h4, h5, h6, h7⟩ := h3
    rw [← h2]
    unfold stB heloSp heloW
    simp [h4, h5, h6, h7, big_32]
  · cases h

theorem word_ne {l ws ws' : List UInt8} (hw : l.map big = ws) (hl : ws.length = ws'.length) (hn : ws ≠ ws') : stB l ws' = false := by
  rw [← Bool.not_eq_true]
  exact fun h => hn (stB_word hw hl h)

section
variable {s : Ps} {l : List UInt8} (h0 : ¬ 512 < l.length)
include h0
theorem rc_mail (hm : stB l mailW = true) : cmd s l = if adrOk (l.drop 10) then (if s.st = 1 then (okayB, ⟨2, adr (l.drop 10), s.tos⟩) else (lateB, s)) else (formB, s) := by
  unfold cmd
  rw [if_neg h0, aft_of, if_pos hm]
  rfl
theorem rc_rcpt (hm : stB l mailW = false) (hr : stB l rcptW = true) : cmd s l = if adrOk (l.drop 8) then (if s.st = 2 ∨ s.st = 3 then (if s.tos.length = 10 then (manyB, s) else (okayB, ⟨3, s.frm, s.tos ++ [adr (l.drop 8)]⟩)) else (lateB, s)) else (formB, s) := by
  unfold cmd
  rw [if_neg h0, aft_of, hm, if_neg (by decide), aft_of, if_pos hr]
  rfl
theorem rc_helo (hm : stB l mailW = false) (hr : stB l rcptW = false) (hh : stB l heloSp = true) : cmd s l = (okayB, ⟨1, [], []⟩) := by
  unfold cmd
  obtain ⟨r, h1, h2⟩ := stB_helo hh
  rw [if_neg h0, aft_of, hm, if_neg (by decide), aft_of, hr, if_neg (by decide), h1]
  simp [h2]
theorem rc_cmd2 (hm : stB l mailW = false) (hr : stB l rcptW = false) (hh : stB l heloW = false) : cmd s l = cmd2 s l := by
  unfold cmd
  rw [if_neg h0, aft_of, hm, if_neg (by decide), aft_of, hr, if_neg (by decide), aft_of, hh]
  rfl
theorem rc_helo4 (hm : stB l mailW = false) (hr : stB l rcptW = false) (hs : stB l heloSp = false) (hh : stB l heloW = true) : cmd s l = (formB, s) := by
  unfold cmd
  have ha : aft l heloW = some (l.drop heloW.length) := by rw [aft_of, if_pos hh]
  have hp : Lib.hasPrefix (l.drop heloW.length) [32] = false := by
    rw [← Bool.not_eq_true]
    intro h
    rw [helo_stB ha h] at hs
    cases hs
  rw [if_neg h0, aft_of, hm, if_neg (by decide), aft_of, hr, if_neg (by decide), ha]
  simp [hp]
theorem rc_quit (hm : stB l mailW = false) (hr : stB l rcptW = false) (hw : l.map big = quitW) : cmd s l = (byeB, ⟨5, [], []⟩) := by
  rw [rc_cmd2 h0 hm hr (word_ne hw rfl (by decide))]
  unfold cmd2
  rw [aft_of, if_pos (stB_self hw)]
  simp only
  rw [if_pos ((drop_word (stB_self hw)).2 hw)]
theorem rc_rset (hm : stB l mailW = false) (hr : stB l rcptW = false) (hw : l.map big = rsetW) : cmd s l = (okayB, ⟨min s.st 1, [], []⟩) := by
  rw [rc_cmd2 h0 hm hr (word_ne hw rfl (by decide))]
  unfold cmd2
  rw [aft_of, word_ne (ws' := quitW) hw rfl (by decide), if_neg (by decide), aft_of, if_pos (stB_self hw)]
  simp only
  rw [if_pos ((drop_word (stB_self hw)).2 hw)]
theorem rc_data (hm : stB l mailW = false) (hr : stB l rcptW = false) (hw : l.map big = dataW) : cmd s l = if s.st = 3 then (dataB, ⟨4, s.frm, s.tos⟩) else (lateB, s) := by
  rw [rc_cmd2 h0 hm hr (word_ne hw rfl (by decide))]
  unfold cmd2
  rw [aft_of, word_ne (ws' := quitW) hw rfl (by decide), if_neg (by decide), aft_of, word_ne (ws' := rsetW) hw rfl (by decide), if_neg (by decide), aft_of, if_pos (stB_self hw)]
  simp only
  rw [if_pos ((drop_word (stB_self hw)).2 hw)]
theorem rc_form (hm : stB l mailW = false) (hr : stB l rcptW = false) (hs : stB l heloSp = false) (h1 : l.map big ≠ quitW) (h2 : l.map big ≠ rsetW) (h3 : l.map big ≠ dataW)
    (h : stB l heloW = true ∨ stB l quitW = true ∨ stB l rsetW = true ∨ stB l dataW = true) : cmd s l = (formB, s) := by
  rcases Bool.eq_false_or_eq_true (stB l heloW) with q | q
  · exact rc_helo4 h0 hm hr hs q
  rw [rc_cmd2 h0 hm hr q]
  rw [q] at h
  unfold cmd2
  rcases Bool.eq_false_or_eq_true (stB l quitW) with q1 | q1
  · rw [aft_of, if_pos q1]
    simp only
    rw [if_neg (fun e => h1 ((drop_word q1).1 e))]
  rcases Bool.eq_false_or_eq_true (stB l rsetW) with q2 | q2
  · rw [aft_of, q1, if_neg (by decide), aft_of, if_pos q2]
    simp only
    rw [if_neg (fun e => h2 ((drop_word q2).1 e))]
  rcases Bool.eq_false_or_eq_true (stB l dataW) with q3 | q3
  · rw [aft_of, q1, if_neg (by decide), aft_of, q2, if_neg (by decide), aft_of, if_pos q3]
    simp only
    rw [if_neg (fun e => h3 ((drop_word q3).1 e))]
  · rw [q1, q2, q3] at h
    simp at h
theorem rc_what (hm : stB l mailW = false) (hr : stB l rcptW = false) (hh : stB l heloW = false) (h1 : stB l quitW = false) (h2 : stB l rsetW = false) (h3 : stB l dataW = false) : cmd s l = (whatB, s) := by
  rw [rc_cmd2 h0 hm hr hh]
  unfold cmd2
  rw [aft_of, h1, if_neg (by decide), aft_of, h2, if_neg (by decide), aft_of, h3]
  rfl
end
theorem rc_long {s : Ps} {l : List UInt8} (h0 : 512 < l.length) : cmd s l = (whatB, s) := by
  unfold cmd
  rw [if_pos h0]

/-- the address between < and >, as the document looks for it -/
theorem adr_no {x : List UInt8} (h : x.length < 2 ∨ x.head? ≠ some 60 ∨ x.getLast? ≠ some 62) : adrOk x = false := by
  unfold adrOk
  by_cases h1 : Lib.hasPrefix x [60] = true
  · rw [h1]
    rcases x with _ | ⟨a, r⟩
    · simp [Lib.hasPrefix, List.isPrefixOf] at h1
    · have ha : a = 60 := by
        unfold Lib.hasPrefix List.isPrefixOf at h1
        rw [Bool.and_eq_true, beq_iff_eq] at h1
        exact h1.1.symm
      subst ha
      have ht : Lib.trimPrefix (60 :: r) [60] = r := by
        unfold Lib.trimPrefix
        rw [if_pos (by simp [Lib.hasPrefix, List.isPrefixOf])]
        rfl
      rw [ht]
      have hs : Lib.hasSuffix r [62] = false := by
        rw [← Bool.not_eq_true, hasSuffix_one]
        intro e
        rcases r with _ | ⟨b, r⟩
        · simp at e
        · rcases h with h | h | h
          · exfalso; rw [List.length_cons, List.length_cons] at h; omega
          · simp at h
          · rw [List.getLast?_cons_cons] at h
            exact h e
      rw [hs]
      rfl
  · rw [Bool.not_eq_true] at h1
    rw [h1]
    rfl
theorem adr_yes {x : List UInt8} (h1 : 2 ≤ x.length) (h2 : x.head? = some 60) (h3 : x.getLast? = some 62) : adr x = (x.drop 1).take (x.length - 2) ∧ adrOk x = isOk (addrP (adr x)) (adr x) := by
  rcases x with _ | ⟨a, r⟩
  · simp at h1
  · simp at h2
    subst h2
    have ht : Lib.trimPrefix (60 :: r) [60] = r := by
        unfold Lib.trimPrefix
        rw [if_pos (by simp [Lib.hasPrefix, List.isPrefixOf])]
        rfl
    have hs : Lib.hasSuffix r [62] = true := by
      rw [hasSuffix_one]
      rcases r with _ | ⟨b, r⟩
      · simp at h1
      · rwa [List.getLast?_cons_cons] at h3
    constructor
    · unfold adr
      rw [ht]
      unfold Lib.trimSuffix
      rw [if_pos hs]
      simp [List.take_eq_take_iff]
      try omega
    · unfold adrOk
      rw [ht, hs]
      rfl
end Go.Proofs.YtddjabjloplhiaaGreatDoor
