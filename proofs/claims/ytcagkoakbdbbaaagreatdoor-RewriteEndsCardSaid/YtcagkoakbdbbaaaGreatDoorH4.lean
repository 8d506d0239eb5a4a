/- Plain: CR LF found, counted, and made LF. -/
import Derived.Test.YtcagkoakbdbbaaaGreatDoorH1
import Derived.Lib.IndexMore
namespace Go.Proofs.YtcagkoakbdbbaaaGreatDoor
set_option linter.unusedVariables false
set_option linter.unusedSimpArgs false

/-- cut at the first CR and LF -/
def cutN : List UInt8 → Option (List UInt8 × List UInt8)
  | [] => none
  | c :: r => if ([13, 10] : List UInt8).isPrefixOf (c :: r) = true then some ([], r.drop 1) else (cutN r).map fun p => (c :: p.1, p.2)
theorem pre_crlf {c : UInt8} {r : List UInt8} (h : ([13, 10] : List UInt8).isPrefixOf (c :: r) = true) : c = 13 ∧ ∃ t, r = 10 :: t := by
  obtain ⟨t, ht⟩ := List.isPrefixOf_iff_prefix.1 h
  simp only [List.cons_append, List.nil_append, List.cons.injEq] at ht
  obtain ⟨rfl, rfl⟩ := ht
  exact ⟨rfl, t, rfl⟩
theorem bare_step {c : UInt8} {r : List UInt8} (h : ¬ ([13, 10] : List UInt8).isPrefixOf (c :: r) = true) : bareL (c :: r) = c :: bareL r := by
  cases r with
  | nil => rfl
  | cons d r =>
    rw [bareL, if_neg]
    rintro ⟨rfl, rfl⟩
    exact h (by simp [List.isPrefixOf])
theorem cutN_some : ∀ {l a b : List UInt8}, cutN l = some (a, b) → l = a ++ 13 :: 10 :: b ∧ Lib.index l [13, 10] = (a.length : Int) ∧ bareL l = a ++ 10 :: bareL b
  | [], _, _, h => by simp [cutN] at h
  | c :: r, a, b, h => by
    unfold cutN at h
    by_cases hc : ([13, 10] : List UInt8).isPrefixOf (c :: r) = true
    · rw [if_pos hc] at h
      cases h
      obtain ⟨rfl, t, rfl⟩ := pre_crlf hc
      refine ⟨rfl, ?_, bare_crlf t⟩
      unfold Lib.index
      rw [if_pos hc]
      rfl
    · rw [if_neg hc, Option.map_eq_some_iff] at h
      obtain ⟨⟨a', b'⟩, h1, h2⟩ := h
      cases h2
      obtain ⟨e, hi, hb⟩ := cutN_some h1
      refine ⟨by rw [e]; rfl, ?_, by rw [bare_step hc, hb]; rfl⟩
      unfold Lib.index
      rw [if_neg hc, hi]
      have hne : (((a'.length : Int)) == -1) = false := by rw [beq_eq_false_iff_ne]; omega
      rw [hne]
      simp
theorem cutN_none : ∀ {l : List UInt8}, cutN l = none → Lib.index l [13, 10] = -1 ∧ bareL l = l
  | [], _ => ⟨rfl, rfl⟩
  | c :: r, h => by
    unfold cutN at h
    by_cases hc : ([13, 10] : List UInt8).isPrefixOf (c :: r) = true
    · rw [if_pos hc] at h
      cases h
    · rw [if_neg hc, Option.map_eq_none_iff] at h
      obtain ⟨h1, h2⟩ := cutN_none h
      refine ⟨?_, by rw [bare_step hc, h2]⟩
      unfold Lib.index
      rw [if_neg hc, h1]
      rfl
/-- how many -/
def cntN (l : List UInt8) : Nat := Lib.count l [13, 10]
theorem cnt_from : ∀ (f g : Nat) (l : List UInt8), l.length < f → l.length < g → Lib.countFrom [13, 10] f l = Lib.countFrom [13, 10] g l
  | 0, _, _, h, _ => by omega
  | _ + 1, 0, _, _, h => by omega
  | f + 1, g + 1, l, hf, hg => by
    unfold Lib.countFrom
    cases hc : cutN l with
    | none => rw [(cutN_none hc).1]; rfl
    | some p =>
      obtain ⟨a, b⟩ := p
      obtain ⟨e, hi, _⟩ := cutN_some hc
      rw [hi]
      have hne : (((a.length : Int)) == -1) = false := by rw [beq_eq_false_iff_ne]; omega
      rw [hne]
      have hd : l.drop ((a.length : Int).toNat + ([13, 10] : List UInt8).length) = b := by
        rw [e, Int.toNat_natCast, show a ++ 13 :: 10 :: b = (a ++ [13, 10]) ++ b by simp, List.drop_left' (by simp)]
      rw [hd]
      have hl : l.length = a.length + b.length + 2 := by rw [e]; simp; omega
      rw [cnt_from f g b (by omega) (by omega)]
theorem cnt_none {l : List UInt8} (h : cutN l = none) : cntN l = 0 := by
  unfold cntN Lib.count Lib.countFrom
  rw [(cutN_none h).1]
  rfl
theorem cnt_some {l a b : List UInt8} (h : cutN l = some (a, b)) : cntN l = 1 + cntN b := by
  obtain ⟨e, hi, _⟩ := cutN_some h
  unfold cntN Lib.count
  rw [Lib.countFrom, hi]
  have hne : (((a.length : Int)) == -1) = false := by rw [beq_eq_false_iff_ne]; omega
  rw [hne]
  have hd : l.drop ((a.length : Int).toNat + ([13, 10] : List UInt8).length) = b := by
    rw [e, Int.toNat_natCast, show a ++ 13 :: 10 :: b = (a ++ [13, 10]) ++ b by simp, List.drop_left' (by simp)]
  rw [hd]
  have hl : l.length = a.length + b.length + 2 := by rw [e]; simp; omega
  rw [cnt_from l.length (b.length + 1) b (by omega) (by omega)]
  rfl
theorem cnt_len (n : Nat) : ∀ l : List UInt8, l.length ≤ n → 2 * cntN l ≤ l.length ∧ (bareL l).length + cntN l = l.length := by
  induction n with
  | zero =>
    intro l h
    obtain rfl := List.eq_nil_of_length_eq_zero (by omega : l.length = 0)
    exact ⟨by simp [cntN, Lib.count, Lib.countFrom, Lib.index], by simp [cntN, Lib.count, Lib.countFrom, Lib.index, bareL]⟩
  | succ n ih =>
    intro l h
    cases hc : cutN l with
    | none => rw [cnt_none hc, (cutN_none hc).2]; omega
    | some p =>
      obtain ⟨a, b⟩ := p
      obtain ⟨e, _, hb⟩ := cutN_some hc
      have hl : l.length = a.length + b.length + 2 := by rw [e]; simp; omega
      obtain ⟨h1, h2⟩ := ih b (by omega)
      rw [cnt_some hc, hb]
      constructor
      · omega
      · rw [List.length_append, List.length_cons]
        omega
theorem cnt_zero {l : List UInt8} (h : cntN l = 0) : bareL l = l := by
  cases hc : cutN l with
  | none => exact (cutN_none hc).2
  | some p =>
    obtain ⟨a, b⟩ := p
    rw [cnt_some hc] at h
    omega
theorem cnt_pos {l : List UInt8} (h : 0 < cntN l) : ∃ a b, cutN l = some (a, b) := by
  cases hc : cutN l with
  | none => rw [cnt_none hc] at h; omega
  | some p => exact ⟨p.1, p.2, rfl⟩
end Go.Proofs.YtcagkoakbdbbaaaGreatDoor
