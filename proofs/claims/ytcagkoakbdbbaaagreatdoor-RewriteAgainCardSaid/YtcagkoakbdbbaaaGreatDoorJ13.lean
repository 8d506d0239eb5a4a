/- Plain: lines' ends made whole, and bare: what RewriteEnds says of them. · Plain: CR LF found, counted, and made LF. -/
import Derived.Lib.IndexMore
namespace Go.Proofs.YtcagkoakbdbbaaaGreatDoor
set_option linter.unusedVariables false
set_option linter.unusedSimpArgs false

/-- each LF has a CR ahead -/
def fullL : UInt8 → List UInt8 → List UInt8
  | _, [] => []
  | last, c :: r => (if c = 10 ∧ last ≠ 13 then [13, c] else [c]) ++ fullL c r
/-- CR LF is LF -/
def bareL : List UInt8 → List UInt8
  | [] => []
  | [c] => [c]
  | c :: d :: r => if c = 13 ∧ d = 10 then 10 :: bareL r else c :: bareL (d :: r)
/-- no LF stands by itself -/
def endsOk : UInt8 → List UInt8 → Bool
  | _, [] => true
  | last, c :: r => (c != 10 || last == 13) && endsOk c r
/-- a CR stands by itself -/
def loneCR : List UInt8 → Bool
  | [] => false
  | [c] => c == 13
  | c :: d :: r => (c == 13 && d != 10) || loneCR (d :: r)

theorem endsOk_full (l : List UInt8) : ∀ last, endsOk last (fullL last l) = true := by
  induction l with
  | nil => intro last; rfl
  | cons c r ih =>
    intro last
    unfold fullL
    split
    · next h =>
      obtain ⟨rfl, _⟩ := h
      show (((13 : UInt8) != 10 || last == 13) && (((10 : UInt8) != 10 || (13 : UInt8) == 13) && endsOk 10 (fullL 10 r))) = true
      rw [ih 10]
      simp
    · next h =>
      show ((c != 10 || last == 13) && endsOk c (fullL c r)) = true
      rw [ih c]
      by_cases h1 : c = 10
      · by_cases h2 : last = 13
        · simp [h2]
        · exact absurd ⟨h1, h2⟩ h
      · simp [h1]
theorem full_ok (l : List UInt8) : ∀ last, endsOk last l = true → fullL last l = l := by
  induction l with
  | nil => intro last _; rfl
  | cons c r ih =>
    intro last h
    simp only [endsOk, Bool.and_eq_true, Bool.or_eq_true, bne_iff_ne, beq_iff_eq] at h
    unfold fullL
    rw [if_neg (by rintro ⟨a, b⟩; rcases h.1 with h | h; exact h a; exact b h), ih c h.2]
    rfl
theorem bare_cons {c : UInt8} (h : c ≠ 13) (l : List UInt8) : bareL (c :: l) = c :: bareL l := by
  cases l with
  | nil => rfl
  | cons d r => unfold bareL; rw [if_neg (by rintro ⟨a, _⟩; exact h a)]; cases r <;> rfl
theorem bare_crlf (l : List UInt8) : bareL (13 :: 10 :: l) = 10 :: bareL l := by
  rw [bareL, if_pos ⟨rfl, rfl⟩]
theorem full_bare (n : Nat) : ∀ (l : List UInt8), l.length ≤ n → ∀ last, last ≠ 13 → loneCR l = false → fullL last (bareL (fullL last l)) = fullL last l := by
  induction n with
  | zero =>
    intro l hl last _ _
    obtain rfl := List.eq_nil_of_length_eq_zero (by omega : l.length = 0)
    rfl
  | succ n ih =>
    intro l hl last h1 h2
    match l with
    | [] => rfl
    | c :: r =>
      have hr : r.length ≤ n := by simp at hl; omega
      have h3 : loneCR r = false := by
        cases r with
        | nil => rfl
        | cons d r => simp only [loneCR, Bool.or_eq_false_iff] at h2; exact h2.2
      by_cases h10 : c = 10
      · subst h10
        have e : fullL last (10 :: r) = 13 :: 10 :: fullL 10 r := by rw [fullL, if_pos ⟨rfl, h1⟩]; rfl
        rw [e, bare_crlf]
        have e2 : fullL last (10 :: bareL (fullL 10 r)) = 13 :: 10 :: fullL 10 (bareL (fullL 10 r)) := by rw [fullL, if_pos ⟨rfl, h1⟩]; rfl
        rw [e2, ih r hr 10 (by decide) h3]
      · by_cases h13 : c = 13
        · subst h13
          match r, h2, hr, h3 with
          | [], h2, _, _ => simp [loneCR] at h2
          | d :: r, h2, hr, h3 =>
            simp only [loneCR, Bool.or_eq_false_iff, beq_self_eq_true, Bool.true_and] at h2
            obtain rfl : d = 10 := by simpa using h2.1
            have h4 : loneCR r = false := by
              cases r with
              | nil => rfl
              | cons d r => have := h2.2; simp only [loneCR, Bool.or_eq_false_iff] at this; exact this.2
            have e : fullL last (13 :: 10 :: r) = 13 :: 10 :: fullL 10 r := by
              rw [fullL, if_neg (by rintro ⟨a, _⟩; exact absurd a (by decide)), fullL, if_neg (by rintro ⟨_, a⟩; exact a rfl)]; rfl
            rw [e, bare_crlf]
            have e2 : fullL last (10 :: bareL (fullL 10 r)) = 13 :: 10 :: fullL 10 (bareL (fullL 10 r)) := by rw [fullL, if_pos ⟨rfl, h1⟩]; rfl
            rw [e2, ih r (by simp at hr; omega) 10 (by decide) h4]
        · have e : ∀ x, fullL last (c :: x) = c :: fullL c x := fun x => by rw [fullL, if_neg (by rintro ⟨a, _⟩; exact h10 a)]; rfl
          rw [e, bare_cons h13, e, ih r hr c h13 h3]

/-- the law's looks, by places -/
theorem endsOk_at {l : List UInt8} : ∀ {last : UInt8} {i : Nat}, endsOk last l = true → l[i]? = some 10 → (last :: l)[i]? = some 13 := by
  induction l with
  | nil => intro last i _ h; simp at h
  | cons c r ih =>
    intro last i h hi
    simp only [endsOk, Bool.and_eq_true, Bool.or_eq_true, bne_iff_ne, beq_iff_eq] at h
    cases i with
    | zero =>
      simp at hi
      rcases h.1 with h' | h'
      · exact absurd hi h'
      · simp [h']
    | succ i =>
      have := ih (last := c) (i := i) h.2 (by simpa using hi)
      simpa using this
theorem lone_at {l : List UInt8} : loneCR l = true ↔ ∃ i : Nat, l[i]? = some 13 ∧ l[i + 1]? ≠ some 10 := by
  induction l with
  | nil =>
    constructor
    · intro h; cases h
    · rintro ⟨i, h, _⟩; cases h
  | cons c r ih =>
    cases r with
    | nil =>
      constructor
      · intro h
        obtain rfl : c = 13 := by simpa [loneCR] using h
        exact ⟨0, rfl, by simp⟩
      · rintro ⟨i, h, _⟩
        cases i with
        | zero =>
          obtain rfl : c = 13 := Option.some.inj h
          rfl
        | succ i => cases h
    | cons d r =>
      rw [loneCR, Bool.or_eq_true, ih]
      constructor
      · rintro (h | ⟨i, h1, h2⟩)
        · simp only [Bool.and_eq_true, beq_iff_eq, bne_iff_ne] at h
          obtain ⟨rfl, h⟩ := h
          exact ⟨0, rfl, fun e => h (Option.some.inj e)⟩
        · exact ⟨i + 1, h1, h2⟩
      · rintro ⟨i, h1, h2⟩
        cases i with
        | zero =>
          obtain rfl : c = 13 := Option.some.inj h1
          refine .inl ?_
          simp only [beq_self_eq_true, Bool.true_and, bne_iff_ne]
          intro e
          exact h2 (by rw [e]; rfl)
        | succ i => exact .inr ⟨i, h1, h2⟩
theorem full_len (l : List UInt8) : ∀ last, (fullL last l).length ≤ 2 * l.length := by
  induction l with
  | nil => intro last; simp [fullL]
  | cons c r ih =>
    intro last
    have := ih c
    unfold fullL
    split <;> simp <;> omega
theorem bare_len (n : Nat) : ∀ l : List UInt8, l.length ≤ n → (bareL l).length ≤ l.length := by
  induction n with
  | zero => intro l h; obtain rfl := List.eq_nil_of_length_eq_zero (by omega : l.length = 0); simp [bareL]
  | succ n ih =>
    intro l h
    match l with
    | [] => simp [bareL]
    | [c] => simp [bareL]
    | c :: d :: r =>
      simp at h
      have h1 := ih r (by omega)
      have h2 := ih (d :: r) (by simp; omega)
      unfold bareL
      split <;> simp at * <;> omega
end Go.Proofs.YtcagkoakbdbbaaaGreatDoor

namespace Go.Proofs.YtcagkoakbdbbaaaGreatDoor
set_option linter.unusedVariables false
set_option linter.unusedSimpArgs false

/-- cut at the first CR and LF -/
def cutN : List UInt8 → Option (List UInt8 × List UInt8)
  | [] => none
  | c :: r => if ([13, 10] : List UInt8).isPrefixOf (c :: r) = true then some ([], r.drop 1) else (cutN r).map fun p => (c :: p.1, p.2)
theorem pre_crlf {c : UInt8} {r : List UInt8} (h : ([13, 10] : List UInt8).isPrefixOf (c :: r) = true) : c = 13 ∧ ∃ t, r = 10 :: t := by
  obtain ⟨t, ht⟩ := List.isPrefixOf_iff_prefix.1 h
  simp only [List.cons_append, List.nil_append, List.cons.injEq] at ht
  obtain ⟨rfl, rfl⟩ := ht
  exact ⟨rfl, t, rfl⟩
theorem bare_step {c : UInt8} {r : List UInt8} (h : ¬ ([13, 10] : List UInt8).isPrefixOf (c :: r) = true) : bareL (c :: r) = c :: bareL r := by
  cases r with
  | nil => rfl
  | cons d r =>
    rw [bareL, if_neg]
    rintro ⟨rfl, rfl⟩
    exact h (by simp [List.isPrefixOf])
theorem cutN_some : ∀ {l a b : List UInt8}, cutN l = some (a, b) → l = a ++ 13 :: 10 :: b ∧ Lib.index l [13, 10] = (a.length : Int) ∧ bareL l = a ++ 10 :: bareL b
  | [], _, _, h => by simp [cutN] at h
  | c :: r, a, b, h => by
    unfold cutN at h
    by_cases hc : ([13, 10] : List UInt8).isPrefixOf (c :: r) = true
    · rw [if_pos hc] at h
      cases h
      obtain ⟨rfl, t, rfl⟩ := pre_crlf hc
      refine ⟨rfl, ?_, bare_crlf t⟩
      unfold Lib.index
      rw [if_pos hc]
      rfl
    · rw [if_neg hc, Option.map_eq_some_iff] at h
      obtain ⟨⟨a', b'⟩, h1, h2⟩ := h
      cases h2
      obtain ⟨e, hi, hb⟩ := cutN_some h1
      refine ⟨by rw [e]; rfl, ?_, by rw [bare_step hc, hb]; rfl⟩
      unfold Lib.index
      rw [if_neg hc, hi]
      have hne : (((a'.length : Int)) == -1) = false := by rw [beq_eq_false_iff_ne]; omega
      rw [hne]
      simp
theorem cutN_none : ∀ {l : List UInt8}, cutN l = none → Lib.index l [13, 10] = -1 ∧ bareL l = l
  | [], _ => ⟨rfl, rfl⟩
  | c :: r, h => by
    unfold cutN at h
    by_cases hc : ([13, 10] : List UInt8).isPrefixOf (c :: r) = true
    · rw [if_pos hc] at h
      cases h
    · rw [if_neg hc, Option.map_eq_none_iff] at h
      obtain ⟨h1, h2⟩ := cutN_none h
      refine ⟨?_, by rw [bare_step hc, h2]⟩
      unfold Lib.index
      rw [if_neg hc, h1]
      rfl
/-- how many -/
def cntN (l : List UInt8) : Nat := Lib.count l [13, 10]
theorem cnt_from : ∀ (f g : Nat) (l : List UInt8), l.length < f → l.length < g → Lib.countFrom [13, 10] f l = Lib.countFrom [13, 10] g l
  | 0, _, _, h, _ => by omega
  | _ + 1, 0, _, _, h => by omega
  | f + 1, g + 1, l, hf, hg => by
    unfold Lib.countFrom
    cases hc : cutN l with
    | none => rw [(cutN_none hc).1]; rfl
    | some p =>
      obtain ⟨a, b⟩ := p
      obtain ⟨e, hi, _⟩ := cutN_some hc
      rw [hi]
      have hne : (((a.length : Int)) == -1) = false := by rw [beq_eq_false_iff_ne]; omega
      rw [hne]
      have hd : l.drop ((a.length : Int).toNat + ([13, 10] : List UInt8).length) = b := by
        rw [e, Int.toNat_natCast, show a ++ 13 :: 10 :: b = (a ++ [13, 10]) ++ b by simp, List.drop_left' (by simp)]
      rw [hd]
      have hl : l.length = a.length + b.length + 2 := by rw [e]; simp; omega
      rw [cnt_from f g b (by omega) (by omega)]
theorem cnt_none {l : List UInt8} (h : cutN l = none) : cntN l = 0 := by
  unfold cntN Lib.count Lib.countFrom
  rw [(cutN_none h).1]
  rfl
theorem cnt_some {l a b : List UInt8} (h : cutN l = some (a, b)) : cntN l = 1 + cntN b := by
  obtain ⟨e, hi, _⟩ := cutN_some h
  unfold cntN Lib.count
  rw [Lib.countFrom, hi]
  have hne : (((a.length : Int)) == -1) = false := by rw [beq_eq_false_iff_ne]; omega
  rw [hne]
  have hd : l.drop ((a.length : Int).toNat + ([13, 10] : List UInt8).length) = b := by
    rw [e, Int.toNat_natCast, show a ++ 13 :: 10 :: b = (a ++ [13, 10]) ++ b by simp, List.drop_left' (by simp)]
  rw [hd]
  have hl : l.length = a.length + b.length + 2 := by rw [e]; simp; omega
  rw [cnt_from l.length (b.length + 1) b (by omega) (by omega)]
  rfl
theorem cnt_len (n : Nat) : ∀ l : List UInt8, l.length ≤ n → 2 * cntN l ≤ l.length ∧ (bareL l).length + cntN l = l.length := by
  induction n with
  | zero =>
    intro l h
    obtain rfl := List.eq_nil_of_length_eq_zero (by omega : l.length = 0)
    exact ⟨by simp [cntN, Lib.count, Lib.countFrom, Lib.index], by simp [cntN, Lib.count, Lib.countFrom, Lib.index, bareL]⟩
  | succ n ih =>
    intro l h
    cases hc : cutN l with
    | none => rw [cnt_none hc, (cutN_none hc).2]; omega
    | some p =>
      obtain ⟨a, b⟩ := p
      obtain ⟨e, _, hb⟩ := cutN_some hc
      have hl : l.length = a.length + b.length + 2 := by rw [e]; simp; omega
      obtain ⟨h1, h2⟩ := ih b (by omega)
      rw [cnt_some hc, hb]
      constructor
      · omega
      · rw [List.length_append, List.length_cons]
        omega
theorem cnt_zero {l : List UInt8} (h : cntN l = 0) : bareL l = l := by
  cases hc : cutN l with
  | none => exact (cutN_none hc).2
  | some p =>
    obtain ⟨a, b⟩ := p
    rw [cnt_some hc] at h
    omega
theorem cnt_pos {l : List UInt8} (h : 0 < cntN l) : ∃ a b, cutN l = some (a, b) := by
  cases hc : cutN l with
  | none => rw [cnt_none hc] at h; omega
  | some p => exact ⟨p.1, p.2, rfl⟩
end Go.Proofs.YtcagkoakbdbbaaaGreatDoor
