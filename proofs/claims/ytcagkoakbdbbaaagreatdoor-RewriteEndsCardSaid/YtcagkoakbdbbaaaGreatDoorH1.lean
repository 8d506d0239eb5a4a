/- Plain: lines' ends made whole, and bare: what RewriteEnds says of them. -/
namespace Go.Proofs.YtcagkoakbdbbaaaGreatDoor
set_option linter.unusedVariables false
set_option linter.unusedSimpArgs false

/-- each LF has a CR ahead -/
def fullL : UInt8 → List UInt8 → List UInt8
  | _, [] => []
  | last, c :: r => (if c = 10 ∧ last ≠ 13 then [13, c] else [c]) ++ fullL c r
/-- CR LF is LF -/
def bareL : List UInt8 → List UInt8
  | [] => []
  | [c] => [c]
  | c :: d :: r => if c = 13 ∧ d = 10 then 10 :: bareL r else c :: bareL (d :: r)
/-- no LF stands by itself -/
def endsOk : UInt8 → List UInt8 → Bool
  | _, [] => true
  | last, c :: r => (c != 10 || last == 13) && endsOk c r
/-- a CR stands by itself -/
def loneCR : List UInt8 → Bool
  | [] => false
  | [c] => c == 13
  | c :: d :: r => (c == 13 && d != 10) || loneCR (d :: r)

theorem endsOk_full (l : List UInt8) : ∀ last, endsOk last (fullL last l) = true := by
  induction l with
  | nil => intro last; rfl
  | cons c r ih =>
    intro last
    unfold fullL
    split
    · next h =>
      obtain ⟨rfl, _⟩ := h
      show (((13 : UInt8) != 10 || last == 13) && (((10 : UInt8) != 10 || (13 : UInt8) == 13) && endsOk 10 (fullL 10 r))) = true
      rw [ih 10]
      simp
    · next h =>
      show ((c != 10 || last == 13) && endsOk c (fullL c r)) = true
      rw [ih c]
      by_cases h1 : c = 10
      · by_cases h2 : last = 13
        · simp [h2]
        · exact absurd ⟨h1, h2⟩ h
      · simp [h1]
theorem full_ok (l : List UInt8) : ∀ last, endsOk last l = true → fullL last l = l := by
  induction l with
  | nil => intro last _; rfl
  | cons c r ih =>
    intro last h
    simp only [endsOk, Bool.and_eq_true, Bool.or_eq_true, bne_iff_ne, beq_iff_eq] at h
    unfold fullL
    rw [if_neg (by rintro ⟨a, b⟩; rcases h.1 with h | h; exact h a; exact b h), ih c h.2]
    rfl
theorem bare_cons {c : UInt8} (h : c ≠ 13) (l : List UInt8) : bareL (c :: l) = c :: bareL l := by
  cases l with
  | nil => rfl
  | cons d r => unfold bareL; rw [if_neg (by rintro ⟨a, _⟩; exact h a)]; cases r <;> rfl
theorem bare_crlf (l : List UInt8) : bareL (13 :: 10 :: l) = 10 :: bareL l := by
  rw [bareL, if_pos ⟨rfl, rfl⟩]
theorem full_bare (n : Nat) : ∀ (l : List UInt8), l.length ≤ n → ∀ last, last ≠ 13 → loneCR l = false → fullL last (bareL (fullL last l)) = fullL last l := by
  induction n with
  | zero =>
    intro l hl last _ _
    obtain rfl := List.eq_nil_of_length_eq_zero (by omega : l.length = 0)
    rfl
  | succ n ih =>
    intro l hl last h1 h2
    match l with
    | [] => rfl
    | c :: r =>
      have hr : r.length ≤ n := by simp at hl; omega
      have h3 : loneCR r = false := by
        cases r with
        | nil => rfl
        | cons d r => simp only [loneCR, Bool.or_eq_false_iff] at h2; exact h2.2
      by_cases h10 : c = 10
      · subst h10
        have e : fullL last (10 :: r) = 13 :: 10 :: fullL 10 r := by rw [fullL, if_pos ⟨rfl, h1⟩]; rfl
        rw [e, bare_crlf]
        have e2 : fullL last (10 :: bareL (fullL 10 r)) = 13 :: 10 :: fullL 10 (bareL (fullL 10 r)) := by rw [fullL, if_pos ⟨rfl, h1⟩]; rfl
        rw [e2, ih r hr 10 (by decide) h3]
      · by_cases h13 : c = 13
        · subst h13
          match r, h2, hr, h3 with
          | [], h2, _, _ => simp [loneCR] at h2
          | d :: r, h2, hr, h3 =>
            simp only [loneCR, Bool.or_eq_false_iff, beq_self_eq_true, Bool.true_and] at h2
            obtain rfl : d = 10 := by simpa using h2.1
            have h4 : loneCR r = false := by
              cases r with
              | nil => rfl
              | cons d r => have := h2.2; simp only [loneCR, Bool.or_eq_false_iff] at this; exact this.2
            have e : fullL last (13 :: 10 :: r) = 13 :: 10 :: fullL 10 r := by
              rw [fullL, if_neg (by rintro ⟨a, _⟩; exact absurd a (by decide)), fullL, if_neg (by rintro ⟨_, a⟩; exact a rfl)]; rfl
            rw [e, bare_crlf]
            have e2 : fullL last (10 :: bareL (fullL 10 r)) = 13 :: 10 :: fullL 10 (bareL (fullL 10 r)) := by rw [fullL, if_pos ⟨rfl, h1⟩]; rfl
            rw [e2, ih r (by simp at hr; omega) 10 (by decide) h4]
        · have e : ∀ x, fullL last (c :: x) = c :: fullL c x := fun x => by rw [fullL, if_neg (by rintro ⟨a, _⟩; exact h10 a)]; rfl
          rw [e, bare_cons h13, e, ih r hr c h13 h3]

/-- the law's looks, by places -/
theorem endsOk_at {l : List UInt8} : ∀ {last : UInt8} {i : Nat}, endsOk last l = true → l[i]? = some 10 → (last :: l)[i]? = some 13 := by
  induction l with
  | nil => intro last i _ h; simp at h
  | cons c r ih =>
    intro last i h hi
    simp only [endsOk, Bool.and_eq_true, Bool.or_eq_true, bne_iff_ne, beq_iff_eq] at h
    cases i with
    | zero =>
      simp at hi
      rcases h.1 with h' | h'
      · exact absurd hi h'
      · simp [h']
    | succ i =>
      have := ih (last := c) (i := i) h.2 (by simpa using hi)
      simpa using this
theorem lone_at {l : List UInt8} : loneCR l = true ↔ ∃ i : Nat, l[i]? = some 13 ∧ l[i + 1]? ≠ some 10 := by
  induction l with
  | nil =>
    constructor
    · intro h; cases h
    · rintro ⟨i, h, _⟩; cases h
  | cons c r ih =>
    cases r with
    | nil =>
      constructor
      · intro h
        obtain rfl : c = 13 := by simpa [loneCR] using h
        exact ⟨0, rfl, by simp⟩
      · rintro ⟨i, h, _⟩
        cases i with
        | zero =>
          obtain rfl : c = 13 := Option.some.inj h
          rfl
        | succ i => cases h
    | cons d r =>
      rw [loneCR, Bool.or_eq_true, ih]
      constructor
      · rintro (h | ⟨i, h1, h2⟩)
        · simp only [Bool.and_eq_true, beq_iff_eq, bne_iff_ne] at h
          obtain ⟨rfl, h⟩ := h
          exact ⟨0, rfl, fun e => h (Option.some.inj e)⟩
        · exact ⟨i + 1, h1, h2⟩
      · rintro ⟨i, h1, h2⟩
        cases i with
        | zero =>
          obtain rfl : c = 13 := Option.some.inj h1
          refine .inl ?_
          simp only [beq_self_eq_true, Bool.true_and, bne_iff_ne]
          intro e
          exact h2 (by rw [e]; rfl)
        | succ i => exact .inr ⟨i, h1, h2⟩
theorem full_len (l : List UInt8) : ∀ last, (fullL last l).length ≤ 2 * l.length := by
  induction l with
  | nil => intro last; simp [fullL]
  | cons c r ih =>
    intro last
    have := ih c
    unfold fullL
    split <;> simp <;> omega
theorem bare_len (n : Nat) : ∀ l : List UInt8, l.length ≤ n → (bareL l).length ≤ l.length := by
  induction n with
  | zero => intro l h; obtain rfl := List.eq_nil_of_length_eq_zero (by omega : l.length = 0); simp [bareL]
  | succ n ih =>
    intro l h
    match l with
    | [] => simp [bareL]
    | [c] => simp [bareL]
    | c :: d :: r =>
      simp at h
      have h1 := ih r (by omega)
      have h2 := ih (d :: r) (by simp; omega)
      unfold bareL
      split <;> simp at * <;> omega
end Go.Proofs.YtcagkoakbdbbaaaGreatDoor
