/- A talk as bytes: what Unstuff and Feed do, in plain words; what is fed in pieces is as what is fed at once. -/
import Derived.Test.YtddjabjloplhiaaGreatDoorY5
namespace Go.Proofs.YtddjabjloplhiaaGreatDoor
set_option linter.unusedVariables false
set_option linter.unusedSimpArgs false
open Go.RowKit

theorem cutE_len {l a b : List UInt8} (h : cutE l = some (a, b)) : a.length + b.length + 2 = l.length := by
  rw [(cutE_some h).1]
  simp
  omega
theorem cutE_app : ∀ {l a b : List UInt8} (m : List UInt8), cutE l = some (a, b) → cutE (l ++ m) = some (a, b ++ m)
  | [], _, _, _, h => by simp [cutE] at h
  | c :: r, a, b, m, h => by
    unfold cutE at h
    rw [List.cons_append]
    unfold cutE
    by_cases hc : ([13, 10] : List UInt8).isPrefixOf (c :: r) = true
    · rw [if_pos hc] at h
      cases h
      obtain ⟨t, ht⟩ := List.isPrefixOf_iff_prefix.1 hc
      simp only [List.cons_append, List.nil_append, List.cons.injEq] at ht
      obtain ⟨rfl, rfl⟩ := ht
      rfl
    · rw [if_neg hc, Option.map_eq_some_iff] at h
      obtain ⟨⟨a', b'⟩, h1, h2⟩ := h
      cases h2
      have hr : r ≠ [] := fun e => by rw [e] at h1; simp [cutE] at h1
      have hc2 : ¬ ([13, 10] : List UInt8).isPrefixOf (c :: (r ++ m)) = true := fun hk => hc (by
        obtain ⟨t, ht⟩ := List.isPrefixOf_iff_prefix.1 hk
        obtain ⟨y, r', rfl⟩ := List.exists_cons_of_ne_nil hr
        simp only [List.cons_append, List.nil_append, List.cons.injEq] at ht
        obtain ⟨rfl, rfl, _⟩ := ht
        rfl)
      rw [if_neg hc2, cutE_app m h1]
      rfl

/-- a line without a point ahead -/
def undot (l : List UInt8) : List UInt8 := if l.head? = some 46 then l.drop 1 else l
theorem undot_len (l : List UInt8) : (undot l).length ≤ l.length := by
  unfold undot
  split <;> simp
/-- the mail that lines tell up to a point alone, and what is behind it -/
def unst (b : List UInt8) : Option (List UInt8 × List UInt8) :=
  match h : cutE b with
  | none => none
  | some (line, behind) => if line = [46] then some ([], behind) else (unst behind).map fun p => (undot line ++ [13, 10] ++ p.1, p.2)
termination_by b.length
decreasing_by have := cutE_len h; omega
theorem unst_none {b : List UInt8} (h : cutE b = none) : unst b = none := by
  rw [unst]
  split
  · rfl
  · rename_i h2
    rw [h] at h2
    cases h2
theorem unst_some {b line behind : List UInt8} (h : cutE b = some (line, behind)) : unst b = if line = [46] then some ([], behind) else (unst behind).map fun p => (undot line ++ [13, 10] ++ p.1, p.2) := by
  rw [unst]
  split
  · rename_i h2
    rw [h] at h2
    cases h2
  · rename_i l2 b2 h2
    rw [h] at h2
    cases h2
    rfl
theorem unst_len : ∀ (k : Nat) {b m r : List UInt8}, b.length ≤ k → unst b = some (m, r) → m.length + r.length + 3 ≤ b.length
  | k, b, m, r, hk, h => by
    cases hc : cutE b with
    | none => rw [unst_none hc] at h; cases h
    | some p =>
      obtain ⟨line, behind⟩ := p
      rw [unst_some hc] at h
      have hl := cutE_len hc
      by_cases h1 : line = [46]
      · rw [if_pos h1] at h
        cases h
        rw [h1] at hl
        simp at hl ⊢
        omega
      · rw [if_neg h1, Option.map_eq_some_iff] at h
        obtain ⟨⟨m', r'⟩, h2, h3⟩ := h
        cases h3
        cases k with
        | zero => omega
        | succ k =>
          have ih := unst_len k (by omega) h2
          have hu := undot_len line
          simp only [List.length_append, List.length_cons, List.length_nil]
          omega
theorem unst_app : ∀ (k : Nat) {b m r : List UInt8} (x : List UInt8), b.length ≤ k → unst b = some (m, r) → unst (b ++ x) = some (m, r ++ x)
  | k, b, m, r, x, hk, h => by
    cases hc : cutE b with
    | none => rw [unst_none hc] at h; cases h
    | some p =>
      obtain ⟨line, behind⟩ := p
      rw [unst_some hc] at h
      rw [unst_some (cutE_app x hc)]
      have hl := cutE_len hc
      by_cases h1 : line = [46]
      · rw [if_pos h1] at h ⊢
        cases h
        rfl
      · rw [if_neg h1] at h ⊢
        rw [Option.map_eq_some_iff] at h
        obtain ⟨⟨m', r'⟩, h2, h3⟩ := h
        cases h3
        cases k with
        | zero => omega
        | succ k =>
          rw [unst_app k x (by omega) h2]
          rfl

/-- a mail -/
structure Pm where
  frm : List UInt8
  tos : List (List UInt8)
  body : List UInt8
/-- what is fed leaves: the answer, where the talk stands, what has no end yet, the mails that were taken -/
structure Fed where
  out : List UInt8
  s : Ps
  left : List UInt8
  ms : List Pm
def Fed.ahead (o : List UInt8) (ms : List Pm) (f : Fed) : Fed := ⟨o ++ f.out, f.s, f.left, ms ++ f.ms⟩
/-- one step of a talk: none: more is to come -/
def step (s : Ps) (b : List UInt8) : Option (List UInt8 × Ps × List UInt8 × List Pm) :=
  if s.st = 4 then (unst b).map fun p => (okayB ++ [13, 10], ⟨1, [], []⟩, p.2, [⟨s.frm, s.tos, p.1⟩])
  else (cutE b).map fun p => ((cmd s p.1).1 ++ [13, 10], (cmd s p.1).2, if (cmd s p.1).2.st = 5 then [] else p.2, [])
theorem step_len {s : Ps} {b o : List UInt8} {s' : Ps} {r : List UInt8} {ms : List Pm} (h : step s b = some (o, s', r, ms)) : r.length < b.length := by
  unfold step at h
  split at h
  · rw [Option.map_eq_some_iff] at h
    obtain ⟨⟨m', r'⟩, h2, h3⟩ := h
    cases h3
    have := unst_len _ (Nat.le_refl _) h2
    dsimp only
    omega
  · rw [Option.map_eq_some_iff] at h
    obtain ⟨⟨m', r'⟩, h2, h3⟩ := h
    cases h3
    have := cutE_len h2
    split
    · simp; omega
    · dsimp only; omega
/-- what is fed to a talk that has not ended -/
def feed (s : Ps) (b : List UInt8) : Fed :=
  if s.st = 5 then ⟨[], s, b, []⟩ else
  match h : step s b with
  | none => ⟨[], s, b, []⟩
  | some (o, s', r, ms) => (feed s' r).ahead o ms
termination_by b.length
decreasing_by exact step_len h
theorem feed_closed {s : Ps} (b : List UInt8) (h : s.st = 5) : feed s b = ⟨[], s, b, []⟩ := by
  rw [feed, if_pos h]
theorem feed_none {s : Ps} {b : List UInt8} (h : step s b = none) : feed s b = ⟨[], s, b, []⟩ := by
  rw [feed]
  split
  · rfl
  · split
    · rfl
    · rename_i h2
      rw [h] at h2
      cases h2
theorem feed_some {s : Ps} {b o r : List UInt8} {s' : Ps} {ms : List Pm} (h5 : s.st ≠ 5) (h : step s b = some (o, s', r, ms)) : feed s b = (feed s' r).ahead o ms := by
  rw [feed, if_neg h5]
  split
  · rename_i h2
    rw [h] at h2
    cases h2
  · rename_i h2
    rw [h] at h2
    cases h2
    rfl
theorem step_closed {s : Ps} {b o : List UInt8} {s' : Ps} {r : List UInt8} {ms : List Pm} (h : step s b = some (o, s', r, ms)) (h5 : s'.st = 5) : r = [] := by
  unfold step at h
  split at h
  · rw [Option.map_eq_some_iff] at h
    obtain ⟨⟨m', r'⟩, h2, h3⟩ := h
    cases h3
    cases h5
  · rw [Option.map_eq_some_iff] at h
    obtain ⟨⟨m', r'⟩, h2, h3⟩ := h
    cases h3
    dsimp only at h5
    rw [if_pos h5]
theorem stepP_app {s : Ps} {b o : List UInt8} {s' : Ps} {r : List UInt8} {ms : List Pm} (x : List UInt8) (h : step s b = some (o, s', r, ms)) : step s (b ++ x) = some (o, s', if s'.st = 5 then [] else r ++ x, ms) := by
  unfold step at h ⊢
  split at h
  · rename_i h4
    rw [if_pos h4]
    rw [Option.map_eq_some_iff] at h
    obtain ⟨⟨m', r'⟩, h2, h3⟩ := h
    cases h3
    rw [unst_app _ x (Nat.le_refl _) h2]
    rfl
  · rename_i h4
    rw [if_neg h4]
    rw [Option.map_eq_some_iff] at h
    obtain ⟨⟨m', r'⟩, h2, h3⟩ := h
    cases h3
    rw [cutE_app x h2]
    simp only [Option.map_some]
    by_cases h5 : (cmd s m').2.st = 5
    · simp [h5]
    · simp [h5]
/-- fed at once is fed one behind the other -/
theorem feed_app : ∀ (k : Nat) (s : Ps) (b x : List UInt8), b.length ≤ k → s.st ≠ 5 → feed s (b ++ x) = if (feed s b).s.st = 5 then feed s b else (feed (feed s b).s ((feed s b).left ++ x)).ahead (feed s b).out (feed s b).ms
  | k, s, b, x, hk, h5 => by
    cases hs : step s b with
    | none =>
      rw [feed_none hs]
      rw [if_neg h5]
      simp [Fed.ahead]
    | some p =>
      obtain ⟨o, s', r, ms⟩ := p
      have hl := step_len hs
      rw [feed_some h5 hs, feed_some h5 (stepP_app x hs)]
      by_cases h5' : s'.st = 5
      · rw [if_pos h5', step_closed hs h5', feed_closed _ h5']
        simp [Fed.ahead, h5']
      · rw [if_neg h5']
        cases k with
        | zero => omega
        | succ k =>
          rw [feed_app k s' r x (by omega) h5']
          by_cases h6 : (feed s' r).s.st = 5
          · rw [if_pos h6]
            simp [Fed.ahead, h6]
          · rw [if_neg h6]
            simp [Fed.ahead, h6]
theorem feed_closed_left : ∀ (k : Nat) (s : Ps) (b : List UInt8), b.length ≤ k → s.st ≠ 5 → (feed s b).s.st = 5 → (feed s b).left = []
  | k, s, b, hk, h5, h => by
    cases hs : step s b with
    | none => rw [feed_none hs] at h; exact absurd h h5
    | some p =>
      obtain ⟨o, s', r, ms⟩ := p
      have hl := step_len hs
      rw [feed_some h5 hs] at h ⊢
      by_cases h5' : s'.st = 5
      · rw [feed_closed _ h5']
        exact step_closed hs h5'
      · cases k with
        | zero => omega
        | succ k => exact feed_closed_left k s' r (by omega) h5' h
/-- some pieces, one behind the other -/
def feeds (f : Fed) : List (List UInt8) → Fed
  | [] => f
  | x :: l => feeds (if f.s.st = 5 then f else (feed f.s (f.left ++ x)).ahead f.out f.ms) l
theorem feeds_all : ∀ (l : List (List UInt8)) (s : Ps) (b : List UInt8), s.st ≠ 5 → feeds (feed s b) l = feed s (b ++ l.flatten) ∨ (feed s b).s.st = 5 ∧ feeds (feed s b) l = feed s b
  | [], s, b, h5 => .inl (by simp [feeds])
  | x :: l, s, b, h5 => by
    have h := feed_app _ s b x (Nat.le_refl _) h5
    unfold feeds
    by_cases h6 : (feed s b).s.st = 5
    · rw [if_pos h6]
      have ih := feeds_all l s b h5
      exact .inr ⟨h6, ih.elim (fun e => by
        rw [e, feed_app _ s b _ (Nat.le_refl _) h5, if_pos h6]) (fun e => e.2)⟩
    · rw [if_neg h6] at h ⊢
      rw [← h]
      have ih := feeds_all l s (b ++ x) h5
      rcases ih with e | ⟨e1, e2⟩
      · exact .inl (by rw [e]; simp)
      · refine .inl ?_
        rw [e2, List.flatten_cons, ← List.append_assoc, feed_app _ s (b ++ x) _ (Nat.le_refl _) h5, if_pos e1]
theorem feeds_eq (l : List (List UInt8)) (s : Ps) (h5 : s.st ≠ 5) : feeds (feed s []) l = feed s l.flatten := by
  rcases feeds_all l s [] h5 with h | ⟨h1, h2⟩
  · simpa using h
  · have := feed_app _ s [] l.flatten (Nat.le_refl _) h5
    rw [if_pos h1] at this
    simpa [h2] using this.symm
end Go.Proofs.YtddjabjloplhiaaGreatDoor
