/- Plain: rows of bytes with a boundary's lines between come back, whatever is ahead of the first line and behind the last one. -/
import Derived.Test.YtfdkcgdanhlfkaaGreatDoorC1
namespace Go.Proofs.YtfdkcgdanhlfkaaGreatDoor
set_option linter.unusedVariables false
set_option linter.unusedSimpArgs false

/-- a line that begins as a boundary's does -/
def dd (l : List UInt8) : Prop := l.take 2 = [45, 45]
theorem trimE_pre (l : List UInt8) : ∃ k, trimE l = l.take k := by
  have e := List.takeWhile_append_dropWhile (p := (([32, 9] : List UInt8).contains ·)) (l := l.reverse)
  have e2 := congrArg List.reverse e
  rw [List.reverse_append, List.reverse_reverse] at e2
  exact ⟨_, List.prefix_iff_eq_take.1 ⟨_, e2⟩⟩
theorem mk_no {bd l : List UInt8} (h : ¬ dd l) : mk bd l = 0 := by
  obtain ⟨k, hk⟩ := trimE_pre l
  refine mk_zero.2 ⟨fun e => h ?_, fun e => h ?_⟩
  all_goals
    rw [hk] at e
    rw [← List.take_append_drop k l, e]
    rfl
theorem trimE_id {l : List UInt8} {x : UInt8} (h : x ≠ 32 ∧ x ≠ 9) : trimE (l ++ [x]) = l ++ [x] := by
  unfold trimE Lib.trimRightS
  rw [List.reverse_append, List.reverse_singleton, List.singleton_append, List.dropWhile_cons_of_neg (by simp [h.1, h.2])]
  simp
theorem bdC_not {x : UInt8} (h : bdC x = true) : x ≠ 32 ∧ x ≠ 9 ∧ x ≠ 10 := by
  refine ⟨?_, ?_, ?_⟩ <;> (rintro rfl; revert h; decide)
theorem bd_last {bd : List UInt8} (h : bdOk bd = true) : ∃ m x, bd = m ++ [x] ∧ x ≠ 32 ∧ x ≠ 9 := by
  unfold bdOk at h
  simp only [Bool.and_eq_true, decide_eq_true_eq, List.all_eq_true] at h
  rcases List.eq_nil_or_concat bd with rfl | ⟨m, x, rfl⟩
  · simp at h
  · have := bdC_not (h.2 x (by simp))
    exact ⟨m, x, by simp, this.1, this.2.1⟩
theorem bd_no10 {bd : List UInt8} (h : bdOk bd = true) : ∀ x ∈ bd, x ≠ 10 := by
  unfold bdOk at h
  simp only [Bool.and_eq_true, decide_eq_true_eq, List.all_eq_true] at h
  exact fun x hx => (bdC_not (h.2 x hx)).2.2
theorem mk_first {bd : List UInt8} (h : bdOk bd = true) : mk bd ([45, 45] ++ bd) = 1 := by
  obtain ⟨m, x, rfl, hx⟩ := bd_last h
  rw [mk_one, ← List.append_assoc, trimE_id hx]
theorem mk_end (bd : List UInt8) : mk bd ([45, 45] ++ bd ++ [45, 45]) = 2 := by
  rw [mk_two, show [45, 45] ++ bd ++ [45, 45] = ([45, 45] ++ bd ++ [45]) ++ [45] by simp, trimE_id ⟨by decide, by decide⟩]

/-- the lines that have ended, and what of a line has begun -/
def lnB (cur : List UInt8) : List UInt8 → List (List UInt8 × List UInt8) × List UInt8
  | [] => ([], cur)
  | x :: r => if x = 10 then (endl cur :: (lnB [] r).1, (lnB [] r).2) else lnB (cur ++ [x]) r
theorem lnA_app : ∀ (p q cur : List UInt8), lnA cur (p ++ q) = (lnB cur p).1 ++ lnA (lnB cur p).2 q
  | [], q, cur => rfl
  | x :: p, q, cur => by
    rw [List.cons_append, lnA, lnB]
    split
    · rw [lnA_app p q []]
      rfl
    · rw [lnA_app p q (cur ++ [x])]
/-- lines with their ends as bytes -/
def flat (L : List (List UInt8 × List UInt8)) : List UInt8 := (L.map fun t => t.1 ++ t.2).flatten
theorem flat_cons (t : List UInt8 × List UInt8) (L : List (List UInt8 × List UInt8)) : flat (t :: L) = t.1 ++ t.2 ++ flat L := by simp [flat]
theorem lnB_flat : ∀ (p cur : List UInt8), flat (lnB cur p).1 ++ (lnB cur p).2 = cur ++ p
  | [], cur => by simp [lnB, flat]
  | x :: p, cur => by
    rw [lnB]
    split
    · rename_i h
      subst h
      rw [flat_cons, endl_app, List.append_assoc, lnB_flat p []]
      simp
    · rw [lnB_flat p (cur ++ [x])]
      simp
/-- none of the lines begins as a boundary's does -/
def okP (p : List UInt8) : Prop := ∀ t ∈ lns p, ¬ dd t.1
theorem ok_lnB {p : List UInt8} (h : okP p) : (∀ t ∈ (lnB [] p).1, ¬ dd t.1) ∧ ¬ dd (lnB [] p).2 := by
  have e := lnA_app p [] []
  rw [List.append_nil] at e
  unfold okP lns at h
  rw [e] at h
  refine ⟨fun t ht => h t (List.mem_append_left _ ht), ?_⟩
  by_cases h0 : (lnB [] p).2 = []
  · rw [h0]
    intro h2
    unfold dd at h2
    simp at h2
  · refine h ((lnB [] p).2, []) (List.mem_append_right _ ?_)
    rw [lnA, if_neg h0]
    simp
theorem body_run {bd : List UInt8} : ∀ (L R : List (List UInt8 × List UInt8)) (part pend : List UInt8) (out : List (List UInt8)), (∀ t ∈ L, ¬ dd t.1) →
    ∃ p1 p2, p1 ++ p2 = part ++ pend ++ flat L ∧ bodyP bd (L ++ R) part pend out = bodyP bd R p1 p2 out
  | [], R, part, pend, out, _ => ⟨part, pend, by simp [flat], rfl⟩
  | t :: L, R, part, pend, out, h => by
    obtain ⟨p1, p2, h1, h2⟩ := body_run (bd := bd) L R (part ++ pend ++ t.1) t.2 out fun u hu => h u (by simp [hu])
    refine ⟨p1, p2, ?_, ?_⟩
    · rw [h1, flat_cons]
      simp
    · rw [List.cons_append, bodyP, if_pos (mk_no (h t (by simp))), h2]
theorem endl_cr (c : List UInt8) : endl (c ++ [13]) = (c, [13, 10]) := by
  unfold endl
  rw [if_pos (by simp)]
  simp
theorem lnA_crlf (c rest : List UInt8) : lnA c ([13, 10] ++ rest) = (c, [13, 10]) :: lnA [] rest := by
  have h := lnA_hit [13] rest c (by simp)
  have e : endl (c ++ [13]) = (c, [13, 10]) := endl_cr c
  rw [e] at h
  exact h
theorem part_step {bd p rest : List UInt8} {out : List (List UInt8)} (h : okP p) : bodyP bd (lnA [] (p ++ ([13, 10] ++ rest))) [] [] out = bodyP bd (lnA [] rest) p [13, 10] out := by
  obtain ⟨h1, h2⟩ := ok_lnB h
  rw [lnA_app, lnA_crlf]
  obtain ⟨p1, p2, e1, e2⟩ := body_run (bd := bd) (lnB [] p).1 (((lnB [] p).2, [13, 10]) :: lnA [] rest) [] [] out h1
  rw [e2, bodyP, if_pos (mk_no h2), e1]
  have := lnB_flat p []
  simp only [List.nil_append] at this ⊢
  rw [this]
theorem line_first {bd rest : List UInt8} (h : bdOk bd = true) : lnA [] ([45, 45] ++ bd ++ ([13, 10] ++ rest)) = ([45, 45] ++ bd, [13, 10]) :: lnA [] rest := by
  have hno : ∀ x ∈ [45, 45] ++ bd ++ [13], x ≠ 10 := by
    intro x hx
    simp only [List.mem_append, List.mem_cons, List.mem_nil_iff, or_false] at hx
    rcases hx with ((rfl | rfl) | hx) | rfl
    · decide
    · decide
    · exact bd_no10 h x hx
    · decide
  have h2 := lnA_hit ([45, 45] ++ bd ++ [13]) rest [] hno
  have e : endl ([] ++ ([45, 45] ++ bd ++ [13])) = ([45, 45] ++ bd, [13, 10]) := endl_cr _
  rw [e] at h2
  rw [← h2]
  simp
theorem line_end {bd rest : List UInt8} (h : bdOk bd = true) : lnA [] ([45, 45] ++ bd ++ ([45, 45, 13, 10] ++ rest)) = ([45, 45] ++ bd ++ [45, 45], [13, 10]) :: lnA [] rest := by
  have hno : ∀ x ∈ [45, 45] ++ bd ++ [45, 45, 13], x ≠ 10 := by
    intro x hx
    simp only [List.mem_append, List.mem_cons, List.mem_nil_iff, or_false] at hx
    rcases hx with ((rfl | rfl) | hx) | (rfl | rfl | rfl)
    · decide
    · decide
    · exact bd_no10 h x hx
    · decide
    · decide
    · decide
  have h2 := lnA_hit ([45, 45] ++ bd ++ [45, 45, 13]) rest [] hno
  have e : endl ([] ++ ([45, 45] ++ bd ++ [45, 45, 13])) = ([45, 45] ++ bd ++ [45, 45], [13, 10]) := by
    rw [List.nil_append, show [45, 45] ++ bd ++ [45, 45, 13] = ([45, 45] ++ bd ++ [45, 45]) ++ [13] by simp]
    exact endl_cr _
  rw [e] at h2
  rw [← h2]
  simp
/-- rows, a boundary's line ahead of each -/
def bld (bd : List UInt8) : List (List UInt8) → List UInt8
  | [] => []
  | p :: r => [45, 45] ++ bd ++ ([13, 10] ++ (p ++ ([13, 10] ++ bld bd r)))
theorem body_parts {bd : List UInt8} (h : bdOk bd = true) (lb : List UInt8) : ∀ (ps : List (List UInt8)) (part : List UInt8) (out : List (List UInt8)), (∀ p ∈ ps, okP p) →
    bodyP bd (lnA [] (bld bd ps ++ ([45, 45] ++ bd ++ ([45, 45, 13, 10] ++ lb)))) part [13, 10] out = some (out ++ [part] ++ ps)
  | [], part, out, _ => by
    show bodyP bd (lnA [] ([] ++ ([45, 45] ++ bd ++ ([45, 45, 13, 10] ++ lb)))) part [13, 10] out = _
    rw [List.nil_append, line_end h, bodyP, if_neg (by rw [mk_end]; decide), if_neg (by rw [mk_end]; decide)]
    simp
  | p :: r, part, out, hp => by
    have e : bld bd (p :: r) ++ ([45, 45] ++ bd ++ ([45, 45, 13, 10] ++ lb)) = [45, 45] ++ bd ++ ([13, 10] ++ (p ++ ([13, 10] ++ (bld bd r ++ ([45, 45] ++ bd ++ ([45, 45, 13, 10] ++ lb)))))) := by
      rw [bld]
      simp
    rw [e, line_first h, bodyP, if_neg (by rw [mk_first h]; decide), if_pos (mk_first h), part_step (hp p (by simp)), body_parts h lb r p (out ++ [part]) fun q hq => hp q (by simp [hq])]
    simp
theorem endl_pre (c : List UInt8) : ∃ k, (endl c).1 = c.take k := by
  unfold endl
  split
  · exact ⟨_, List.dropLast_eq_take⟩
  · exact ⟨c.length, by simp⟩
theorem split_skip {bd : List UInt8} : ∀ (L R : List (List UInt8 × List UInt8)), (∀ t ∈ L, ¬ dd t.1) → splitP bd (L ++ R) = splitP bd R
  | [], _, _ => rfl
  | t :: L, R, h => by rw [List.cons_append, splitP, if_neg (by rw [mk_no (h t (by simp))]; decide), split_skip L R fun u hu => h u (by simp [hu])]
/-- the whole -/
def whole (la bd : List UInt8) (ps : List (List UInt8)) (lb : List UInt8) : List UInt8 := la ++ ([10] ++ (bld bd ps ++ ([45, 45] ++ bd ++ ([45, 45, 13, 10] ++ lb))))
theorem split_whole {la bd lb : List UInt8} {ps : List (List UInt8)} (h : bdOk bd = true) (h0 : ps ≠ []) (ha : okP la) (hp : ∀ p ∈ ps, okP p) : splitS (whole la bd ps lb) bd = (ps, 0) := by
  have e : splitP bd (lns (whole la bd ps lb)) = some ps := by
    obtain ⟨h1, h2⟩ := ok_lnB ha
    unfold whole lns
    rw [lnA_app]
    have e1 : lnA (lnB [] la).2 ([10] ++ (bld bd ps ++ ([45, 45] ++ bd ++ ([45, 45, 13, 10] ++ lb)))) = endl (lnB [] la).2 :: lnA [] (bld bd ps ++ ([45, 45] ++ bd ++ ([45, 45, 13, 10] ++ lb))) := by
      have h3 := lnA_hit [] (bld bd ps ++ ([45, 45] ++ bd ++ ([45, 45, 13, 10] ++ lb))) (lnB [] la).2 (by simp)
      rw [List.append_nil] at h3
      exact h3
    have h3 : ¬ dd (endl (lnB [] la).2).1 := by
      obtain ⟨k, hk⟩ := endl_pre (lnB [] la).2
      rw [hk]
      intro h4
      apply h2
      unfold dd at h4 ⊢
      rw [← List.take_append_drop k (lnB [] la).2]
      rw [List.take_append_of_le_length]
      · exact h4
      · have := congrArg List.length h4
        rw [List.length_take] at this
        simp at this ⊢
        omega
    rw [e1, split_skip _ _ h1, splitP, if_neg (by rw [mk_no h3]; decide)]
    cases ps with
    | nil => exact absurd rfl h0
    | cons p r =>
      have e2 : bld bd (p :: r) ++ ([45, 45] ++ bd ++ ([45, 45, 13, 10] ++ lb)) = [45, 45] ++ bd ++ ([13, 10] ++ (p ++ ([13, 10] ++ (bld bd r ++ ([45, 45] ++ bd ++ ([45, 45, 13, 10] ++ lb)))))) := by
        rw [bld]
        simp
      rw [e2, line_first h, splitP, if_pos (mk_first h), part_step (hp p (by simp)), body_parts h lb r p [] fun q hq => hp q (by simp [hq])]
      rfl
  unfold splitS
  rw [if_pos h, e]
/-- one row more -/
theorem bld_snoc (bd : List UInt8) : ∀ (ps : List (List UInt8)) (p : List UInt8), bld bd (ps ++ [p]) = bld bd ps ++ ([45, 45] ++ bd ++ [13, 10]) ++ p ++ [13, 10]
  | [], p => by simp [bld]
  | q :: r, p => by
    rw [List.cons_append, bld, bld, bld_snoc bd r p]
    simp
theorem bld_len (bd : List UInt8) : ∀ (ps : List (List UInt8)), (∀ p ∈ ps, p.length ≤ 500) → (bld bd ps).length ≤ ps.length * (bd.length + 506)
  | [], _ => by simp [bld]
  | q :: r, h => by
    have := bld_len bd r fun p hp => h p (by simp [hp])
    have := h q (by simp)
    rw [bld]
    simp only [List.length_append, List.length_cons, List.length_nil, Nat.add_mul]
    omega
end Go.Proofs.YtfdkcgdanhlfkaaGreatDoor
