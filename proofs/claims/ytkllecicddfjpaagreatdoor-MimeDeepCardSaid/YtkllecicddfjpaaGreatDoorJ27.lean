/- Plain: lines with their ends; which lines are a boundary's; what stands between these. · Plain: rows of bytes with a boundary's lines between come back, whatever is ahead of the first line and behind the last one. · letter's Get and All. -/
import Derived.Test.YtkllecicddfjpaaGreatDoorJ01
import Derived.Lib.SlTrimSet
import Derived.Test.YtkllecicddfjpaaGreatDoorJ21
namespace Go.Proofs.YtkllecicddfjpaaGreatDoor
set_option linter.unusedVariables false
set_option linter.unusedSimpArgs false

/-- a line's end is taken off -/
def endl (c : List UInt8) : List UInt8 × List UInt8 := if c.getLast? = some 13 then (c.dropLast, [13, 10]) else (c, [10])
/-- the lines, and their ends, behind what of a line has begun -/
def lnA (cur : List UInt8) : List UInt8 → List (List UInt8 × List UInt8)
  | [] => if cur = [] then [] else [(cur, [])]
  | x :: r => if x = 10 then endl cur :: lnA [] r else lnA (cur ++ [x]) r
/-- the lines of bytes, and their ends -/
def lns (b : List UInt8) : List (List UInt8 × List UInt8) := lnA [] b
theorem lnA_hit : ∀ (p q cur : List UInt8), (∀ x ∈ p, x ≠ 10) → lnA cur (p ++ 10 :: q) = endl (cur ++ p) :: lnA [] q
  | [], q, cur, _ => by simp [lnA]
  | x :: p, q, cur, h => by
    have hx : x ≠ 10 := h x (by simp)
    rw [List.cons_append, lnA, if_neg hx, lnA_hit p q (cur ++ [x]) (fun y hy => h y (by simp [hy]))]
    simp
theorem lnA_end : ∀ (p cur : List UInt8), (∀ x ∈ p, x ≠ 10) → lnA cur p = if cur ++ p = [] then [] else [(cur ++ p, [])]
  | [], cur, _ => by simp [lnA]
  | x :: p, cur, h => by
    have hx : x ≠ 10 := h x (by simp)
    rw [lnA, if_neg hx, lnA_end p (cur ++ [x]) (fun y hy => h y (by simp [hy]))]
    simp
theorem snoc_of {c : List UInt8} {x : UInt8} (h : c.getLast? = some x) : ∃ d, c = d ++ [x] := by
  rcases List.eq_nil_or_concat c with rfl | ⟨d, y, rfl⟩
  · simp at h
  · simp at h
    exact ⟨d, by rw [h]; simp⟩
theorem endl_app (c : List UInt8) : (endl c).1 ++ (endl c).2 = c ++ [10] := by
  unfold endl
  split
  · rename_i h
    obtain ⟨d, rfl⟩ := snoc_of h
    simp
  · rfl
theorem endl_len (c : List UInt8) : (endl c).1.length + (endl c).2.length = c.length + 1 := by
  have := congrArg List.length (endl_app c)
  simpa using this

/-- what stands from i up to j -/
def seg (b : List UInt8) (i j : Nat) : List UInt8 := (b.drop i).take (j - i)
theorem seg_len {b : List UInt8} {i j : Nat} (hj : j ≤ b.length) : (seg b i j).length = j - i := by unfold seg; simp; omega
theorem seg_self (b : List UInt8) (i : Nat) : seg b i i = [] := by simp [seg]
theorem seg_app {b : List UInt8} {i j k : Nat} (h1 : i ≤ j) (h2 : j ≤ k) : seg b i j ++ seg b j k = seg b i k := by
  unfold seg
  have e : k - i = (j - i) + (k - j) := by omega
  rw [e, List.take_add, List.drop_drop]
  congr 2
  congr 1
  omega

/-- a line of b that begins at 'at' -/
structure TrOk (b : List UInt8) (at_ : Nat) (t : Nat × Nat × Nat) : Prop where
  fr : t.1 = at_
  lo : t.1 ≤ t.2.1
  hi : t.2.1 ≤ t.2.2
  up : at_ < t.2.2
  le : t.2.2 ≤ b.length
  ln : lns (b.drop at_) = (seg b t.1 t.2.1, seg b t.2.1 t.2.2) :: lns (b.drop t.2.2)
/-- where the next line begins -/
def trEnd (ys : List (Nat × Nat × Nat)) : Nat := (ys.getLast?.map (·.2.2)).getD 0
@[simp] theorem trEnd_nil : trEnd [] = 0 := rfl
@[simp] theorem trEnd_snoc (ys : List (Nat × Nat × Nat)) (t : Nat × Nat × Nat) : trEnd (ys ++ [t]) = t.2.2 := by simp [trEnd]

theorem seg_split {b : List UInt8} {at_ n : Nat} (h : at_ + n < b.length) (h10 : b[at_ + n]? = some 10) : b.drop at_ = seg b at_ (at_ + n) ++ 10 :: b.drop (at_ + n + 1) := by
  have e1 : b.drop at_ = (b.drop at_).take n ++ (b.drop at_).drop n := (List.take_append_drop _ _).symm
  rw [List.drop_drop] at e1
  rw [e1]
  have e2 : at_ + n - at_ = n := by omega
  unfold seg
  rw [e2]
  congr 1
  rw [← List.getElem_cons_drop h]
  rw [List.getElem?_eq_getElem h] at h10
  rw [Option.some.inj h10]
theorem tr_last {b : List UInt8} {at_ : Nat} (h : at_ < b.length) (hno : ∀ x ∈ b.drop at_, x ≠ 10) : TrOk b at_ (at_, b.length, b.length) := by
  refine ⟨rfl, by simp; omega, Nat.le_refl _, h, Nat.le_refl _, ?_⟩
  simp only
  unfold lns
  rw [lnA_end _ _ hno]
  have h1 : b.drop at_ ≠ [] := fun e => by have := congrArg List.length e; simp at this; omega
  rw [List.nil_append, if_neg h1, seg_self, List.drop_length]
  unfold seg
  rw [List.take_of_length_le (by simp)]
  rfl
theorem tr_hit {b : List UInt8} {at_ n : Nat} (h : at_ + n < b.length) (h10 : b[at_ + n]? = some 10) (hno : ∀ x ∈ seg b at_ (at_ + n), x ≠ 10) (hcr : n = 0 ∨ b[at_ + n - 1]? ≠ some 13) : TrOk b at_ (at_, at_ + n, at_ + n + 1) := by
  refine ⟨rfl, by simp, by simp, by simp; omega, by simp; omega, ?_⟩
  simp only
  have e : seg b (at_ + n) (at_ + n + 1) = [10] := by
    have h3 : at_ + n + 1 - (at_ + n) = 1 := by omega
    unfold seg
    rw [h3, ← List.getElem_cons_drop h]
    rw [List.getElem?_eq_getElem h] at h10
    rw [Option.some.inj h10]
    rfl
  unfold lns
  rw [seg_split h h10, lnA_hit _ _ _ hno, List.nil_append, e]
  congr 1
  unfold endl
  rw [if_neg]
  intro hl
  rw [List.getLast?_eq_getElem?, seg_len (by omega)] at hl
  rcases hcr with h0 | h0
  · subst h0
    simp [seg] at hl
  · apply h0
    rw [← hl]
    by_cases hn : n = 0
    · subst hn
      simp [seg] at hl
    · unfold seg
      rw [List.getElem?_take, if_pos (by omega), List.getElem?_drop]
      congr 1
      omega
theorem tr_cr {b : List UInt8} {at_ n : Nat} (h : at_ + n < b.length) (h10 : b[at_ + n]? = some 10) (hno : ∀ x ∈ seg b at_ (at_ + n), x ≠ 10) (hn : 0 < n) (hcr : b[at_ + n - 1]? = some 13) : TrOk b at_ (at_, at_ + n - 1, at_ + n + 1) := by
  refine ⟨rfl, by simp; omega, by simp; omega, by simp; omega, by simp; omega, ?_⟩
  simp only
  have hlen : (seg b at_ (at_ + n)).length = n := by rw [seg_len (by omega)]; omega
  have hl : (seg b at_ (at_ + n)).getLast? = some 13 := by
    rw [List.getLast?_eq_getElem?, hlen]
    unfold seg
    rw [List.getElem?_take, if_pos (by omega), List.getElem?_drop, ← hcr]
    congr 1
    omega
  have hcr2 : at_ + n - 1 < b.length := by omega
  have e : seg b (at_ + n - 1) (at_ + n + 1) = [13, 10] := by
    have h3 : at_ + n + 1 - (at_ + n - 1) = 2 := by omega
    have h4 : at_ + n - 1 + 1 = at_ + n := by omega
    unfold seg
    rw [h3, ← List.getElem_cons_drop hcr2, h4, ← List.getElem_cons_drop h]
    rw [List.getElem?_eq_getElem h] at h10
    rw [List.getElem?_eq_getElem hcr2] at hcr
    rw [Option.some.inj h10, Option.some.inj hcr]
    rfl
  unfold lns
  rw [seg_split h h10, lnA_hit _ _ _ hno, List.nil_append, e]
  congr 1
  unfold endl
  rw [if_pos hl]
  congr 1
  unfold seg
  rw [List.dropLast_eq_take, List.take_take, List.length_take, List.length_drop]
  congr 1
  omega

/-- without the blanks behind -/
def trimE (l : List UInt8) : List UInt8 := Lib.trimRightS l [32, 9]
/-- a boundary's line (1), its last line (2), or none (0) -/
def mk (bd l : List UInt8) : Nat := if trimE l = [45, 45] ++ bd then 1 else if trimE l = [45, 45] ++ bd ++ [45, 45] then 2 else 0
theorem mk_le (bd l : List UInt8) : mk bd l ≤ 2 := by
  unfold mk
  split
  · omega
  · split <;> omega
theorem mk_one {bd l : List UInt8} : mk bd l = 1 ↔ trimE l = [45, 45] ++ bd := by
  unfold mk
  split
  · simp_all
  · split <;> simp_all
theorem mk_two {bd l : List UInt8} : mk bd l = 2 ↔ trimE l = [45, 45] ++ bd ++ [45, 45] := by
  unfold mk
  split
  · rename_i h
    rw [h]
    simp
  · split <;> simp_all
theorem mk_zero {bd l : List UInt8} : mk bd l = 0 ↔ trimE l ≠ [45, 45] ++ bd ∧ trimE l ≠ [45, 45] ++ bd ++ [45, 45] := by
  unfold mk
  split
  · simp_all
  · split <;> simp_all
/-- what stands in a part, and behind -/
def bodyP (bd : List UInt8) : List (List UInt8 × List UInt8) → List UInt8 → List UInt8 → List (List UInt8) → Option (List (List UInt8))
  | [], _, _, _ => none
  | p :: r, part, pend, out => if mk bd p.1 = 0 then bodyP bd r (part ++ pend ++ p.1) p.2 out else if mk bd p.1 = 1 then bodyP bd r [] [] (out ++ [part]) else some (out ++ [part])
/-- what stands between a boundary's lines -/
def splitP (bd : List UInt8) : List (List UInt8 × List UInt8) → Option (List (List UInt8))
  | [] => none
  | p :: r => if mk bd p.1 = 1 then bodyP bd r [] [] [] else splitP bd r
/-- a letter, a digit or one of these signs -/
def bdC (c : UInt8) : Bool := (97 ≤ c && c ≤ 122) || (65 ≤ c && c ≤ 90) || (48 ≤ c && c ≤ 57) || ([39, 40, 41, 43, 95, 44, 45, 46, 47, 58, 61, 63] : List UInt8).contains c
/-- whether a text may be a boundary -/
def bdOk (s : List UInt8) : Bool := decide (1 ≤ s.length) && decide (s.length ≤ 70) && s.all bdC
/-- what Split tells: none where the boundary may not be, or nothing stands between -/
def splitS (b bd : List UInt8) : List (List UInt8) × Int := if bdOk bd = true then (match splitP bd (lns b) with | some l => (l, 0) | none => ([], 3)) else ([], 1)
end Go.Proofs.YtkllecicddfjpaaGreatDoor

namespace Go.Proofs.YtkllecicddfjpaaGreatDoor
set_option linter.unusedVariables false
set_option linter.unusedSimpArgs false

/-- a line that begins as a boundary's does -/
def dd (l : List UInt8) : Prop := l.take 2 = [45, 45]
theorem trimE_pre (l : List UInt8) : ∃ k, trimE l = l.take k := by
  have e := List.takeWhile_append_dropWhile (p := (([32, 9] : List UInt8).contains ·)) (l := l.reverse)
  have e2 := congrArg List.reverse e
  rw [List.reverse_append, List.reverse_reverse] at e2
  exact ⟨_, List.prefix_iff_eq_take.1 ⟨_, e2⟩⟩
theorem mk_no {bd l : List UInt8} (h : ¬ dd l) : mk bd l = 0 := by
  obtain ⟨k, hk⟩ := trimE_pre l
  refine mk_zero.2 ⟨fun e => h ?_, fun e => h ?_⟩
  all_goals
    rw [hk] at e
    rw [← List.take_append_drop k l, e]
    rfl
theorem trimE_id {l : List UInt8} {x : UInt8} (h : x ≠ 32 ∧ x ≠ 9) : trimE (l ++ [x]) = l ++ [x] := by
  unfold trimE Lib.trimRightS
  rw [List.reverse_append, List.reverse_singleton, List.singleton_append, List.dropWhile_cons_of_neg (by simp [h.1, h.2])]
  simp
theorem bdC_not {x : UInt8} (h : bdC x = true) : x ≠ 32 ∧ x ≠ 9 ∧ x ≠ 10 := by
  refine ⟨?_, ?_, ?_⟩ <;> (rintro rfl; revert h; decide)
theorem bd_last {bd : List UInt8} (h : bdOk bd = true) : ∃ m x, bd = m ++ [x] ∧ x ≠ 32 ∧ x ≠ 9 := by
  unfold bdOk at h
  simp only [Bool.and_eq_true, decide_eq_true_eq, List.all_eq_true] at h
  rcases List.eq_nil_or_concat bd with rfl | ⟨m, x, rfl⟩
  · simp at h
  · have := bdC_not (h.2 x (by simp))
    exact ⟨m, x, by simp, this.1, this.2.1⟩
theorem bd_no10 {bd : List UInt8} (h : bdOk bd = true) : ∀ x ∈ bd, x ≠ 10 := by
  unfold bdOk at h
  simp only [Bool.and_eq_true, decide_eq_true_eq, List.all_eq_true] at h
  exact fun x hx => (bdC_not (h.2 x hx)).2.2
theorem mk_first {bd : List UInt8} (h : bdOk bd = true) : mk bd ([45, 45] ++ bd) = 1 := by
  obtain ⟨m, x, rfl, hx⟩ := bd_last h
  rw [mk_one, ← List.append_assoc, trimE_id hx]
theorem mk_end (bd : List UInt8) : mk bd ([45, 45] ++ bd ++ [45, 45]) = 2 := by
  rw [mk_two, show [45, 45] ++ bd ++ [45, 45] = ([45, 45] ++ bd ++ [45]) ++ [45] by simp, trimE_id ⟨by decide, by decide⟩]

/-- the lines that have ended, and what of a line has begun -/
def lnB (cur : List UInt8) : List UInt8 → List (List UInt8 × List UInt8) × List UInt8
  | [] => ([], cur)
  | x :: r => if x = 10 then (endl cur :: (lnB [] r).1, (lnB [] r).2) else lnB (cur ++ [x]) r
theorem lnA_app : ∀ (p q cur : List UInt8), lnA cur (p ++ q) = (lnB cur p).1 ++ lnA (lnB cur p).2 q
  | [], q, cur => rfl
  | x :: p, q, cur => by
    rw [List.cons_append, lnA, lnB]
    split
    · rw [lnA_app p q []]
      rfl
    · rw [lnA_app p q (cur ++ [x])]
/-- lines with their ends as bytes -/
def flat (L : List (List UInt8 × List UInt8)) : List UInt8 := (L.map fun t => t.1 ++ t.2).flatten
theorem flat_cons (t : List UInt8 × List UInt8) (L : List (List UInt8 × List UInt8)) : flat (t :: L) = t.1 ++ t.2 ++ flat L := by simp [flat]
theorem lnB_flat : ∀ (p cur : List UInt8), flat (lnB cur p).1 ++ (lnB cur p).2 = cur ++ p
  | [], cur => by simp [lnB, flat]
  | x :: p, cur => by
    rw [lnB]
    split
    · rename_i h
      subst h
      rw [flat_cons, endl_app, List.append_assoc, lnB_flat p []]
      simp
    · rw [lnB_flat p (cur ++ [x])]
      simp
/-- none of the lines begins as a boundary's does -/
def okP (p : List UInt8) : Prop := ∀ t ∈ lns p, ¬ dd t.1
theorem ok_lnB {p : List UInt8} (h : okP p) : (∀ t ∈ (lnB [] p).1, ¬ dd t.1) ∧ ¬ dd (lnB [] p).2 := by
  have e := lnA_app p [] []
  rw [List.append_nil] at e
  unfold okP lns at h
  rw [e] at h
  refine ⟨fun t ht => h t (List.mem_append_left _ ht), ?_⟩
  by_cases h0 : (lnB [] p).2 = []
  · rw [h0]
    intro h2
    unfold dd at h2
    simp at h2
  · refine h ((lnB [] p).2, []) (List.mem_append_right _ ?_)
    rw [lnA, if_neg h0]
    simp
theorem body_run {bd : List UInt8} : ∀ (L R : List (List UInt8 × List UInt8)) (part pend : List UInt8) (out : List (List UInt8)), (∀ t ∈ L, ¬ dd t.1) →
    ∃ p1 p2, p1 ++ p2 = part ++ pend ++ flat L ∧ bodyP bd (L ++ R) part pend out = bodyP bd R p1 p2 out
  | [], R, part, pend, out, _ => ⟨part, pend, by simp [flat], rfl⟩
  | t :: L, R, part, pend, out, h => by
    obtain ⟨p1, p2, h1, h2⟩ := body_run (bd := bd) L R (part ++ pend ++ t.1) t.2 out fun u hu => h u (by simp [hu])
    refine ⟨p1, p2, ?_, ?_⟩
    · rw [h1, flat_cons]
      simp
    · rw [List.cons_append, bodyP, if_pos (mk_no (h t (by simp))), h2]
theorem endl_cr (c : List UInt8) : endl (c ++ [13]) = (c, [13, 10]) := by
  unfold endl
  rw [if_pos (by simp)]
  simp
theorem lnA_crlf (c rest : List UInt8) : lnA c ([13, 10] ++ rest) = (c, [13, 10]) :: lnA [] rest := by
  have h := lnA_hit [13] rest c (by simp)
  have e : endl (c ++ [13]) = (c, [13, 10]) := endl_cr c
  rw [e] at h
  exact h
theorem part_step {bd p rest : List UInt8} {out : List (List UInt8)} (h : okP p) : bodyP bd (lnA [] (p ++ ([13, 10] ++ rest))) [] [] out = bodyP bd (lnA [] rest) p [13, 10] out := by
  obtain ⟨h1, h2⟩ := ok_lnB h
  rw [lnA_app, lnA_crlf]
  obtain ⟨p1, p2, e1, e2⟩ := body_run (bd := bd) (lnB [] p).1 (((lnB [] p).2, [13, 10]) :: lnA [] rest) [] [] out h1
  rw [e2, bodyP, if_pos (mk_no h2), e1]
  have := lnB_flat p []
  simp only [List.nil_append] at this ⊢
  rw [this]
theorem line_first {bd rest : List UInt8} (h : bdOk bd = true) : lnA [] ([45, 45] ++ bd ++ ([13, 10] ++ rest)) = ([45, 45] ++ bd, [13, 10]) :: lnA [] rest := by
  have hno : ∀ x ∈ [45, 45] ++ bd ++ [13], x ≠ 10 := by
    intro x hx
    simp only [List.mem_append, List.mem_cons, List.mem_nil_iff, or_false] at hx
    rcases hx with ((rfl | rfl) | hx) | rfl
    · decide
    · decide
    · exact bd_no10 h x hx
    · decide
  have h2 := lnA_hit ([45, 45] ++ bd ++ [13]) rest [] hno
  have e : endl ([] ++ ([45, 45] ++ bd ++ [13])) = ([45, 45] ++ bd, [13, 10]) := endl_cr _
  rw [e] at h2
  rw [← h2]
  simp
theorem line_end {bd rest : List UInt8} (h : bdOk bd = true) : lnA [] ([45, 45] ++ bd ++ ([45, 45, 13, 10] ++ rest)) = ([45, 45] ++ bd ++ [45, 45], [13, 10]) :: lnA [] rest := by
  have hno : ∀ x ∈ [45, 45] ++ bd ++ [45, 45, 13], x ≠ 10 := by
    intro x hx
    simp only [List.mem_append, List.mem_cons, List.mem_nil_iff, or_false] at hx
    rcases hx with ((rfl | rfl) | hx) | (rfl | rfl | rfl)
    · decide
    · decide
    · exact bd_no10 h x hx
    · decide
    · decide
    · decide
  have h2 := lnA_hit ([45, 45] ++ bd ++ [45, 45, 13]) rest [] hno
  have e : endl ([] ++ ([45, 45] ++ bd ++ [45, 45, 13])) = ([45, 45] ++ bd ++ [45, 45], [13, 10]) := by
    rw [List.nil_append, show [45, 45] ++ bd ++ [45, 45, 13] = ([45, 45] ++ bd ++ [45, 45]) ++ [13] by simp]
    exact endl_cr _
  rw [e] at h2
  rw [← h2]
  simp
/-- rows, a boundary's line ahead of each -/
def bld (bd : List UInt8) : List (List UInt8) → List UInt8
  | [] => []
  | p :: r => [45, 45] ++ bd ++ ([13, 10] ++ (p ++ ([13, 10] ++ bld bd r)))
theorem body_parts {bd : List UInt8} (h : bdOk bd = true) (lb : List UInt8) : ∀ (ps : List (List UInt8)) (part : List UInt8) (out : List (List UInt8)), (∀ p ∈ ps, okP p) →
    bodyP bd (lnA [] (bld bd ps ++ ([45, 45] ++ bd ++ ([45, 45, 13, 10] ++ lb)))) part [13, 10] out = some (out ++ [part] ++ ps)
  | [], part, out, _ => by
    show bodyP bd (lnA [] ([] ++ ([45, 45] ++ bd ++ ([45, 45, 13, 10] ++ lb)))) part [13, 10] out = _
    rw [List.nil_append, line_end h, bodyP, if_neg (by rw [mk_end]; decide), if_neg (by rw [mk_end]; decide)]
    simp
  | p :: r, part, out, hp => by
    have e : bld bd (p :: r) ++ ([45, 45] ++ bd ++ ([45, 45, 13, 10] ++ lb)) = [45, 45] ++ bd ++ ([13, 10] ++ (p ++ ([13, 10] ++ (bld bd r ++ ([45, 45] ++ bd ++ ([45, 45, 13, 10] ++ lb)))))) := by
      rw [bld]
      simp
    rw [e, line_first h, bodyP, if_neg (by rw [mk_first h]; decide), if_pos (mk_first h), part_step (hp p (by simp)), body_parts h lb r p (out ++ [part]) fun q hq => hp q (by simp [hq])]
    simp
theorem endl_pre (c : List UInt8) : ∃ k, (endl c).1 = c.take k := by
  unfold endl
  split
  · exact ⟨_, List.dropLast_eq_take⟩
  · exact ⟨c.length, by simp⟩
theorem split_skip {bd : List UInt8} : ∀ (L R : List (List UInt8 × List UInt8)), (∀ t ∈ L, ¬ dd t.1) → splitP bd (L ++ R) = splitP bd R
  | [], _, _ => rfl
  | t :: L, R, h => by rw [List.cons_append, splitP, if_neg (by rw [mk_no (h t (by simp))]; decide), split_skip L R fun u hu => h u (by simp [hu])]
/-- the whole -/
def whole (la bd : List UInt8) (ps : List (List UInt8)) (lb : List UInt8) : List UInt8 := la ++ ([10] ++ (bld bd ps ++ ([45, 45] ++ bd ++ ([45, 45, 13, 10] ++ lb))))
theorem split_whole {la bd lb : List UInt8} {ps : List (List UInt8)} (h : bdOk bd = true) (h0 : ps ≠ []) (ha : okP la) (hp : ∀ p ∈ ps, okP p) : splitS (whole la bd ps lb) bd = (ps, 0) := by
  have e : splitP bd (lns (whole la bd ps lb)) = some ps := by
    obtain ⟨h1, h2⟩ := ok_lnB ha
    unfold whole lns
    rw [lnA_app]
    have e1 : lnA (lnB [] la).2 ([10] ++ (bld bd ps ++ ([45, 45] ++ bd ++ ([45, 45, 13, 10] ++ lb)))) = endl (lnB [] la).2 :: lnA [] (bld bd ps ++ ([45, 45] ++ bd ++ ([45, 45, 13, 10] ++ lb))) := by
      have h3 := lnA_hit [] (bld bd ps ++ ([45, 45] ++ bd ++ ([45, 45, 13, 10] ++ lb))) (lnB [] la).2 (by simp)
      rw [List.append_nil] at h3
      exact h3
    have h3 : ¬ dd (endl (lnB [] la).2).1 := by
      obtain ⟨k, hk⟩ := endl_pre (lnB [] la).2
      rw [hk]
      intro h4
      apply h2
      unfold dd at h4 ⊢
      rw [← List.take_append_drop k (lnB [] la).2]
      rw [List.take_append_of_le_length]
      · exact h4
      · have := congrArg List.length h4
        rw [List.length_take] at this
        simp at this ⊢
        omega
    rw [e1, split_skip _ _ h1, splitP, if_neg (by rw [mk_no h3]; decide)]
    cases ps with
    | nil => exact absurd rfl h0
    | cons p r =>
      have e2 : bld bd (p :: r) ++ ([45, 45] ++ bd ++ ([45, 45, 13, 10] ++ lb)) = [45, 45] ++ bd ++ ([13, 10] ++ (p ++ ([13, 10] ++ (bld bd r ++ ([45, 45] ++ bd ++ ([45, 45, 13, 10] ++ lb)))))) := by
        rw [bld]
        simp
      rw [e2, line_first h, splitP, if_pos (mk_first h), part_step (hp p (by simp)), body_parts h lb r p [] fun q hq => hp q (by simp [hq])]
      rfl
  unfold splitS
  rw [if_pos h, e]
/-- one row more -/
theorem bld_snoc (bd : List UInt8) : ∀ (ps : List (List UInt8)) (p : List UInt8), bld bd (ps ++ [p]) = bld bd ps ++ ([45, 45] ++ bd ++ [13, 10]) ++ p ++ [13, 10]
  | [], p => by simp [bld]
  | q :: r, p => by
    rw [List.cons_append, bld, bld, bld_snoc bd r p]
    simp
theorem bld_len (bd : List UInt8) : ∀ (ps : List (List UInt8)), (∀ p ∈ ps, p.length ≤ 500) → (bld bd ps).length ≤ ps.length * (bd.length + 506)
  | [], _ => by simp [bld]
  | q :: r, h => by
    have := bld_len bd r fun p hp => h p (by simp [hp])
    have := h q (by simp)
    rw [bld]
    simp only [List.length_append, List.length_cons, List.length_nil, Nat.add_mul]
    omega
end Go.Proofs.YtkllecicddfjpaaGreatDoor

namespace Go.Proofs.YtkllecicddfjpaaGreatDoor
namespace Fd
set_option linter.unusedVariables false
set_option linter.unusedSimpArgs false
open Go.RowKit

/-- the values of a name's fields -/
def valsN (nm : List UInt8) (fs : List (List UInt8 × List UInt8)) : List (List UInt8) := (fs.filter fun p => sameN p.1 nm).map Prod.snd
theorem valsN_snoc (nm : List UInt8) (fs : List (List UInt8 × List UInt8)) (p : List UInt8 × List UInt8) : valsN nm (fs ++ [p]) = valsN nm fs ++ (if sameN p.1 nm then [p.2] else []) := by
  unfold valsN
  rw [List.filter_append]
  cases h : sameN p.1 nm <;> simp [h]
theorem valsN_len (nm : List UInt8) (fs : List (List UInt8 × List UInt8)) : (valsN nm fs).length ≤ fs.length := by
  unfold valsN
  rw [List.length_map]
  exact List.length_filter_le _ _
theorem valsN_none {nm : List UInt8} {fs : List (List UInt8 × List UInt8)} (h : ahead nm fs = fs.length) : valsN nm fs = [] := by
  have h1 := keepF_none h
  unfold valsN keepF at *
  rw [List.map_eq_nil_iff, List.filter_eq_nil_iff]
  intro p hp
  rw [List.filter_eq_self] at h1
  have := h1 p hp
  simpa using this
theorem valsN_head {nm : List UInt8} : ∀ {fs : List (List UInt8 × List UInt8)} {p : List UInt8 × List UInt8}, fs[ahead nm fs]? = some p → (valsN nm fs).head? = some p.2
  | [], _, h => by simp at h
  | q :: fs, p, h => by
    cases hq : sameN q.1 nm with
    | true =>
      have e : ahead nm (q :: fs) = 0 := by simp [ahead, hq]
      rw [e] at h
      simp at h
      subst h
      simp [valsN, hq]
    | false =>
      have e : ahead nm (q :: fs) = ahead nm fs + 1 := by simp [ahead, List.takeWhile_cons, hq]
      rw [e] at h
      have := valsN_head (fs := fs) (p := p) (by simpa using h)
      unfold valsN at *
      rw [List.filter_cons_of_neg (by simp [hq])]
      exact this

/-- what Get answers -/
def GetOut (nm : List UInt8) (fs : List (List UInt8 × List UInt8)) (e : Ending) : Prop :=
  match (valsN nm fs).head? with
  | some v => e = .returned (.tuple #[.string (bs v), .bool true])
  | none => e = .returned (.tuple #[.string (bs []), .bool false])

set_option maxRecDepth 100000 in
set_option maxHeartbeats 2000000 in
theorem get_any (A A2 : Option Addr) (fs : List (List UInt8 × List UInt8)) (nm : List UInt8) (n c n2 c2 : Nat) (w : World) (hn : fs.length = n) (hA : Rf w A fs)
    (hT : Lib.Utf8Tabs 2 3 w) (hnm : nm.length ≤ 1000000000) (hb : n ≤ 1000000) :
    Calls Tryz.prog 43 #[.agg #[.slice A n c, .slice A2 n2 c2], .string (bs nm)] w fun e w' => GetOut nm fs e ∧ Below w.heap.size w w' := by
  have HN := Lib.hid hn
  clear hn
  go_enter Tryz.func43, Tryz.ntmps43
  go_wp2_with fail
  have hB0 : Below w.heap.size w (w.alloc (.cells #[.slice A n c, .slice A2 n2 c2] 39)) := (Below.refl _ _).alloc (Nat.le_refl _) _
  have r0 : Row (w.alloc (.cells #[.slice A n c, .slice A2 n2 c2] 39)) w.heap.size 39 [.slice A n c, .slice A2 n2 c2] := Row.new w #[.slice A n c, .slice A2 n2 c2] 39
  have hs0 : w.heap.size + 1 ≤ (w.alloc (.cells #[.slice A n c, .slice A2 n2 c2] 39)).heap.size := by simp
  generalize w.alloc (.cells #[.slice A n c, .slice A2 n2 c2] 39) = W0 at *
  have c00 : W0.cell? ⟨w.heap.size, 0, none⟩ = some (.slice A n c) := r0.cell rfl
  have hD0 : Below W0.heap.size W0 (W0.drew.alloc (.cells #[.string (bs nm)] 9)) := ((Below.refl _ W0).drew).alloc (Nat.le_refl _) _
  have hB1 := hB0.trans (hD0.mono hB0.size)
  have hix := index_any A fs n c W0.heap.size nm (W0.drew.alloc (.cells #[.string (bs nm)] 9)) HN.out (hA.below hB1) (tabs_below hT hB1) ((Row.new W0.drew #[.string (bs nm)] 9).cell (j := 0) rfl) hnm hb
  have c10 := (hD0.cell (p := ⟨w.heap.size, 0, none⟩) (cell_lt c00)).trans c00
  go_region_held3 (fun w' => w'.cell? ⟨w.heap.size, 0, none⟩ = some (.slice A n c)) (assumption)
    (first
    | (go_at_call 89; refine (named_any nm _).mono ?_; rintro e w4 ⟨rfl, rfl⟩)
    | (go_at_call 88; refine hix.mono ?_; rintro e w5 ⟨rfl, hb5⟩; have c50 := (hb5.cell (p := ⟨w.heap.size, 0, none⟩) (cell_lt c10)).trans c10))
  have hB5 := hB1.trans (hb5.mono hB1.size)
  by_cases hlt : ahead nm fs < fs.length
  · have hpl : placeZ nm fs = (ahead nm fs : Int) := by unfold placeZ; rw [if_pos hlt]
    rw [hpl]
    obtain ⟨p, hp, _⟩ := keepF_at hlt
    have hh := Lib.hid (valsN_head hp)
    rw [HN.out] at hlt
    obtain ⟨b, o, q, rfl, hq, g0, g1⟩ := (hA.below hB5).one (k := ahead nm fs) (by rw [HN.out]; exact hlt)
    obtain rfl : q = p := Option.some.inj (hq.out.symm.trans hp)
    clear hpl hp hix hq
    generalize ahead nm fs = i0 at *
    go_wp2_with fail
    go_ret2
    exact ⟨by unfold GetOut; rw [hh.out]; rfl, hB5⟩
  · have hal : ahead nm fs = fs.length := by have := ahead_le nm fs; omega
    have hpl : placeZ nm fs = -1 := by unfold placeZ; rw [if_neg hlt]
    rw [hpl]
    have hh := Lib.hid (valsN_none hal)
    clear hpl hix hal hlt
    go_wp2_with fail
    go_ret2
    exact ⟨by unfold GetOut; rw [hh.out]; rfl, hB5⟩

/-- what All answers -/
def AllOut (nm : List UInt8) (fs : List (List UInt8 × List UInt8)) (w : World) (e : Ending) (w' : World) : Prop :=
  ∃ v, e = .returned v ∧ w'.ownsRow w.heap.size 9 1 v (valsN nm fs).length ((valsN nm fs).map strv) ∧ Below w.heap.size w w'


end Fd
end Go.Proofs.YtkllecicddfjpaaGreatDoor
