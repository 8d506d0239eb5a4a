/- What the row's list gives: the encodings' names. · Plain: lines with their ends; which lines are a boundary's; what stands between these. -/
import Derived.Test.YtfdkcgdanhlfkaaGreatDoorJ01
import Derived.Test.YtfdkcgdanhlfkaaGreatDoorJ02
import Derived.Lib.SlTrimSet
namespace Go.Proofs.YtfdkcgdanhlfkaaGreatDoor
set_option linter.unusedVariables false
set_option linter.unusedSimpArgs false
open Go.Lib

theorem gCodes : Tryz.prog.globalNamed "despatch/mime.codes" = some 0 := by kernel_rfl
theorem yCodes : (Tryz.prog.globals[0]?).map (·.type) = some 91 := by kernel_rfl
theorem cStr : Tryz.prog.cellsOf 9 = 1 := by kernel_rfl
set_option maxRecDepth 100000 in
theorem codes_laid {w : World} {l : List (String × DataW Unit)} (h : laidMet Tryz.prog l w) (hm : ("despatch/mime.codes", Rows.laid_despatch_mime_codes) ∈ l) :
    w.cell? ⟨0, 1, none⟩ = some (.string (bs [98, 97, 115, 101, 54, 52])) := by
  obtain ⟨g, t, cs, fuel, p, hg, hty, hvar, hd⟩ := laidMet.reads h hm
  obtain rfl := Option.some.inj (gCodes.symm.trans hg)
  obtain rfl := Option.some.inj (yCodes.symm.trans hty)
  obtain ⟨fuel', d, q, hdi, he⟩ := array_elem Tryz.underlying91 hd 1 (by decide)
  obtain rfl : DataW.lit (.string [98, 97, 115, 101, 54, 52]) = d := Option.some.inj hdi
  rw [cStr] at he
  obtain ⟨s, e1, e2, _⟩ := DataW.trod_string Tryz.underlying9 he
  have e3 : s = bs [98, 97, 115, 101, 54, 52] := by
    have h1 : ([98, 97, 115, 101, 54, 52] : List UInt8) = s.data.toList := by
      have h2 : [98, 97, 115, 101, 54, 52] = s.data.toList ∧ q = [] := by simpa using e2
      exact h2.1
    rw [h1, bs_of]
  have e4 := congrArg (·[0]?) e1
  simp only [List.getElem?_take, List.getElem?_drop] at e4
  rw [World.var?_cell hg hvar 1, ← Array.getElem?_toList, ← e3]
  simpa using e4
end Go.Proofs.YtfdkcgdanhlfkaaGreatDoor

namespace Go.Proofs.YtfdkcgdanhlfkaaGreatDoor
set_option linter.unusedVariables false
set_option linter.unusedSimpArgs false

/-- a line's end is taken off -/
def endl (c : List UInt8) : List UInt8 × List UInt8 := if c.getLast? = some 13 then (c.dropLast, [13, 10]) else (c, [10])
/-- the lines, and their ends, behind what of a line has begun -/
def lnA (cur : List UInt8) : List UInt8 → List (List UInt8 × List UInt8)
  | [] => if cur = [] then [] else [(cur, [])]
  | x :: r => if x = 10 then endl cur :: lnA [] r else lnA (cur ++ [x]) r
/-- the lines of bytes, and their ends -/
def lns (b : List UInt8) : List (List UInt8 × List UInt8) := lnA [] b
theorem lnA_hit : ∀ (p q cur : List UInt8), (∀ x ∈ p, x ≠ 10) → lnA cur (p ++ 10 :: q) = endl (cur ++ p) :: lnA [] q
  | [], q, cur, _ => by simp [lnA]
  | x :: p, q, cur, h => by
    have hx : x ≠ 10 := h x (by simp)
    rw [List.cons_append, lnA, if_neg hx, lnA_hit p q (cur ++ [x]) (fun y hy => h y (by simp [hy]))]
    simp
theorem lnA_end : ∀ (p cur : List UInt8), (∀ x ∈ p, x ≠ 10) → lnA cur p = if cur ++ p = [] then [] else [(cur ++ p, [])]
  | [], cur, _ => by simp [lnA]
  | x :: p, cur, h => by
    have hx : x ≠ 10 := h x (by simp)
    rw [lnA, if_neg hx, lnA_end p (cur ++ [x]) (fun y hy => h y (by simp [hy]))]
    simp
theorem snoc_of {c : List UInt8} {x : UInt8} (h : c.getLast? = some x) : ∃ d, c = d ++ [x] := by
  rcases List.eq_nil_or_concat c with rfl | ⟨d, y, rfl⟩
  · simp at h
  · simp at h
    exact ⟨d, by rw [h]; simp⟩
theorem endl_app (c : List UInt8) : (endl c).1 ++ (endl c).2 = c ++ [10] := by
  unfold endl
  split
  · rename_i h
    obtain ⟨d, rfl⟩ := snoc_of h
    simp
  · rfl
theorem endl_len (c : List UInt8) : (endl c).1.length + (endl c).2.length = c.length + 1 := by
  have := congrArg List.length (endl_app c)
  simpa using this

/-- what stands from i up to j -/
def seg (b : List UInt8) (i j : Nat) : List UInt8 := (b.drop i).take (j - i)
theorem seg_len {b : List UInt8} {i j : Nat} (hj : j ≤ b.length) : (seg b i j).length = j - i := by unfold seg; simp; omega
theorem seg_self (b : List UInt8) (i : Nat) : seg b i i = [] := by simp [seg]
theorem seg_app {b : List UInt8} {i j k : Nat} (h1 : i ≤ j) (h2 : j ≤ k) : seg b i j ++ seg b j k = seg b i k := by
  unfold seg
  have e : k - i = (j - i) + (k - j) := by omega
  rw [e, List.take_add, List.drop_drop]
  congr 2
  congr 1
  omega

/-- a line of b that begins at 'at' -/
structure TrOk (b : List UInt8) (at_ : Nat) (t : Nat × Nat × Nat) : Prop where
  fr : t.1 = at_
  lo : t.1 ≤ t.2.1
  hi : t.2.1 ≤ t.2.2
  up : at_ < t.2.2
  le : t.2.2 ≤ b.length
  ln : lns (b.drop at_) = (seg b t.1 t.2.1, seg b t.2.1 t.2.2) :: lns (b.drop t.2.2)
/-- where the next line begins -/
def trEnd (ys : List (Nat × Nat × Nat)) : Nat := (ys.getLast?.map (·.2.2)).getD 0
@[simp] theorem trEnd_nil : trEnd [] = 0 := rfl
@[simp] theorem trEnd_snoc (ys : List (Nat × Nat × Nat)) (t : Nat × Nat × Nat) : trEnd (ys ++ [t]) = t.2.2 := by simp [trEnd]

theorem seg_split {b : List UInt8} {at_ n : Nat} (h : at_ + n < b.length) (h10 : b[at_ + n]? = some 10) : b.drop at_ = seg b at_ (at_ + n) ++ 10 :: b.drop (at_ + n + 1) := by
  have e1 : b.drop at_ = (b.drop at_).take n ++ (b.drop at_).drop n := (List.take_append_drop _ _).symm
  rw [List.drop_drop] at e1
  rw [e1]
  have e2 : at_ + n - at_ = n := by omega
  unfold seg
  rw [e2]
  congr 1
  rw [← List.getElem_cons_drop h]
  rw [List.getElem?_eq_getElem h] at h10
  rw [Option.some.inj h10]
theorem tr_last {b : List UInt8} {at_ : Nat} (h : at_ < b.length) (hno : ∀ x ∈ b.drop at_, x ≠ 10) : TrOk b at_ (at_, b.length, b.length) := by
  refine ⟨rfl, by simp; omega, Nat.le_refl _, h, Nat.le_refl _, ?_⟩
  simp only
  unfold lns
  rw [lnA_end _ _ hno]
  have h1 : b.drop at_ ≠ [] := fun e => by have := congrArg List.length e; simp at this; omega
  rw [List.nil_append, if_neg h1, seg_self, List.drop_length]
  unfold seg
  rw [List.take_of_length_le (by simp)]
  rfl
theorem tr_hit {b : List UInt8} {at_ n : Nat} (h : at_ + n < b.length) (h10 : b[at_ + n]? = some 10) (hno : ∀ x ∈ seg b at_ (at_ + n), x ≠ 10) (hcr : n = 0 ∨ b[at_ + n - 1]? ≠ some 13) : TrOk b at_ (at_, at_ + n, at_ + n + 1) := by
  refine ⟨rfl, by simp, by simp, by simp; omega, by simp; omega, ?_⟩
  simp only
  have e : seg b (at_ + n) (at_ + n + 1) = [10] := by
    have h3 : at_ + n + 1 - (at_ + n) = 1 := by omega
    unfold seg
    rw [h3, ← List.getElem_cons_drop h]
    rw [List.getElem?_eq_getElem h] at h10
    rw [Option.some.inj h10]
    rfl
  unfold lns
  rw [seg_split h h10, lnA_hit _ _ _ hno, List.nil_append, e]
  congr 1
  unfold endl
  rw [if_neg]
  intro hl
  rw [List.getLast?_eq_getElem?, seg_len (by omega)] at hl
  rcases hcr with h0 | h0
  · subst h0
    simp [seg] at hl
  · apply h0
    rw [← hl]
    by_cases hn : n = 0
    · subst hn
      simp [seg] at hl
    · unfold seg
      rw [List.getElem?_take, if_pos (by omega), List.getElem?_drop]
      congr 1
      omega
theorem tr_cr {b : List UInt8} {at_ n : Nat} (h : at_ + n < b.length) (h10 : b[at_ + n]? = some 10) (hno : ∀ x ∈ seg b at_ (at_ + n), x ≠ 10) (hn : 0 < n) (hcr : b[at_ + n - 1]? = some 13) : TrOk b at_ (at_, at_ + n - 1, at_ + n + 1) := by
  refine ⟨rfl, by simp; omega, by simp; omega, by simp; omega, by simp; omega, ?_⟩
  simp only
  have hlen : (seg b at_ (at_ + n)).length = n := by rw [seg_len (by omega)]; omega
  have hl : (seg b at_ (at_ + n)).getLast? = some 13 := by
    rw [List.getLast?_eq_getElem?, hlen]
    unfold seg
    rw [List.getElem?_take, if_pos (by omega), List.getElem?_drop, ← hcr]
    congr 1
    omega
  have hcr2 : at_ + n - 1 < b.length := by omega
  have e : seg b (at_ + n - 1) (at_ + n + 1) = [13, 10] := by
    have h3 : at_ + n + 1 - (at_ + n - 1) = 2 := by omega
    have h4 : at_ + n - 1 + 1 = at_ + n := by omega
    unfold seg
    rw [h3, ← List.getElem_cons_drop hcr2, h4, ← List.getElem_cons_drop h]
    rw [List.getElem?_eq_getElem h] at h10
    rw [List.getElem?_eq_getElem hcr2] at hcr
    rw [Option.some.inj h10, Option.some.inj hcr]
    rfl
  unfold lns
  rw [seg_split h h10, lnA_hit _ _ _ hno, List.nil_append, e]
  congr 1
  unfold endl
  rw [if_pos hl]
  congr 1
  unfold seg
  rw [List.dropLast_eq_take, List.take_take, List.length_take, List.length_drop]
  congr 1
  omega

/-- without the blanks behind -/
def trimE (l : List UInt8) : List UInt8 := Lib.trimRightS l [32, 9]
/-- a boundary's line (1), its last line (2), or none (0) -/
def mk (bd l : List UInt8) : Nat := if trimE l = [45, 45] ++ bd then 1 else if trimE l = [45, 45] ++ bd ++ [45, 45] then 2 else 0
theorem mk_le (bd l : List UInt8) : mk bd l ≤ 2 := by
  unfold mk
  split
  · omega
  · split <;> omega
theorem mk_one {bd l : List UInt8} : mk bd l = 1 ↔ trimE l = [45, 45] ++ bd := by
  unfold mk
  split
  · simp_all
  · split <;> simp_all
theorem mk_two {bd l : List UInt8} : mk bd l = 2 ↔ trimE l = [45, 45] ++ bd ++ [45, 45] := by
  unfold mk
  split
  · rename_i h
    rw [h]
    simp
  · split <;> simp_all
theorem mk_zero {bd l : List UInt8} : mk bd l = 0 ↔ trimE l ≠ [45, 45] ++ bd ∧ trimE l ≠ [45, 45] ++ bd ++ [45, 45] := by
  unfold mk
  split
  · simp_all
  · split <;> simp_all
/-- what stands in a part, and behind -/
def bodyP (bd : List UInt8) : List (List UInt8 × List UInt8) → List UInt8 → List UInt8 → List (List UInt8) → Option (List (List UInt8))
  | [], _, _, _ => none
  | p :: r, part, pend, out => if mk bd p.1 = 0 then bodyP bd r (part ++ pend ++ p.1) p.2 out else if mk bd p.1 = 1 then bodyP bd r [] [] (out ++ [part]) else some (out ++ [part])
/-- what stands between a boundary's lines -/
def splitP (bd : List UInt8) : List (List UInt8 × List UInt8) → Option (List (List UInt8))
  | [] => none
  | p :: r => if mk bd p.1 = 1 then bodyP bd r [] [] [] else splitP bd r
/-- a letter, a digit or one of these signs -/
def bdC (c : UInt8) : Bool := (97 ≤ c && c ≤ 122) || (65 ≤ c && c ≤ 90) || (48 ≤ c && c ≤ 57) || ([39, 40, 41, 43, 95, 44, 45, 46, 47, 58, 61, 63] : List UInt8).contains c
/-- whether a text may be a boundary -/
def bdOk (s : List UInt8) : Bool := decide (1 ≤ s.length) && decide (s.length ≤ 70) && s.all bdC
/-- what Split tells: none where the boundary may not be, or nothing stands between -/
def splitS (b bd : List UInt8) : List (List UInt8) × Int := if bdOk bd = true then (match splitP bd (lns b) with | some l => (l, 0) | none => ([], 3)) else ([], 1)
end Go.Proofs.YtfdkcgdanhlfkaaGreatDoor
