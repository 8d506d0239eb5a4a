/- What the rows' list of package-level variables gives: unicode/utf8's two tables; and a world that holds them. · Plain: lines with their ends; a line without its end; a mail's fields as rewrite reads them. -/
import Derived.Test.YtcagkoakbdbbaaaGreatDoorRows
import Derived.Lib.LaidU8
import Derived.Deep.DeepHandedRow
namespace Go.Proofs.YtcagkoakbdbbaaaGreatDoor
set_option linter.unusedVariables false
set_option linter.unusedSimpArgs false
open Go.Lib

theorem gFirst : Tryz.prog.globalNamed "unicode/utf8.first" = some 3 := by kernel_rfl
theorem gAccept : Tryz.prog.globalNamed "unicode/utf8.acceptRanges" = some 4 := by kernel_rfl
theorem yFirst : (Tryz.prog.globals[3]?).map (·.type) = some 140 := by kernel_rfl
theorem yAccept : (Tryz.prog.globals[4]?).map (·.type) = some 143 := by kernel_rfl
theorem cU8 : Tryz.prog.cellsOf 5 = 1 := by kernel_rfl
theorem cFirst : Tryz.prog.cellsOf 140 = 256 := by kernel_rfl
theorem cPair : Tryz.prog.cellsOf 142 = 2 := by kernel_rfl
theorem dFirst : Rows.laid_unicode_utf8_first = firstData := by kernel_rfl
theorem dAccept : (Rows.laid_unicode_utf8_acceptRanges : DataW Unit) = acceptData := by kernel_rfl

theorem tabs_laid {w : World} {l : List (String × DataW Unit)} (h : laidMet Tryz.prog l w) (h3 : ("unicode/utf8.first", Rows.laid_unicode_utf8_first) ∈ l) (h4 : ("unicode/utf8.acceptRanges", Rows.laid_unicode_utf8_acceptRanges) ∈ l) :
    Lib.Utf8Tabs 3 4 w := by
  have h3 := laidMet.reads h h3
  have h4 := laidMet.reads h h4
  rw [dFirst] at h3
  rw [dAccept] at h4
  refine ⟨fun c hc => ?_, fun i hi => ?_⟩
  · obtain ⟨g, t, cs, fuel, p, hg, hty, hvar, hd⟩ := h3
    obtain rfl := Option.some.inj (gFirst.symm.trans hg)
    obtain rfl := Option.some.inj (yFirst.symm.trans hty)
    have hcs := cells_of_tab Tryz.underlying140 Tryz.underlying5 cU8 cFirst hd
    have := World.var?_cell hg hvar c
    rw [this, ← Array.getElem?_toList, hcs]
    simp [firstTab, hc]
  · obtain ⟨g, t, cs, fuel, p, hg, hty, hvar, hd⟩ := h4
    obtain rfl := Option.some.inj (gAccept.symm.trans hg)
    obtain rfl := Option.some.inj (yAccept.symm.trans hty)
    obtain ⟨fuel', d, q, hdi, he⟩ := array_elem Tryz.underlying143 hd i hi
    simp only [List.getElem?_map, List.getElem?_range hi, Option.map_some, Option.some.injEq] at hdi
    subst hdi
    rw [cPair] at he
    have hcs := ints_of_struct Tryz.underlying142 (fun j f hj => by
      match j, hj with
      | 0, hj => simp at hj; subst hj; exact ⟨Tryz.underlying5, rfl, cU8⟩
      | 1, hj => simp at hj; subst hj; exact ⟨Tryz.underlying5, rfl, cU8⟩
      | j + 2, hj => simp at hj) (by rw [cPair]; rfl) he
    have e0 := congrArg (·[0]?) hcs
    have e1 := congrArg (·[1]?) hcs
    simp only [List.getElem?_take, List.getElem?_drop] at e0 e1
    constructor
    · rw [World.var?_cell hg hvar (2 * i), ← Array.getElem?_toList]
      simpa [Nat.mul_comm] using e0
    · rw [World.var?_cell hg hvar (2 * i + 1), ← Array.getElem?_toList]
      simpa [Nat.mul_comm] using e1

/-- the cells of the two tables -/
def firstCells : Array Value := ((List.range 256).map fun c => Value.int .u8 (firstT c : Int)).toArray
def acceptCells : Array Value := ((List.range 16).flatMap fun i => [Value.int .u8 (accLo i : Int), Value.int .u8 (accHi i : Int)]).toArray
/-- a variable's block, its cells laid -/
def lay (cs : Array Value) : Obj → Obj
  | .cells _ t fr => .cells cs t fr
  | o => o
/-- a world for the witness: the settled one, the two tables holding what their initialisers lay -/
noncomputable def laidWorld (os : Os) : World :=
  let w := World.holding Tryz.prog os ⟨#[], #[], []⟩
  { w with heap := (w.heap.modify 3 (lay firstCells)).modify 4 (lay acceptCells) }
end Go.Proofs.YtcagkoakbdbbaaaGreatDoor

namespace Go.Proofs.YtcagkoakbdbbaaaGreatDoor
set_option linter.unusedVariables false
set_option linter.unusedSimpArgs false

/-- from a place to another -/
def sg (b : List UInt8) (i j : Nat) : List UInt8 := (b.drop i).take (j - i)
theorem sg_len {b : List UInt8} {i j : Nat} (h : j ≤ b.length) : (sg b i j).length = j - i := by
  unfold sg
  rw [List.length_take, List.length_drop]
  omega
/-- lines, with their ends -/
def fl : List UInt8 → List (List UInt8)
  | [] => []
  | c :: r => if c = 10 then [c] :: fl r else match fl r with
    | [] => [[c]]
    | h :: t => (c :: h) :: t
theorem fl_flat (l : List UInt8) : (fl l).flatten = l := by
  induction l with
  | nil => rfl
  | cons c r ih =>
    unfold fl
    split
    · simp [ih]
    · split
      · next h => rw [h] at ih; simp at ih; simp [← ih]
      · next h => rw [h] at ih; simp at ih; simp [ih]
theorem fl_ne {l x : List UInt8} (h : x ∈ fl l) : x ≠ [] := by
  induction l generalizing x with
  | nil => simp [fl] at h
  | cons c r ih =>
    unfold fl at h
    split at h
    · rcases List.mem_cons.1 h with rfl | h
      · simp
      · exact ih h
    · split at h
      · simp at h; subst h; simp
      · next hf =>
        rcases List.mem_cons.1 h with rfl | h
        · simp
        · exact ih (by rw [hf]; exact List.mem_cons_of_mem _ h)
theorem fl_hit (a r : List UInt8) (h : ∀ x ∈ a, x ≠ 10) : fl (a ++ 10 :: r) = (a ++ [10]) :: fl r := by
  induction a with
  | nil => simp [fl]
  | cons c a ih =>
    have h1 := ih (fun x hx => h x (List.mem_cons_of_mem _ hx))
    rw [List.cons_append, fl, if_neg (h c List.mem_cons_self), h1]
    rfl
theorem fl_last (a : List UInt8) (h : ∀ x ∈ a, x ≠ 10) (h0 : a ≠ []) : fl a = [a] := by
  induction a with
  | nil => exact absurd rfl h0
  | cons c a ih =>
    rw [fl, if_neg (h c List.mem_cons_self)]
    cases a with
    | nil => rfl
    | cons d r => rw [ih (fun x hx => h x (List.mem_cons_of_mem _ hx)) (by simp)]
theorem fl_len (l : List UInt8) : (fl l).length ≤ l.length := by
  induction l with
  | nil => simp [fl]
  | cons c r ih =>
    unfold fl
    split
    · simp; exact ih
    · split
      · simp
      · next h => rw [h] at ih; simp at ih; simp; omega
/-- a line's place: it begins where the last one ended -/
def LnOk (b : List UInt8) (q : Nat) (p : Nat × Nat) : Prop := p.1 = q ∧ q < p.2 ∧ p.2 ≤ b.length ∧ fl (b.drop q) = sg b q p.2 :: fl (b.drop p.2)
def lnEnd (ps : List (Nat × Nat)) : Nat := match ps.getLast? with | some p => p.2 | none => 0
@[simp] theorem lnEnd_nil : lnEnd [] = 0 := rfl
@[simp] theorem lnEnd_snoc (ps : List (Nat × Nat)) (p : Nat × Nat) : lnEnd (ps ++ [p]) = p.2 := by simp [lnEnd]
theorem ln_hit {b : List UInt8} {q k : Nat} (hk : b[q + k]? = some 10) (hno : ∀ x ∈ (b.drop q).take k, x ≠ 10) : LnOk b q (q, q + k + 1) := by
  have hl : q + k < b.length := (List.getElem?_eq_some_iff.1 hk).1
  refine ⟨rfl, by show q < q + k + 1; omega, by show q + k + 1 ≤ b.length; omega, ?_⟩
  have h1 : b.drop q = (b.drop q).take k ++ 10 :: b.drop (q + k + 1) := by
    have h2 : (b.drop q).drop k = 10 :: b.drop (q + k + 1) := by
      rw [List.drop_drop]
      have := List.drop_eq_getElem_cons hl
      rw [this]
      congr 1
      rw [List.getElem?_eq_getElem hl] at hk
      exact Option.some.inj hk
    rw [← h2, List.take_append_drop]
  have h3 : sg b q (q + k + 1) = (b.drop q).take k ++ [10] := by
    unfold sg
    rw [show q + k + 1 - q = k + 1 from by omega, List.take_add_one, List.getElem?_drop, hk]
    rfl
  show fl (b.drop q) = sg b q (q + k + 1) :: fl (b.drop (q + k + 1))
  rw [h3, h1, fl_hit _ _ hno, ← h1]
theorem ln_last {b : List UInt8} {q : Nat} (hq : q < b.length) (hno : ∀ x ∈ b.drop q, x ≠ 10) : LnOk b q (q, b.length) := by
  refine ⟨rfl, hq, Nat.le_refl _, ?_⟩
  show fl (b.drop q) = sg b q b.length :: fl (b.drop b.length)
  rw [fl_last _ hno (by intro e; have := congrArg List.length e; simp at this; omega), List.drop_length]
  have : sg b q b.length = b.drop q := by unfold sg; rw [List.take_of_length_le]; simp
  rw [this]
  rfl
/-- what the places tell -/
def lnTold (b : List UInt8) (ps : List (Nat × Nat)) : List (List UInt8) := ps.map fun p => sg b p.1 p.2
/-- a row of places, one behind the other -/
def LnRow (b : List UInt8) (ps : List (Nat × Nat)) : Prop := lnEnd ps ≤ b.length ∧ fl b = lnTold b ps ++ fl (b.drop (lnEnd ps)) ∧ (∀ p ∈ ps, p.1 < p.2 ∧ p.2 ≤ b.length) ∧ ps.length ≤ lnEnd ps
theorem LnRow.nil (b : List UInt8) : LnRow b [] := ⟨Nat.zero_le _, rfl, fun _ h => by simp at h, Nat.le_refl _⟩
theorem LnRow.snoc {b : List UInt8} {ps : List (Nat × Nat)} {p : Nat × Nat} (h : LnRow b ps) (hp : LnOk b (lnEnd ps) p) : LnRow b (ps ++ [p]) := by
  obtain ⟨h1, h2, h3, h4⟩ := h
  obtain ⟨k1, k2, k3, k4⟩ := hp
  refine ⟨by rw [lnEnd_snoc]; exact k3, ?_, fun x hx => ?_, by rw [lnEnd_snoc, List.length_append, List.length_singleton]; omega⟩
  · rw [lnEnd_snoc, h2, k4, lnTold, lnTold, List.map_append, List.append_assoc, List.map_singleton, k1]
    rfl
  · rcases List.mem_append.1 hx with hx | hx
    · exact h3 x hx
    · obtain rfl : x = p := by simpa using hx
      exact ⟨by omega, k3⟩
theorem LnRow.all {b : List UInt8} {ps : List (Nat × Nat)} (h : LnRow b ps) (he : lnEnd ps = b.length) : lnTold b ps = fl b := by
  rw [h.2.1, he, List.drop_length]
  simp [fl]

/-- a text without the sign c at its end -/
def cutC (c : UInt8) (l : List UInt8) : List UInt8 := if l.getLast? = some c then l.dropLast else l
/-- a line without its end -/
def textL (l : List UInt8) : List UInt8 := if l.getLast? = some 10 then cutC 13 l.dropLast else l
theorem cutC_len (c : UInt8) (l : List UInt8) : (cutC c l).length ≤ l.length := by unfold cutC; split <;> simp
theorem textL_len (l : List UInt8) : (textL l).length ≤ l.length := by
  unfold textL
  split
  · have := cutC_len 13 l.dropLast; simp at this; omega
  · exact Nat.le_refl _
theorem cutC_take (c : UInt8) (l : List UInt8) : cutC c l = l.take (cutC c l).length := by
  unfold cutC
  split
  · rw [List.length_dropLast, List.dropLast_eq_take]
  · rw [List.take_length]
theorem textL_take (l : List UInt8) : textL l = l.take (textL l).length := by
  unfold textL
  split
  · have h := cutC_take 13 l.dropLast
    have hl := cutC_len 13 l.dropLast
    rw [List.length_dropLast] at hl
    rw [List.dropLast_eq_take, List.take_take] at h
    rw [List.dropLast_eq_take] at hl ⊢
    rw [Nat.min_eq_left hl] at h
    exact h
  · rw [List.take_length]

def blankB (c : UInt8) : Bool := c == 32 || c == 9
def blank1 (l : List UInt8) : Bool := match l with | [] => false | c :: _ => blankB c
/-- the last field has a line more -/
def joinLast (fs : List (List UInt8)) (l : List UInt8) : List (List UInt8) := fs.dropLast ++ [fs.getLast?.getD [] ++ l]
/-- the fields, the head's end, and the body -/
def readG : List (List UInt8) → List (List UInt8) → Option (List (List UInt8) × List UInt8 × List UInt8)
  | _, [] => none
  | fs, l :: r => if textL l = [] then some (fs, l, r.flatten) else if blank1 l = true ∧ fs ≠ [] then readG (joinLast fs l) r else readG (fs ++ [l]) r
end Go.Proofs.YtcagkoakbdbbaaaGreatDoor
