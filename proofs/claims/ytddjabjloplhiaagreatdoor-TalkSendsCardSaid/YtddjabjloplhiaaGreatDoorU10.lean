/- The ids of a value: the program's Ids. -/
import Derived.Test.YtddjabjloplhiaaGreatDoorU9
import Derived.Test.YtddjabjloplhiaaGreatDoorP22
namespace Go.Proofs.YtddjabjloplhiaaGreatDoor
set_option linter.unusedVariables false
set_option linter.unusedSimpArgs false
open Go.RowKit

/-- what Ids hands back -/
def IdsOut (r : Except Nat (List (List UInt8))) (w : World) (e : Ending) (w' : World) : Prop := match r with
  | .ok ids => ∃ v, e = .returned (.tuple #[v, .int .i64 0]) ∧ w'.ownsRow w.heap.size 9 1 v ids.length (ids.map sv)
  | .error x => e = .returned (.tuple #[.slice none 0 0, .int .i64 (x : Int)])
theorem idsOut_err {r : Except Nat (List (List UInt8))} {w w' : World} {x : Nat} {e : Ending} (h : r = .error x) (he : e = .returned (.tuple #[.slice none 0 0, .int .i64 (x : Int)])) : IdsOut r w e w' := by rw [h]; exact he
theorem idsOut_ok {r : Except Nat (List (List UInt8))} {ids : List (List UInt8)} {w w' : World} {e : Ending} {v : Value} (h : r = .ok ids) (he : e = .returned (.tuple #[v, .int .i64 0])) (ho : w'.ownsRow w.heap.size 9 1 v ids.length (ids.map sv)) : IdsOut r w e w' := by
  rw [h]
  exact ⟨v, he, ho⟩
def strLen : Value → Nat | .string s => s.size | _ => 0

/-- what is told, ahead of the rest's ids -/
def idsFrom (d : List (List UInt8)) (u : List UInt8) : Except Nat (List (List UInt8)) := (idsIn u).map fun p => d ++ p
theorem idsFrom_0 (b : List UInt8) : idsIn b = idsFrom [] b := by
  unfold idsFrom
  cases idsIn b <;> simp [Except.map]
theorem idsFrom_end {d : List (List UInt8)} {u : List UInt8} (h : trimB u = []) : idsFrom d u = .ok d := by
  unfold idsFrom
  rw [idsIn_eq, h]
  simp [Except.map]
theorem idsFrom_not {d : List (List UInt8)} {u r : List UInt8} {c : UInt8} (h : trimB u = c :: r) (hc : c ≠ 60) : idsFrom d u = .error 3 := by
  unfold idsFrom
  rw [idsIn_eq, h]
  simp only
  rw [if_neg hc]
  rfl
theorem idsFrom_cut {d : List (List UInt8)} {u r : List UInt8} {c : UInt8} (h : trimB u = c :: r) (hc : c = 60) (hn : cutAt 62 r = none) : idsFrom d u = .error 3 := by
  unfold idsFrom
  rw [idsIn_eq, h]
  simp only
  rw [if_pos hc, hn]
  rfl
theorem idsFrom_bad {d : List (List UInt8)} {u r x t : List UInt8} {c : UInt8} (h : trimB u = c :: r) (hc : c = 60) (hn : cutAt 62 r = some (x, t)) (hx : onlyB idc x = false) : idsFrom d u = .error 3 := by
  unfold idsFrom
  rw [idsIn_eq, h]
  simp only
  rw [if_pos hc, hn]
  simp [hx, Except.map]
theorem idsFrom_one {d : List (List UInt8)} {u r x t : List UInt8} {c : UInt8} (h : trimB u = c :: r) (hc : c = 60) (hn : cutAt 62 r = some (x, t)) (hx : onlyB idc x = true) : idsFrom d u = idsFrom (d ++ [x]) t := by
  unfold idsFrom
  rw [idsIn_eq u, h]
  simp only
  rw [if_pos hc, hn]
  simp only [hx, if_true]
  cases idsIn t <;> simp [Except.map]


end Go.Proofs.YtddjabjloplhiaaGreatDoor
