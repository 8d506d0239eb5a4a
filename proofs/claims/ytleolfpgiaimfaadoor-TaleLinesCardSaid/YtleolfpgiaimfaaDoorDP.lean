/- A field's variable, as it lies in memory. -/
import Derived.Test.YtleolfpgiaimfaaDoorD9
namespace Go.Proofs.YtleolfpgiaimfaaDoor
set_option linter.unusedVariables false
set_option linter.unusedSimpArgs false
open Go.RowKit Go.Shelf

/-- a field's variable -/
def Pt (w : World) (p : Nat) (x : Fk) : Prop := ∃ box, Row w p 48 [(fvs x box).1, (fvs x box).2] ∧ BoxOk w x box
theorem Pt.keep {w w' : World} {p : Nat} {x : Fk} (h : Pt w p x) (k : KeepC w w') : Pt w' p x := by
  obtain ⟨box, h1, h2⟩ := h
  exact ⟨box, k.row h1, h2.keep k⟩
theorem KeepC.alloc (w : World) (o : Obj) : KeepC w (w.alloc o) := KeepC.below ((Below.refl _ w).alloc (Nat.le_refl _) o)
/-- a new block of two functions -/
def nil2 : Obj := .cells #[.nilFunc, .nilFunc] 48
theorem one_new (W : World) : Row (W.alloc nil2) W.heap.size 48 [.nilFunc, .nilFunc] := Row.new W #[.nilFunc, .nilFunc] 48
theorem two_new (W : World) : Row ((W.alloc nil2).alloc nil2) W.heap.size 48 [.nilFunc, .nilFunc] ∧ Row ((W.alloc nil2).alloc nil2) (W.heap.size + 1) 48 [.nilFunc, .nilFunc] := by
  have h1 := Row.new W #[.nilFunc, .nilFunc] 48
  have h2 := Row.new (W.alloc nil2) #[.nilFunc, .nilFunc] 48
  rw [World.size_alloc] at h2
  exact ⟨h1.alloc _, h2⟩
theorem one_pt (w : World) (x : Fk) (b : Nat) (h : BoxOk w x b) : Pt (w.alloc (.cells #[(fvs x b).1, (fvs x b).2] 48)) w.heap.size x := ⟨b, Row.new w _ _, h.keep (KeepC.alloc w _)⟩
theorem two_pts (w : World) (x y : Fk) (b c : Nat) (h : BoxOk w x b) (k : BoxOk w y c) :
    Pt ((w.alloc (.cells #[(fvs x b).1, (fvs x b).2] 48)).alloc (.cells #[(fvs y c).1, (fvs y c).2] 48)) w.heap.size x ∧ Pt ((w.alloc (.cells #[(fvs x b).1, (fvs x b).2] 48)).alloc (.cells #[(fvs y c).1, (fvs y c).2] 48)) (w.heap.size + 1) y := by
  refine ⟨(one_pt w x b h).keep (KeepC.alloc _ _), ?_⟩
  have := one_pt (w.alloc (.cells #[(fvs x b).1, (fvs x b).2] 48)) y c (k.keep (KeepC.alloc w _))
  rw [World.size_alloc] at this
  exact this
theorem box_of {w : World} {x : Fk} {b : Nat} {t : TypeId} {f : Nat} (h : boxC x = some (t, f)) (hr : Row w b t [fnV f]) : BoxOk w x b := fun t' f' e => by
  rw [h] at e
  cases e
  exact hr
theorem box_none {w : World} {x : Fk} {b : Nat} (h : boxC x = none) : BoxOk w x b := fun t' f' e => by
  rw [h] at e
  cases e

end Go.Proofs.YtleolfpgiaimfaaDoor
