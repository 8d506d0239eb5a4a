/- A made row, told by its block: its cells, and stores into it. Nothing of the program. -/
import Derived.Test.YtleolfpgiaimfaaDoorAp
namespace Go.Proofs.YtleolfpgiaimfaaDoor
set_option linter.unusedVariables false
set_option linter.unusedSimpArgs false
open Go.RowKit

/-- the block g is the call's own row of these cells -/
def Row (w : World) (g : Nat) (e : TypeId) (cs : List Value) : Prop := w.heap[g]? = some (.cells cs.toArray e (0, 0))
section
variable {w w' : World} {g : Nat} {e : TypeId} {cs : List Value}
theorem Row.lt (h : Row w g e cs) : g < w.heap.size := (Array.getElem?_eq_some_iff.1 h).1
theorem Row.cell (h : Row w g e cs) {j : Nat} {v : Value} (hv : cs[j]? = some v) : w.cell? ⟨g, j, none⟩ = some v := by
  simp only [World.cell?, show w.heap[g]? = _ from h]
  simpa using hv
theorem Row.frozen (h : Row w g e cs) (j : Nat) : w.frozen? ⟨g, j, none⟩ = false := frozen_of_row w g j _ e h
theorem Row.block (h : Row w g e cs) (hb : w'.heap[g]? = w.heap[g]?) : Row w' g e cs := hb.trans h
theorem Row.below (h : Row w g e cs) (hb : Below w.heap.size w w') : Row w' g e cs := h.block (hb.block _ h.lt)
theorem Row.new (w : World) (X : Array Value) (e : TypeId) : Row (w.alloc (.cells X e)) w.heap.size e X.toList := by
  unfold Row
  simpa using World.alloc_heap_new w (.cells X e)
theorem Row.alloc (h : Row w g e cs) (o : Obj) : Row (w.alloc o) g e cs := h.block (Below.heap_alloc w o g h.lt)
theorem Row.set (h : Row w g e cs) (j : Nat) (v : Value) : Row (w.setCell ⟨g, j, none⟩ v) g e (cs.set j v) := by
  obtain ⟨hlt, hk⟩ := Array.getElem?_eq_some_iff.1 h
  show (w.heap.modify g _)[g]? = _
  rw [Array.getElem?_eq_getElem (by rw [Array.size_modify]; exact hlt), Array.getElem_modify_self, hk]
  simp [Array.setIfInBounds_def]
  exact fun h => (List.set_eq_of_length_le h).symm
theorem Row.far (h : Row w g e cs) {a : Addr} (ha : a.block ≠ g) (v : Value) : Row (w.setCell a v) g e cs := h.block (Below.heap_setCell w a v g (fun e => ha e.symm))
/-- a slice of integers that came in -/
theorem Ri_row {k : IntKind} {w : World} {a : Option Addr} {len cap : Nat} {zs : List Int} (h : (a = none ∧ len = 0 ∧ cap = 0 ∧ zs = []) ∨
    ∃ x, a = some x ∧ len ≤ cap ∧ cap ≤ maxLen ∧ zs.length = cap ∧ (∀ i, i < zs.length → w.cell? (x.add i) = some (.int k (zs.getD i 0))) ∧ ∀ n ∈ zs, (Lit.int k n).wf = true) :
    ∃ l : List Int, l.length = len ∧ len ≤ cap ∧ cap ≤ maxLen ∧ Rv w a (l.map (Value.int k)) ∧ ∀ n ∈ l, (Lit.int k n).wf = true := by
  rcases h with ⟨rfl, rfl, rfl, rfl⟩ | ⟨x, rfl, h1, h2, h3, hc, hw⟩
  · exact ⟨[], rfl, Nat.le_refl _, by unfold maxLen; omega, Rv.nil _ _, by simp⟩
  · refine ⟨zs.take len, by simp; omega, h1, h2, fun hp => ?_, fun n hn => hw n (List.mem_of_mem_take hn)⟩
    have hp' : 0 < zs.length := by simp at hp; omega
    have h0 := hc 0 hp'
    have hx0 : x.add 0 = x := by unfold Addr.add; simp
    rw [hx0] at h0
    have hs := Addr_spot h0
    obtain ⟨b, o, s⟩ := x
    simp only at hs
    subst hs
    refine ⟨b, o, rfl, fun j v hj => ?_⟩
    have hjl := lt_of_get hj
    simp only [List.length_map, List.length_take] at hjl
    have hplain : (⟨b, o, none⟩ : Addr).add j = ⟨b, o + j, none⟩ := by unfold Addr.add; split <;> simp_all
    have hcj := hc j (by omega)
    rw [hplain] at hcj
    rw [hcj, ← hj]
    simp [List.getElem?_take, show j < len by omega, List.getElem?_eq_getElem (show j < zs.length by omega), List.getD]
theorem set_at {α : Type} (ds rs : List α) (x v : α) : (ds ++ x :: rs).set ds.length v = (ds ++ [v]) ++ rs := by
  rw [List.set_append_right _ _ (Nat.le_refl _)]
  simp
theorem set_step {α β : Type} (f : α → β) {sp : List α} {k : Nat} {p : α} {X : List β} (hp : sp[k]? = some p) (hX : X.length = sp.length) :
    ((sp.take k).map f ++ X.drop k).set k (f p) = (sp.take (k + 1)).map f ++ X.drop (k + 1) := by
  have hk := lt_of_get hp
  rw [take_succ_of hp, List.map_append, List.drop_eq_getElem_cons (by omega : k < X.length)]
  have hl : ((sp.take k).map f).length = k := by simp; omega
  have := set_at ((sp.take k).map f) (X.drop (k + 1)) X[k] (f p)
  rw [hl] at this
  exact this
end
end Go.Proofs.YtleolfpgiaimfaaDoor
