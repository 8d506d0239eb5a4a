/- append onto an empty slice without room, wherever it points. Nothing of the program. -/
import Derived.Test.YtgohdohkikkeeaaDoorAp
namespace Go.Proofs.YtgohdohkikkeeaaDoor
set_option linter.unusedVariables false
set_option linter.unusedSimpArgs false
open Go.RowKit

section
variable {P : Program} {w : World}
theorem run_app0 {t tx ty e : TypeId} {size bytes : Nat} (T : ElT P t e size bytes) (A : Option Addr) {x : Value} {m : Nat} {news : List Value} (hs : Src P size tx x m news w) (hb : m * bytes ≤ 140737488355328) :
    ∃ v' w', (Builtin.append_ #[t, tx] ty #[.slice A 0 0, x]).run P w = .ok v' w' ∧ (∃ A' c', v' = .slice A' m c' ∧ m ≤ c' ∧ Rv w' A' news ∧ (0 < m → A' = some ⟨w.heap.size, 0, none⟩ ∧ w.heap.size < w'.heap.size)) ∧ Below w.heap.size w w' := by
  obtain ⟨ht, hsz, hbp, i, z, hi, hz, rfl, rfl, hzs⟩ := T
  have hl := hs.newsLen
  by_cases hm : m = 0
  · subst hm
    have hn : news = [] := List.eq_nil_of_length_eq_zero (by simpa using hl)
    subst hn
    refine ⟨.slice A 0 0, w, ?_, ⟨A, 0, rfl, Nat.le_refl _, Rv.nil _ _, fun h => absurd h (by omega)⟩, Below.refl _ _⟩
    rcases A with _ | a
    · rcases hs.kind with ⟨e', hk⟩ | hk <;> simp [Builtin.append_, run_underlying ht, run_underlying hk, sizeOf, typeInfo, hi, hs.len, hs.cells]
    · have hst : (storeCells (a.add (0 * i.size)) ([] : List Value)).run P w = .ok () w := rfl
      rcases hs.kind with ⟨e', hk⟩ | hk <;> simp [Builtin.append_, run_underlying ht, run_underlying hk, sizeOf, typeInfo, hi, hs.len, hs.cells, storeCells]
  · have hmb : m ≤ m * i.bytes := Nat.le_mul_of_pos_right _ hbp
    have hold : (Builtin.firstCells i.size 0 (.slice A 0 0)).run P w.drew = .ok ([] : List Value).toArray w.drew := by
      rcases A with _ | a
      · exact run_firstCells_none w.drew i.size 0 0 0
      · exact run_firstCells_some w.drew i.size 0 a 0 0 [] (by simp) (by simp)
    have hr := run_append_grow_src (P := P) w t tx ty e i z ht hi hz A 0 0 [] hold x m news hs (by omega) (by omega) (growslice_fits (by omega) (by simpa using hb))
    rw [Nat.zero_add] at hr
    refine ⟨_, _, hr, ⟨_, _, rfl, grownCap_ge w m 0 e, ?_, fun _ => ⟨rfl, by simp⟩⟩, ((Below.refl _ w).drew).alloc (Nat.le_refl _) _⟩
    intro _
    refine ⟨w.heap.size, 0, rfl, fun j v hj => ?_⟩
    rw [Nat.zero_add]
    have hh := World.alloc_heap_new w.drew (.cells (([] ++ news).toArray ++ Builtin.zeroCells z.cells (grownCap w m 0 e - m)) e)
    have hlt := lt_of_get hj
    rw [cell_of_row _ w.heap.size j _ e (0, 0) hh]
    simp only [List.nil_append]
    rw [Array.getElem?_append_left (by simpa using hlt)]
    simpa using hj
theorem step_app0 {ops : Array Oper} {o : Oper} {a : Act} {K : Act → World → Prop} {Q : Exit → Act → World → Prop} {E : Prop} (hgd : o.guard = none) (s x : Operand) (t tx : TypeId)
    (ho : o.op = .call { callee := .builtin .append, args := #[s, x], argTypes := #[t, tx] }) {e : TypeId} {size bytes : Nat} (T : ElT P t e size bytes) {A : Option Addr}
    (hs : a.eval s = .slice A 0 0) {y : Value} {m : Nat} {news : List Value} (hsrc : Src P size tx y m news w) (hx : a.eval x = y) (hb : m * bytes ≤ 140737488355328)
    (h : ∀ v' w', (∃ A' c', v' = .slice A' m c' ∧ m ≤ c' ∧ Rv w' A' news ∧ (0 < m → A' = some ⟨w.heap.size, 0, none⟩ ∧ w.heap.size < w'.heap.size)) → Below w.heap.size w w' → K (a.put o.dst v') w') :
    if Region.wanted o (yielded ops a.tmps) = true then Oper.wp P o a w K Q else E := by
  have hw : Region.wanted o (yielded ops a.tmps) = true := by simp [Region.wanted, hgd]
  rw [if_pos hw]
  obtain ⟨v', w', hrun, h2, h3⟩ := run_app0 (ty := o.type) T A hsrc hb
  unfold Oper.wp execOp
  simp only [ho, resolve, invoke, builtin, Sem.run_bind, Sem.run_pure, Result.andThen_ok, List.map_toArray, List.map_cons, List.map_nil, hs, hx, hrun]
  exact h v' w' h2 h3
end
end Go.Proofs.YtgohdohkikkeeaaDoor
