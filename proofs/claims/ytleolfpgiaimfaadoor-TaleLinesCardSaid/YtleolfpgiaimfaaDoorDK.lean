/- A range over the forms; an event's zero value. -/
import Derived.Test.YtleolfpgiaimfaaDoorDJ
import Derived.Maps.RangeWalk
import Derived.Deep.WholeRow
namespace Go.Proofs.YtleolfpgiaimfaaDoor
set_option linter.unusedVariables false
set_option linter.unusedSimpArgs false
open Go.RowKit Go.Shelf
open Go.ChangeMaps (setBlock)

theorem setBlock_same {w : World} {r : Nat} {o' : Obj} (h : w.heap[r]? = some o') (o : Obj) : (setBlock w r o).heap[r]? = some o := by
  have := (Array.getElem?_eq_some_iff.1 h).1
  simp [setBlock, Array.getElem?_setIfInBounds, this]
theorem setBlock_other (w : World) {r k : Nat} (o : Obj) (h : k ≠ r) : (setBlock w r o).heap[k]? = w.heap[k]? := by
  simp [setBlock, Array.getElem?_setIfInBounds, Ne.symm h]
theorem ext_setBlock (w : World) (r : Nat) (o : Obj) : Ext (fun i => i = r) w (setBlock w r o) :=
  ⟨rfl, rfl, rfl, by simp [setBlock], fun k _ hs => setBlock_other w o hs⟩
theorem size_setBlock (w : World) (r : Nat) (o : Obj) : (setBlock w r o).heap.size = w.heap.size := by simp [setBlock]
theorem KeepC.ext {S : Nat → Prop} {w w' : World} (h : Ext S w w') (hc : ∀ k cs t fr, w.heap[k]? = some (.cells cs t fr) → ¬ S k) : KeepC w w' := fun g cs t fz hg => (h.block g (Array.getElem?_eq_some_iff.1 hg).1 (hc g cs t fz hg)).trans hg
theorem iter_cells {w : World} {r : Nat} {a : Option Nat} {b c : Nat} {s : Array Nat} (h : w.heap[r]? = some (.mapIter a b s c)) : ∀ k cs t fr, w.heap[k]? = some (.cells cs t fr) → ¬ (k = r) := fun k cs t fr hk e => by
  rw [e, h] at hk
  cases hk
theorem FormsAt.keep {w w' : World} {B clock : Nat} {es : Array MapEntry} (h : FormsAt w B es clock) (hk : KeepC w w') (hb : w'.heap[B]? = w.heap[B]?) : FormsAt w' B es clock := by
  obtain ⟨hw, hes, hn, hall⟩ := h
  refine ⟨hb.trans hw, fun e he => ?_, hn, hall⟩
  obtain ⟨k, g1, g2, g3⟩ := hes e he
  exact ⟨k, g1, g2.keep hk, g3⟩

/-- the step of a range over the forms -/
theorem next_forms {w : World} {ops : Array Oper} {rest : List Oper} {o : Oper} {a : Act} {Q : Exit → Act → World → Prop} (hg : o.guard = none) (it : Operand) (hop : o.op = Op.next it false) (r B clock c0 : Nat) (seen : Array Nat) (es : Array MapEntry)
    (hit : a.eval it = .pointer (some ⟨r, 0, none⟩)) (hF : FormsAt w B es clock) (hr : w.heap[r]? = some (.mapIter (some B) clock seen c0)) (hc : clock ≤ c0)
    (hDone : (∀ e ∈ es.toList, seen.contains e.born = true) → wpList Tryd.prog ops Q rest (a.put o.dst (.tuple #[.bool false])) w)
    (hMore : ∀ (k : Int) (word : List UInt8) (fs : List Fk) (g n : Nat) (e : MapEntry) (w' : World), e ∈ es.toList → e.key = .int .i64 k → formL k = some (word, fs) → n = fs.length → SlcOk w' fs (.slice (some ⟨g, 0, none⟩) n n) → FormsAt w' B es clock → w'.heap[r]? = some (.mapIter (some B) clock (seen.push e.born) clock) → Ext (fun i => i = r) w w' → w'.heap.size = w.heap.size → (leftOf es (seen.push e.born)).size < (leftOf es seen).size → (Instr.entry (.pointer (some ⟨r, 0, none⟩))).run Tryd.prog w' = .ok (.tuple #[.int .i64 k, .agg #[.string (bs word), .slice (some ⟨g, 0, none⟩) n n]]) w' → wpList Tryd.prog ops Q rest (a.put o.dst (.tuple #[.bool true, .int .i64 k, .agg #[.string (bs word), .slice (some ⟨g, 0, none⟩) n n]])) w') :
    wpList Tryd.prog ops Q (o :: rest) a w := by
  refine wpList_plain hg fun K' hK' => ?_
  obtain ⟨hw, hes, hn, hall⟩ := hF
  unfold Oper.wp
  rcases run_next_at (P := Tryd.prog) w o.type r B clock c0 seen es clock hr hw (fun x hx => (hes x hx).choose_spec.2.2) hc with ⟨h0, hrun⟩ | ⟨e, he, w1, hal, hrun⟩
  · simp [execOp, hop, hit, hrun, Result.andThen]
    exact hK' _ _ (hDone fun e he => all_seen es seen h0 e he)
  · have hr1 : w1.heap[r]? = some (.mapIter (some B) clock seen c0) := by rcases hal with rfl | rfl <;> exact hr
    have hE : Ext (fun i => i = r) w (setBlock w1 r (.mapIter (some B) clock (seen.push e.born) clock)) := by
      rcases hal with rfl | rfl
      · exact ext_setBlock _ _ _
      · have h := ext_setBlock w.drew r (.mapIter (some B) clock (seen.push e.born) clock)
        exact ⟨h.os, h.tape, h.output, h.size, h.block⟩
    have hs : (setBlock w1 r (.mapIter (some B) clock (seen.push e.born) clock)).heap.size = w.heap.size := by
      rcases hal with rfl | rfl <;> exact size_setBlock _ _ _
    have hrr : (setBlock w1 r (.mapIter (some B) clock (seen.push e.born) clock)).heap[r]? = some (.mapIter (some B) clock (seen.push e.born) clock) := setBlock_same hr1 _
    generalize setBlock w1 r (.mapIter (some B) clock (seen.push e.born) clock) = w' at *
    have hk := KeepC.ext hE (iter_cells hr)
    have hBr : ¬ (B = r) := fun x => by
      rw [x, hr] at hw
      cases hw
    have hF' := FormsAt.keep ⟨hw, hes, hn, hall⟩ hk (hE.block B (Array.getElem?_eq_some_iff.1 hw).1 hBr)
    have hm := mem_left he
    obtain ⟨k, g1, ⟨word, fs, s, g2, g3, g4⟩, _⟩ := hF'.2.1 e hm.1
    have hen := run_entry_at (P := Tryd.prog) w' r B clock seen es clock e hrr hF'.1 hm.1 hn
    obtain ⟨sg, scs, rfl, hsr, hsi⟩ := g4
    rw [g1, g3] at hrun hen
    simp [execOp, hop, hit, hrun, Result.andThen]
    exact hK' _ _ (hMore k word fs sg fs.length e w' hm.1 g1 g2 rfl ⟨sg, scs, rfl, hsr, hsi⟩ hF' hrr hE hs (left_shrinks es seen e he) hen)

/-- an event's zero value -/
def zev : List Value := evl (zeroEv 0) (.slice none 0 0)
theorem zero_ev : (Tryd.prog.info? 28).map (fun i => (i.zero, i.size)) = some (some (.agg zev.toArray), 46) := by kernel_rfl

end Go.Proofs.YtleolfpgiaimfaaDoor
