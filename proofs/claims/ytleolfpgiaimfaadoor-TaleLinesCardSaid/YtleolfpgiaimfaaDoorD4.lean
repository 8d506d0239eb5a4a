/- A region that draws its order, by what holds whatever has been done of it. Nothing of the program. -/
import Derived.Test.YtleolfpgiaimfaaDoorK
import Derived.OrdersHeld
namespace Go.Proofs.YtleolfpgiaimfaaDoor
set_option linter.unusedVariables false
set_option linter.unusedSimpArgs false
open Go.RowKit
variable {P : Program}

/-- what waits, waits for what stands ahead of it -/
def lowEdges (ops : Array Oper) : Bool := (List.range ops.size).all fun i => ((ops[i]?).map fun o => o.after.all fun e => decide (e.on < i)).getD true
theorem lowEdges_spec {ops : Array Oper} (h : lowEdges ops = true) {i : Nat} {o : Oper} (ho : ops[i]? = some o) : ∀ e ∈ o.after, e.on < i := by
  intro e he
  have hi : i < ops.size := by
    rw [Array.getElem?_eq_some_iff] at ho
    exact ho.1
  have h1 := List.all_eq_true.1 h i (List.mem_range.2 hi)
  rw [ho, Option.map_some, Option.getD_some] at h1
  obtain ⟨j, hj, rfl⟩ := Array.mem_iff_getElem.1 he
  have := Array.all_eq_true.1 h1 j hj
  exact of_decide_eq_true this
theorem ready_none {md : Region.Mode} {ops : Array Oper} (hlow : lowEdges ops = true) {l : Array Bool} (h : Region.ready md ops l = []) : ∀ i, i < ops.size → l.getD i true = true := by
  intro i
  induction i using Nat.strongRecOn with
  | _ i ih =>
    intro hi
    by_cases hl : l.getD i true = true
    · exact hl
    · exfalso
      have hl' : l.getD i true = false := by simpa using hl
      obtain ⟨o, ho⟩ : ∃ o, ops[i]? = some o := ⟨_, Array.getElem?_eq_getElem hi⟩
      have hm : i ∈ Region.ready md ops l := by
        unfold Region.ready
        refine List.mem_filter.2 ⟨List.mem_range.2 hi, ?_⟩
        rw [hl', ho]
        simp only [Bool.not_false, Bool.true_and, Option.map_some, Option.getD_some]
        rw [Array.all_eq_true]
        intro j hj
        have hlt := lowEdges_spec hlow ho (o.after[j]) (Array.getElem_mem hj)
        have := ih _ hlt (Nat.lt_trans hlt hi)
        have h2 : l.getD (o.after[j]).on false = true := by
          rw [Array.getD_eq_getD_getElem?] at this ⊢
          cases hx : l[(o.after[j]).on]? with
          | none =>
            exfalso
            rw [Array.getD_eq_getD_getElem?] at hl'
            rw [Array.getElem?_eq_none_iff] at hx
            rw [Array.getElem?_eq_none (by omega)] at hl'
            cases hl'
          | some b => rw [hx] at this; exact this
        rw [h2, Bool.or_true]
      rw [h] at hm
      cases hm

/-- whatever has been done: I; each operation keeps it; where all has been done it gives what is asked behind the region -/
theorem wp_region_inv {ops : Array Oper} {Q : Exit → Act → World → Prop} {id : Nat} {a : Act} {w : World} (I : Array Bool → Act → World → Prop) (hm : P.follows .mixedOrders = true) (hlow : lowEdges ops = true)
    (h0 : I (Array.replicate ops.size false) a w.drew)
    (hstep : ∀ (l : Array Bool) (a : Act) (w : World) (i : Nat) (o : Oper), I l a w → ops[i]? = some o → l.getD i true = false → (∀ e ∈ o.after, Region.binds .any e = true → l.getD e.on false = true) → wpOp P ops Q i (I (l.setIfInBounds i true)) a w)
    (hdone : ∀ (l : Array Bool) (a : Act) (w : World), I l a w → (∀ i, i < ops.size → l.getD i true = true) → Q .normal a w) : (Code.region id ops true).wp P Q a w := by
  refine wp_region_any hm ?_
  have key : ∀ (fuel : Nat) (l : Array Bool) (a : Act) (w : World), l.size = ops.size → (l.toList.filter (! ·)).length ≤ fuel → I l a w → wpAny P .any ops Q fuel l a w := by
    intro fuel
    induction fuel with
    | zero =>
      intro l a w hs hn hI
      have hall : ∀ i, i < ops.size → l.getD i true = true := by
        intro i hi
        rw [Array.getD_eq_getD_getElem?, Array.getElem?_eq_getElem (by omega), Option.getD_some]
        have h1 : l.toList.filter (! ·) = [] := List.length_eq_zero_iff.1 (by omega)
        have h2 := List.filter_eq_nil_iff.1 h1 l[i] (by simp)
        simpa using h2
      refine ⟨?_, hdone l a w hI hall⟩
      unfold Region.ready
      refine List.filter_eq_nil_iff.2 fun i hi => ?_
      rw [hall i (List.mem_range.1 hi)]
      simp
    | succ fuel ih =>
      intro l a w hs hn hI
      refine ⟨fun hr => hdone l a w hI (ready_none hlow hr), fun i hi => ?_⟩
      unfold Region.ready at hi
      obtain ⟨h1, h2⟩ := List.mem_filter.1 hi
      have hi' := List.mem_range.1 h1
      obtain ⟨o, ho⟩ : ∃ o, ops[i]? = some o := ⟨_, Array.getElem?_eq_getElem hi'⟩
      rw [ho] at h2
      simp only [Option.map_some, Option.getD_some, Bool.and_eq_true, Bool.not_eq_true'] at h2
      have hl : l.getD i true = false := h2.1
      refine wpOp_mono (fun a' w' h' => ih _ a' w' (by simp [hs]) ?_ h') (hstep l a w i o hI ho hl fun e he hb => ?_)
      · have hli : l[i]? = some false := by
          rw [Array.getD_eq_getD_getElem?] at hl
          cases hx : l[i]? with
          | none => rw [hx] at hl; cases hl
          | some b => rw [hx] at hl; simpa using hl
        have : (l.setIfInBounds i true).toList = l.toList.set i true := by simp
        rw [this]
        have hli2 : l.toList[i]? = some false := by simpa using hli
        have hcount : ∀ (m : List Bool) (i : Nat), m[i]? = some false → ((m.set i true).filter (! ·)).length + 1 = (m.filter (! ·)).length := by
          intro m
          induction m with
          | nil => intro i h; simp at h
          | cons b m ihm =>
            intro i h
            cases i with
            | zero =>
              simp at h
              subst h
              simp
            | succ i =>
              have := ihm i (by simpa using h)
              cases b <;> simp_all
        have := hcount l.toList i hli2
        omega
      · obtain ⟨j, hj, rfl⟩ := Array.mem_iff_getElem.1 he
        have := Array.all_eq_true.1 h2.2 j hj
        rw [hb] at this
        simpa using this
  refine key _ _ _ _ (by simp) ?_ h0
  refine Nat.le_trans (List.length_filter_le _ _) (by simp)

end Go.Proofs.YtleolfpgiaimfaaDoor
