/- The walk of the law, part 26. -/
import Derived.OrdersIn
import Derived.OrdersHeld
import Derived.Deep.RegionHeld
set_option maxRecDepth 100000
set_option maxHeartbeats 16000000
set_option linter.unusedVariables false
set_option linter.unusedSimpArgs false
namespace Go.Proofs.YtkllecicddfjpaaGreatDoor
section
variable {n l : Nat} {P : Program} {ops : Array Oper} {Q : Exit → Act → World → Prop} {md : Region.Mode}
theorem wpIn_round_of {o : Oper} {a : Act} {w : World} {K : Act → World → Prop} (hd : ∀ c,o.op ≠ .defer c) (h : o.wp P a w K Q) : o.wpIn (Fence.wide.inRound l) n P a w K Q := by
 unfold Oper.wpIn
 refine ⟨fun _ _ => trivial,?_⟩
 rw [Oper.semAt_eq _ _ _ hd]
 unfold Oper.wp at h
 generalize (execOp a.eval o).run P w = r at h ⊢
 cases r with
 | ok x w' =>
   cases x
   case value v => exact h
   case skip => exact h
   case defer d => exact h
   case enter f args => exact ⟨fun h => by simp [Fence.inRound,Fence.wide] at h,(callsIn_wide (n := n - 1)).2 h⟩
   case row r args =>
    refine ⟨fun h => by simp [Fence.inRound,Fence.wide] at h,fun c cs _ => ?_⟩
    obtain ⟨v,w2,hr,hs⟩ := h c cs
    exact ⟨v,w2,hr,stepsIn_wide.2 hs⟩
   all_goals exact h.elim
 | halt x w' =>
   cases x <;> first | exact h | exact h.elim
theorem wpOpIn_round {i : Nat} {a : Act} {w : World} {K : Act → World → Prop} (hd : ∀ (i : Nat) o c,ops[i]? = some o → o.op ≠ .defer c) (hl : ¬ LetsOut Q) (h : wpOp P ops Q i K a w) : wpOpIn (Fence.wide.inRound l) n P ops Q i K a w := by
 unfold wpOp at h
 unfold wpOpIn
 cases ho : ops[i]? with
 | none =>
   rw [ho] at h
   exact h
 | some o =>
   rw [ho] at h
   simp only at h ⊢
   split
   ·rename_i hw
    rw [if_pos hw] at h
    rcases h with h | ⟨_,h⟩
    ·exact wpIn_round_of (fun c => hd i o c ho) h
    ·exact (hl h).elim
   ·rename_i hw
    rw [if_neg hw] at h
    exact ⟨fun _ _ => trivial,h⟩
theorem wpAnyIn_round (hd : ∀ (i : Nat) o c,ops[i]? = some o → o.op ≠ .defer c) (hl : ¬ LetsOut Q) : ∀ (fuel : Nat) (listed : Array Bool) (a : Act) (w : World),wpAny P md ops Q fuel listed a w → wpAnyIn (Fence.wide.inRound l) n P md ops Q fuel listed a w
 | 0,_,_,_,h => h
 | fuel + 1,_,_,_,h => ⟨h.1,fun i hi => wpOpIn_mono (fun a' w' h' => wpAnyIn_round hd hl fuel _ a' w' h') (wpOpIn_round hd hl (h.2 i hi))⟩
def notDefer : Op → Bool
 | .defer _ => false
 | _ => true
theorem notDefer_of (h : ops.all (fun o => notDefer o.op) = true) (i : Nat) (o : Oper) (c : Call) (ho : ops[i]? = some o) : o.op ≠ .defer c := by
 intro e
 have h1 := (Array.all_eq_true_iff_forall_mem.1 h) o (Array.mem_of_getElem? ho)
 rw [e] at h1
 cases h1
theorem wpIn_region_round {id : Nat} {S : World → Prop} {a : Act} {w : World} (hm : P.follows .mixedOrders = true) (hd : ops.all (fun o => notDefer o.op) = true) (hl : ¬ LetsOut Q) (hS : S w.drew)
 (h : S w.drew → wpAnyH P .any ops Q S ops.size (Array.replicate ops.size false) a w.drew) : (Code.region id ops true).wpIn (Fence.wide.inRound l) n P Q a w :=
 wpIn_region_any hm (wpAnyIn_round (notDefer_of hd) hl _ _ _ _ (wpAny_of_held _ _ _ _ (h hS)))
end
end Go.Proofs.YtkllecicddfjpaaGreatDoor
