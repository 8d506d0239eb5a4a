/- The example of the document; TaleLines' walk (UNDER WAY). -/
import Derived.Test.YtleolfpgiaimfaaDoorDW
namespace Go.Proofs.YtleolfpgiaimfaaDoor
set_option linter.unusedVariables false
set_option linter.unusedSimpArgs false
open Go.RowKit Go.Shelf

theorem wpList_build3 {P : Program} {w : World} {ops : Array Oper} {rest : List Oper} {o : Oper} {a : Act} {Q : Exit → Act → World → Prop} (hg : o.guard = none) (t : TypeId) (u0 u1 u2 V : Value) (i0 i1 i2 : Nat) (hop : o.op = Op.build t #[(i0, .const u0), (i1, .const u1), (i2, .const u2)]) (hrun : (Instr.build t #[(i0, u0), (i1, u1), (i2, u2)]).run P w = .ok V w)
    (h : wpList P ops Q rest (a.put o.dst V) w) : wpList P ops Q (o :: rest) a w := by
  refine wpList_plain hg fun K' hK' => ?_
  have e0 : a.eval (.const u0) = u0 := rfl
  have e1 : a.eval (.const u1) = u1 := rfl
  have e2 : a.eval (.const u2) = u2 := rfl
  unfold Oper.wp
  simp [execOp, hop, e0, e1, e2, hrun, Result.andThen]
  exact hK' _ _ h
/-- the example -/
def exE : Ev := { zeroEv 3 with n := 2, stays := true }
theorem build_ex (W : World) : (Instr.build 28 #[(0, .int .i64 3), (3, .int .i64 2), (8, .bool true)]).run Tryd.prog W = .ok (.agg (evl exE (.slice none 0 0)).toArray) W := by
  go_simp
  rfl
theorem ex_line : lineL exE = [99, 97, 114, 114, 121, 32, 50, 32, 49] := by decide +kernel
theorem ex_ok : exE.Ok := ⟨⟨by decide, by decide⟩, isInt_zero, isInt_zero, ⟨by decide, by decide⟩, isInt_zero, by simp [exE, zeroEv], isInt_zero, isInt_zero, isInt_zero⟩
theorem ex_sz : exE.Sz := ⟨by simp [exE, zeroEv], by simp [exE, zeroEv], by simp [exE, zeroEv]⟩
set_option maxRecDepth 100000 in
set_option maxHeartbeats 2000000 in
theorem speaks25_any (w : World) (hG : Gt w) : Calls Tryd.prog 5 #[] w fun e w' => e = .returned (.bool true) ∧ Below w.heap.size w w' := by
  have hl := line_any exE none 0 w ex_sz ex_ok (Nat.le_refl _) (Rb.nil _ _) hG
  rw [ex_line] at hl
  have hb := build_ex w
  have hlen : exE.body.length = 0 := rfl
  rw [hlen] at hl
  obtain ⟨X, hX⟩ : ∃ X, (evl exE (.slice none 0 0)).toArray = X := ⟨_, rfl⟩
  rw [hX] at hb hl
  clear hX hlen
  go_enter Tryd.func5, Tryd.ntmps5
  go_wp2_with (first | (refine wpList_build3 rfl 28 _ _ _ (.agg X) _ _ _ rfl hb ?_) | (go_at_call 6; refine hl.mono ?_; rintro e w2 ⟨rfl, hb2⟩))
  go_ret
  exact ⟨rfl, hb2⟩

theorem x_load {P : Program} {a : Act} {o : Oper} {w : World} {t : TypeId} {x : Nat} {p V : Value} (ho : o.op = .load t (.tmp x)) (hx : a.eval (.tmp x) = p) (h : (Instr.loadAt t p).run P w = .ok V w) : (execOp a.eval o).run P w = .ok (.value V) w := by
  simp [execOp, ho, hx, h, Result.andThen]

end Go.Proofs.YtleolfpgiaimfaaDoor
