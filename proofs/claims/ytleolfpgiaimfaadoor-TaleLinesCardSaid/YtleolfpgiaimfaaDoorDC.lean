/- The forms' last region: what each operation's run gives. -/
import Derived.Test.YtleolfpgiaimfaaDoorDB
namespace Go.Proofs.YtleolfpgiaimfaaDoor
set_option linter.unusedVariables false
set_option linter.unusedSimpArgs false
open Go.RowKit Go.Shelf

theorem ev_tmp (a : Act) (s : Nat) : a.eval (.tmp s) = a.tmps.getD s undef := rfl
section
variable {a : Act} {o : Oper} {w : World}
theorem x_mk (ho : o.op = .makeMap 42 none) : (execOp a.eval o).run Tryd.prog w = .ok (.value (.map (some w.heap.size))) (w.alloc (.map #[] 0)) := by
  have hm : (Instr.makeMap 42 none).run Tryd.prog w = .ok (.map (some w.heap.size)) (w.alloc (.map #[] 0)) := by simp [Instr.makeMap]
  unfold execOp
  rw [ho]
  go_simp
theorem x_mv {s : Operand} (ho : o.op = .move s) : (execOp a.eval o).run Tryd.prog w = .ok (.value (a.eval s)) w := by
  unfold execOp
  rw [ho]
  go_simp
theorem x_as {s : Operand} (ho : o.op = .assign s) : (execOp a.eval o).run Tryd.prog w = .ok (.value (a.eval s)) w := by
  unfold execOp
  rw [ho]
  go_simp
theorem x_ld {s p : Nat} {x y : Value} (ho : o.op = .load 48 (.tmp s)) (hs : a.eval (.tmp s) = .pointer (some ⟨p, 0, none⟩)) (hr : Row w p 48 [x, y]) : (execOp a.eval o).run Tryd.prog w = .ok (.value (.agg #[x, y])) w := by
  have k0 := hr.cell (j := 0) rfl
  have k1 := hr.cell (j := 1) rfl
  unfold execOp
  rw [ho]
  simp only [hs]
  go_simp
theorem x_bs1 {s : Nat} {x y : Value} (ho : o.op = .buildSlice 38 1 #[(0, .tmp s)]) (hs : a.eval (.tmp s) = .agg #[x, y]) : (execOp a.eval o).run Tryd.prog w = .ok (.value (.slice (some ⟨w.heap.size, 0, none⟩) 1 1)) (w.alloc (.cells #[x, y] 48)) := by
  unfold execOp
  rw [ho]
  simp only [List.map_toArray, List.map_cons, List.map_nil, hs]
  go_simp
theorem x_bs2 {s0 s1 : Nat} {x0 y0 x1 y1 : Value} (ho : o.op = .buildSlice 38 2 #[(0, .tmp s0), (1, .tmp s1)]) (h0 : a.eval (.tmp s0) = .agg #[x0, y0]) (h1 : a.eval (.tmp s1) = .agg #[x1, y1]) : (execOp a.eval o).run Tryd.prog w = .ok (.value (.slice (some ⟨w.heap.size, 0, none⟩) 2 2)) (w.alloc (.cells #[x0, y0, x1, y1] 48)) := by
  unfold execOp
  rw [ho]
  simp only [List.map_toArray, List.map_cons, List.map_nil, h0, h1]
  go_simp
theorem x_bs3 {s0 s1 s2 : Nat} {x0 y0 x1 y1 x2 y2 : Value} (ho : o.op = .buildSlice 38 3 #[(0, .tmp s0), (1, .tmp s1), (2, .tmp s2)]) (h0 : a.eval (.tmp s0) = .agg #[x0, y0]) (h1 : a.eval (.tmp s1) = .agg #[x1, y1]) (h2 : a.eval (.tmp s2) = .agg #[x2, y2]) : (execOp a.eval o).run Tryd.prog w = .ok (.value (.slice (some ⟨w.heap.size, 0, none⟩) 3 3)) (w.alloc (.cells #[x0, y0, x1, y1, x2, y2] 48)) := by
  unfold execOp
  rw [ho]
  simp only [List.map_toArray, List.map_cons, List.map_nil, h0, h1, h2]
  go_simp
theorem x_bs6 {s0 s1 s2 s3 s4 s5 : Nat} {x0 y0 x1 y1 x2 y2 x3 y3 x4 y4 x5 y5 : Value} (ho : o.op = .buildSlice 38 6 #[(0, .tmp s0), (1, .tmp s1), (2, .tmp s2), (3, .tmp s3), (4, .tmp s4), (5, .tmp s5)]) (h0 : a.eval (.tmp s0) = .agg #[x0, y0]) (h1 : a.eval (.tmp s1) = .agg #[x1, y1]) (h2 : a.eval (.tmp s2) = .agg #[x2, y2]) (h3 : a.eval (.tmp s3) = .agg #[x3, y3]) (h4 : a.eval (.tmp s4) = .agg #[x4, y4]) (h5 : a.eval (.tmp s5) = .agg #[x5, y5]) : (execOp a.eval o).run Tryd.prog w = .ok (.value (.slice (some ⟨w.heap.size, 0, none⟩) 6 6)) (w.alloc (.cells #[x0, y0, x1, y1, x2, y2, x3, y3, x4, y4, x5, y5] 48)) := by
  unfold execOp
  rw [ho]
  simp only [List.map_toArray, List.map_cons, List.map_nil, h0, h1, h2, h3, h4, h5]
  go_simp
theorem x_bd {s : Nat} {l : ByteArray} {A : Option Addr} {n c : Nat} (ho : o.op = .build 40 #[(0, .const (.string l)), (1, .tmp s)]) (hs : a.eval (.tmp s) = .slice A n c) : (execOp a.eval o).run Tryd.prog w = .ok (.value (.agg #[.string l, .slice A n c])) w := by
  unfold execOp
  rw [ho]
  simp only [List.map_toArray, List.map_cons, List.map_nil, hs]
  go_simp
theorem x_ins {s : Nat} {k : Int} {v : Value} {B clock : Nat} {es : Array MapEntry} (ho : o.op = .insert 42 (.tmp 24) (.const (.int .i64 k)) (.tmp s)) (h1 : a.eval (.tmp 24) = .map (some B)) (hs : a.eval (.tmp s) = v) (hb : w.heap[B]? = some (.map es clock)) (hno : Instr.findNow (.int .i64) (.int .i64 k) es.toList 0 = some none) :
    (execOp a.eval o).run Tryd.prog w = .ok .skip (Go.ChangeMaps.setBlock w B (.map (es.push ⟨.int .i64 k, v, clock⟩) (clock + 1))) := by
  have h := run_update_new w 42 3 40 B clock es k v Tryd.underlying42 Tryd.underlying3 hb hno
  unfold execOp
  rw [ho]
  simp only [h1, hs]
  go_simp
end
section
variable {ops : Array Oper} {Q : Exit → Act → World → Prop} {i : Nat} {o : Oper} {K : Act → World → Prop} {a : Act} {w : World}
theorem wanted_none {P : Program} (hg : o.guard = none) {A B : Prop} (h : A) : if Region.wanted o (yielded ops a.tmps) = true then A else B := by
  have : Region.wanted o (yielded ops a.tmps) = true := by simp [Region.wanted, hg]
  rw [if_pos this]
  exact h
theorem op_value {P : Program} {v : Value} {w' : World} (ho : ops[i]? = some o) (hg : o.guard = none) (hr : (execOp a.eval o).run P w = .ok (.value v) w') (h : K (a.put o.dst v) w') : wpOp P ops Q i K a w :=
  wpOp_step ho fun K' hK => wanted_none (P := P) hg (by unfold Oper.wp; rw [hr]; exact hK _ _ h)
theorem op_skip {P : Program} {w' : World} (ho : ops[i]? = some o) (hg : o.guard = none) (hr : (execOp a.eval o).run P w = .ok .skip w') (h : K (a.put o.dst undef) w') : wpOp P ops Q i K a w :=
  wpOp_step ho fun K' hK => wanted_none (P := P) hg (by unfold Oper.wp; rw [hr]; exact hK _ _ h)
theorem op_call {P : Program} {f : Nat} {args : Array Value} (ho : ops[i]? = some o) (hg : o.guard = none) (hr : (execOp a.eval o).run P w = .ok (.enter f args) w) (h : Calls P f args w fun e w' => ∃ v, e = .returned v ∧ K (a.put o.dst v) w') : wpOp P ops Q i K a w :=
  wpOp_step ho fun K' hK => wanted_none (P := P) hg (by
    unfold Oper.wp
    rw [hr]
    refine h.mono ?_
    rintro e w' ⟨v, rfl, hk⟩
    exact hK _ _ hk)
theorem x_ys {f : Nat} (ho : o.op = .call { callee := .value (.func 38), args := #[.func f], argTypes := #[69] }) : (execOp a.eval o).run Tryd.prog w = .ok (.enter 38 #[fnV f]) w := by
  have eg : ∀ args w, (callFunc 38 args).run Tryd.prog w = .ok (.enter 38 args) w := enters_of Tryd.func38 (by kernel_rfl) rfl
  unfold execOp fnV
  rw [ho]
  go_simp
end
end Go.Proofs.YtleolfpgiaimfaaDoor
