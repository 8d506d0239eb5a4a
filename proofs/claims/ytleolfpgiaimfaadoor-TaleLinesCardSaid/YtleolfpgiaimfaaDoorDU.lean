/- The document's Same: an event is the same as itself. -/
import Derived.Test.YtleolfpgiaimfaaDoorDT
import Derived.Stop.BytesEq
namespace Go.Proofs.YtleolfpgiaimfaaDoor
set_option linter.unusedVariables false
set_option linter.unusedSimpArgs false
open Go.RowKit Go.Shelf

theorem wpList_eql {P : Program} {w : World} {ops : Array Oper} {rest : List Oper} {o : Oper} {a : Act} {Q : Exit → Act → World → Prop} (t tr : TypeId) (x y : Nat) (hop : o.op = Op.binOp .eql t (.tmp x) (.tmp y) tr) (u V : Value) (hx : a.eval (.tmp x) = u) (hy : a.eval (.tmp y) = u) (hw : Region.wanted o (yielded ops a.tmps) = true) (hrun : (binOp .eql t u u).run P w = .ok V w) (hg : (eqGuard .eql t (.tmp x) (.tmp y) u u).run P w = .ok () w)
    (h : wpList P ops Q rest (a.put o.dst V) w) : wpList P ops Q (o :: rest) a w := by
  refine wpList_step fun K' hK' => ?_
  rw [if_pos hw]
  unfold Oper.wp
  simp [execOp, hop, hx, hy, hrun, hg, Result.andThen]
  exact hK' _ _ h
theorem lda_fresh {W : World} {b c : Nat} {E : Ev} {A : Option Addr} (h : EvR W b E A c) (hf : E.fresh.length = 32) : (Instr.loadAt 24 (.pointer (some ⟨b, 10, none⟩))).run Tryd.prog W = .ok (.agg (E.fresh.map bv).toArray) W := by
  have hi : (Tryd.prog.info? 24).map (·.size) = some 32 := by kernel_rfl
  have hl := run_loadCells_list (P := Tryd.prog) W ⟨b, 10, none⟩ (E.fresh.map bv) (fun j v hv => by
    have hadd : (⟨b, 10, none⟩ : Addr).add j = ⟨b, 10 + j, none⟩ := by unfold Addr.add; split <;> simp_all
    have hlt := lt_of_get hv
    rw [List.length_map, hf] at hlt
    rw [hadd, h.row.cell (evl_fresh hf hlt), ← hv, List.getElem?_map, List.getD_eq_getElem?_getD, List.getElem?_eq_getElem (by omega)]
    rfl)
  rw [List.length_map, hf] at hl
  simp only [Instr.loadAt, Instr.sureAddr, Sem.run_bind, Sem.run_pure, Result.andThen]
  cases hq : Tryd.prog.info? 24 with
  | none => rw [hq] at hi; cases hi
  | some i =>
    have hs : i.size = 32 := by rw [hq] at hi; simpa using hi
    simp [loadVar, isAgg, run_underlying Tryd.underlying24, sizeOf, typeInfo, hq, hs, hl]
theorem eql_fresh (l : List UInt8) (hl : l.length = 32) (W : World) : (binOp .eql 24 (.agg (l.map bv).toArray) (.agg (l.map bv).toArray)).run Tryd.prog W = .ok (.bool true) W := by
  have := run_eql_bytes (P := Tryd.prog) (w := W) 24 5 32 Tryd.underlying24 Tryd.underlying5 (fun w => by
    have hi : (Tryd.prog.info? 5).map (·.size) = some 1 := info8
    cases hq : Tryd.prog.info? 5 with
    | none => rw [hq] at hi; cases hi
    | some i =>
      have hs : i.size = 1 := by rw [hq] at hi; simpa using hi
      simp [sizeOf, typeInfo, hq, hs]) l l hl hl
  rw [show (l == l) = true from beq_self_eq_true l] at this
  exact this
theorem guard_fresh (V : Array Value) (W : World) (x y : Nat) : (eqGuard .eql 24 (.tmp x) (.tmp y) (.agg V) (.agg V)).run Tryd.prog W = .ok () W := by
  simp [eqGuard, run_underlying Tryd.underlying24]

set_option maxRecDepth 100000 in
set_option maxHeartbeats 4000000 in
theorem rsame_any (E : Ev) (A A' : Option Addr) (c c' : Nat) (w : World) (hok : E.Ok) (hfit : E.body.length ≤ c) (hR : Rb w A E.body) (hfit' : E.body.length ≤ c') (hR' : Rb w A' E.body) :
    Calls Tryd.prog 9 #[.agg (evl E (.slice A E.body.length c)).toArray, .agg (evl E (.slice A' E.body.length c')).toArray] w fun e w' => e = .returned (.bool true) ∧ Below w.heap.size w w' := by
  have hr0 : Row (w.alloc (.cells (evl E (.slice A E.body.length c)).toArray 28)) w.heap.size 28 (evl E (.slice A E.body.length c)) := Row.new w _ _
  have hB0 : Below w.heap.size w (w.alloc (.cells (evl E (.slice A E.body.length c)).toArray 28)) := (Below.refl _ w).alloc (Nat.le_refl _) _
  obtain ⟨X, hX⟩ : ∃ X, (evl E (.slice A E.body.length c)).toArray = X := ⟨_, rfl⟩
  obtain ⟨Y, hY⟩ : ∃ Y, (evl E (.slice A' E.body.length c')).toArray = Y := ⟨_, rfl⟩
  have hBa : Below (w.alloc (.cells X 28)).heap.size (w.alloc (.cells X 28)) ((w.alloc (.cells X 28)).alloc (.cells Y 28)) := (Below.refl _ _).alloc (Nat.le_refl _) _
  have hr1 : Row ((w.alloc (.cells X 28)).alloc (.cells (evl E (.slice A' E.body.length c')).toArray 28)) (w.heap.size + 1) 28 (evl E (.slice A' E.body.length c')) := by
    have h := Row.new (w.alloc (.cells X 28)) (evl E (.slice A' E.body.length c')).toArray 28
    rw [World.size_alloc] at h
    exact h
  rw [hX] at hB0 hr0 ⊢
  rw [hY] at hr1 ⊢
  have hB1 := hB0.trans (hBa.mono hB0.size)
  have hE0 : EvR ((w.alloc (.cells X 28)).alloc (.cells Y 28)) w.heap.size E A c := ⟨hr0.below hBa, hfit, hR.below hB1⟩
  have hE1 : EvR ((w.alloc (.cells X 28)).alloc (.cells Y 28)) (w.heap.size + 1) E A' c' := ⟨hr1, hfit', hR'.below hB1⟩
  obtain ⟨p0, p1, p2, p3, p4, p5, p6, p7, p8, p9, p42, p43, p44, p45⟩ := hE0.cells hok
  obtain ⟨q0, q1, q2, q3, q4, q5, q6, q7, q8, q9, q42, q43, q44, q45⟩ := hE1.cells hok
  have hf0 := lda_fresh hE0 hok.fresh
  have hf1 := lda_fresh hE1 hok.fresh
  have heq := fun W => eql_fresh E.fresh hok.fresh W
  have hgd := fun V W => guard_fresh V W 77 79
  have hcv0 := conv_str (P := Tryd.prog) (src := 22) (dst := 9) (e := 5) Tryd.underlying22 Tryd.underlying5 Tryd.underlying9 (c := c) hE0.body rfl
  have hcv1 := conv_str (P := Tryd.prog) (src := 22) (dst := 9) (e := 5) Tryd.underlying22 Tryd.underlying5 Tryd.underlying9 (c := c') hE1.body rfl
  obtain ⟨V, hV⟩ : ∃ V, (E.fresh.map bv).toArray = V := ⟨_, rfl⟩
  obtain ⟨n, hn⟩ : ∃ n, E.body.length = n := ⟨_, rfl⟩
  rw [hV] at hf0 hf1 heq
  rw [hn] at hcv0 hcv1 p6 q6
  unfold bv at p9 q9
  clear hX hY hV hn hr0 hr1 hE0 hE1 hBa hB0 hR hR' hfit hfit' hok
  generalize E.kind = x0 at *
  generalize E.who = x1 at *
  generalize E.dst = x2 at *
  generalize E.n = x3 at *
  generalize E.m = x4 at *
  generalize E.thread = x5 at *
  generalize E.body = x6 at *
  generalize E.sec = x7 at *
  generalize E.stays = x8 at *
  generalize (E.turn.toNat : Int) = x9 at *
  generalize E.rk = x42 at *
  generalize E.rn = x43 at *
  generalize E.rm = x44 at *
  generalize E.rt = x45 at *
  go_enter Tryd.func9, Tryd.ntmps9
  go_wp2_with (first
    | (refine wpList_load 24 (.tmp 76) rfl (.pointer (some ⟨w.heap.size, 10, none⟩)) (.agg V) rfl rfl hf0 ?_)
    | (refine wpList_load 24 (.tmp 78) rfl (.pointer (some ⟨w.heap.size + 1, 10, none⟩)) (.agg V) rfl rfl hf1 ?_)
    | (refine wpList_eql 24 4 77 79 rfl (.agg V) (.bool true) rfl rfl rfl (heq _) (hgd _ _) ?_))
  go_ret
  exact ⟨rfl, hB1⟩

end Go.Proofs.YtleolfpgiaimfaaDoor
