/- What Read hands back; events loaded and stored whole; a field's reading. -/
import Derived.Test.YtleolfpgiaimfaaDoorDK
namespace Go.Proofs.YtleolfpgiaimfaaDoor
set_option linter.unusedVariables false
set_option linter.unusedSimpArgs false
open Go.RowKit Go.Shelf
open Go.ChangeMaps (setBlock)

theorem zev_size : zev.toArray.size = 46 := by kernel_rfl
theorem zev_len : zev.length = 46 := by kernel_rfl
theorem zev_one : zev.toArray.all (·.oneCell') = true := by kernel_rfl
theorem ev_info : (Tryd.prog.info? 28).map (·.size) = some 46 := by kernel_rfl
/-- an event's cells laid over another one's -/
theorem st_ev {W : World} {b : Nat} {cs : List Value} {v : Array Value} (h : Row W b 28 cs) (hc : cs.length = 46) (hv : v.size = 46) (h1 : v.all (·.oneCell') = true) : (storeCells ⟨b, 0, none⟩ v.toList 0).run Tryd.prog W = .ok () (W.setRow b v) := by
  have hi := ev_info
  have := run_storeVar_row (P := Tryd.prog) W b 28 28 cs.toArray v h (by rw [hi, hv]) (by simp [hc, hv]) h1
  cases hq : Tryd.prog.info? 28 with
  | none => simp [hq] at hi
  | some i =>
    have hs : v.size = i.size := by simp [hq] at hi; omega
    simpa [storeVar, sizeOf, typeInfo, hq, Value.cells, hs] using this
/-- an event's cells, taken whole -/
theorem ld_ev {W : World} {b : Nat} {cs : List Value} (h : Row W b 28 cs) (hc : cs.length = 46) : (loadCellsFrom ⟨b, 0, none⟩ 0 46 #[]).run Tryd.prog W = .ok cs.toArray W := by
  have := run_loadCells_list (P := Tryd.prog) W ⟨b, 0, none⟩ cs (fun j v hv => by
    have hadd : (⟨b, 0, none⟩ : Addr).add j = ⟨b, j, none⟩ := by unfold Addr.add; split <;> simp_all
    rw [hadd]
    exact h.cell hv)
  rw [hc] at this
  simpa [loadCells] using this
theorem Row.setRow {W : World} {b : Nat} {e : TypeId} {cs : List Value} (h : Row W b e cs) (v : Array Value) : Row (W.setRow b v) b e v.toList := by
  have hh : W.heap[b]? = some (.cells cs.toArray e (0, 0)) := h
  show (W.setRow b v).heap[b]? = _
  simp [World.setRow, Array.getElem?_modify, hh]
theorem ext_setRow (W : World) (b : Nat) (v : Array Value) : Ext (fun i => i = b) W (W.setRow b v) := ⟨rfl, rfl, rfl, by simp [World.setRow], fun k _ hs => by
  have : ¬ b = k := fun e => hs e.symm
  simp [World.setRow, Array.getElem?_modify, this]⟩
theorem ldv_ev {W : World} {b : Nat} {cs : List Value} (h : Row W b 28 cs) (hc : cs.length = 46) : (loadVar 28 ⟨b, 0, none⟩).run Tryd.prog W = .ok (.agg cs.toArray) W :=
  run_loadVar_row (P := Tryd.prog) W b 28 28 cs.toArray (0, 0) _ h Tryd.underlying28 rfl (by rw [ev_info]; simp [hc])
theorem ext_cell {S : Nat → Prop} {w w' : World} (h : Ext S w w') {b o : Nat} {v : Value} (hc : w.cell? ⟨b, o, none⟩ = some v) (hS : ¬ S b) : w'.cell? ⟨b, o, none⟩ = some v := (World.cell?_of_block (w := w) (h.block b (cell_lt hc) hS)).trans hc
theorem ne_iter {w : World} {g o it : Nat} {v : Value} {a : Option Nat} {b c : Nat} {s : Array Nat} (h : w.cell? ⟨g, o, none⟩ = some v) (hi : w.heap[it]? = some (.mapIter a b s c)) : ¬ (g = it) := fun e => by
  subst e
  simp [World.cell?, hi] at h
theorem splitP_cons (s : UInt8) : ∀ l : List UInt8, ∃ a r, splitP s l = a :: r
  | [] => ⟨_, _, rfl⟩
  | c :: l => by
    obtain ⟨a, r, h⟩ := splitP_cons s l
    rw [splitP]
    split
    · exact ⟨_, _, rfl⟩
    · rw [h]
      exact ⟨_, _, rfl⟩
theorem readFs_take : ∀ (fs : List Fk) (ss : List (List UInt8)) (E : Ev) (ok : Bool) (i : Nat) (x : Fk) (t : List UInt8), fs[i]? = some x → ss[i]? = some t →
    readFs (fs.take (i + 1)) ss E ok = ((x.read (readFs (fs.take i) ss E ok).1 t).1, (x.read (readFs (fs.take i) ss E ok).1 t).2 && (readFs (fs.take i) ss E ok).2)
  | [], _, _, _, _, _, _, h, _ => by simp at h
  | y :: fs, [], _, _, _, _, _, _, h => by simp at h
  | y :: fs, u :: ss, E, ok, 0, x, t, h, h2 => by
    simp at h h2
    subst h
    subst h2
    rw [List.take_succ_cons, List.take_zero]
    simp [readFs]
  | y :: fs, u :: ss, E, ok, i + 1, x, t, h, h2 => by
    rw [List.take_succ_cons, List.take_succ_cons, readFs, readFs]
    exact readFs_take fs ss _ _ i x t (by simpa using h) (by simpa using h2)
theorem read_sz {E : Ev} (h : E.Sz) (x : Fk) {t : List UInt8} (ht : t.length ≤ 1000000) : (x.read E t).1.Sz := by
  have hu := unhexL_len t
  cases x <;> refine ⟨?_, ?_, ?_⟩ <;> first | exact h.thread | exact h.body | exact h.rt | (show (unhexL t).1.length ≤ _; omega)
theorem readFs_sz : ∀ (fs : List Fk) (ss : List (List UInt8)) (E : Ev) (ok : Bool), E.Sz → (∀ t ∈ ss, t.length ≤ 1000000) → (readFs fs ss E ok).1.Sz
  | [], _, _, _, h, _ => by unfold readFs; exact h
  | _ :: _, [], _, _, h, _ => by unfold readFs; exact h
  | x :: fs, s :: ss, E, ok, h, ht => by
    rw [readFs]
    exact readFs_sz fs ss _ _ (read_sz h x (ht s (by simp))) fun t hx => ht t (by simp [hx])
theorem BoxOk.turned {w4 w w' : World} {x : Fk} {box b : Nat} (h4 : BoxOk w4 x box) (hb : Below w4.heap.size w4 w) (k : Ext (fun i => i = b) w w') (hbb : w4.heap.size ≤ b) : BoxOk w' x box := fun t f e =>
  k.row ((h4 t f e).below hb) fun e2 => by
    have e3 : box = b := e2
    have := (h4 t f e).lt
    omega
theorem formL_int {k : Int} {p : List UInt8 × List Fk} (h : formL k = some p) : isInt k := by
  rcases formL_some h with rfl | rfl | rfl | rfl | rfl | rfl | rfl | rfl | rfl <;> exact ⟨by omega, by omega⟩
theorem fvs_fn1 (x : Fk) (box : Nat) : ∃ f caps, (fvs x box).1 = .func (.func f) #[] caps := by
  cases x <;> exact ⟨_, _, rfl⟩
/-- the last of the variables in question -/
def gtop : Nat := 3
theorem Gt.extN {S : Nat → Prop} {w w' : World} (h : Gt w) (k : Ext S w w') (hS : ∀ j, j ≤ gtop → ¬ S j) : Gt w' := by
  obtain ⟨a, b, h1⟩ := h.esy
  obtain ⟨c, d, h2⟩ := h.era
  obtain ⟨m, h3⟩ := h.mx
  refine ⟨?_, ⟨a, b, ext_cell k h1 (hS _ (by decide))⟩, ⟨c, d, ext_cell k h2 (hS _ (by decide))⟩, ⟨m, ext_cell k h3 (hS _ (by decide))⟩⟩
  have h4 := h.pow
  unfold Lib.TabIs World.var? at h4 ⊢
  rw [gpow, Option.bind_some] at h4 ⊢
  rw [k.block _ h.lt (hS _ (by decide))]
  exact h4
/-- what a field's reading does, by what comes of it -/
def ReadTo (E2 : Ev) (rb : Bool) (w0 : Nat) (b : Nat) (w : World) (e : Ending) (w' : World) : Prop := e = .returned (.bool rb) ∧ ∃ (A : Option Addr) (c : Nat), EvAt w' b E2 A c ∧ Ext (fun i => i = b) w w' ∧ ∀ k, (Value.slice A E2.body.length c).ownBlock = some k → w0 ≤ k
theorem ReadAt.to {x : Fk} {s : List UInt8} {E E2 : Ev} {A0 : Option Addr} {c0 b w0 : Nat} {rb : Bool} {w : World} (hq : x.read E s = (E2, rb)) (hf : ∀ k, (Value.slice A0 E.body.length c0).ownBlock = some k → w0 ≤ k) (hw : w0 ≤ w.heap.size) {e : Ending} {w' : World} (h : ReadAt x s E A0 c0 b w e w') : ReadTo E2 rb w0 b w e w' := by
  obtain ⟨h1, A, c, h2, h3, h4⟩ := h
  rw [hq] at h1 h2 h4
  exact ⟨h1, A, c, h2, h3, fun k hk => (h4 k hk).elim (hf k) (fun h => by omega)⟩
/-- an event of a kind, nothing else in it -/
def zk (k : Int) : Array Value := (evl (zeroEv k) (.slice none 0 0)).toArray
theorem build_ev (k : Int) (W : World) : (Instr.build 28 #[(0, .int .i64 k)]).run Tryd.prog W = .ok (.agg (zk k)) W := by
  go_simp
  rfl
theorem wpList_build {P : Program} {w : World} {ops : Array Oper} {rest : List Oper} {o : Oper} {a : Act} {Q : Exit → Act → World → Prop} (hg : o.guard = none) (t : TypeId) (x : Operand) (hop : o.op = Op.build t #[(0, x)]) (u V : Value) (hx : a.eval x = u) (hrun : (Instr.build t #[(0, u)]).run P w = .ok V w)
    (h : wpList P ops Q rest (a.put o.dst V) w) : wpList P ops Q (o :: rest) a w := by
  refine wpList_plain hg fun K' hK' => ?_
  unfold Oper.wp
  simp [execOp, hop, hx, hrun, Result.andThen]
  exact hK' _ _ h
theorem wpList_load {P : Program} {w : World} {ops : Array Oper} {rest : List Oper} {o : Oper} {a : Act} {Q : Exit → Act → World → Prop} (t : TypeId) (x : Operand) (hop : o.op = Op.load t x) (u V : Value) (hx : a.eval x = u) (hw : Region.wanted o (yielded ops a.tmps) = true) (hrun : (Instr.loadAt t u).run P w = .ok V w)
    (h : wpList P ops Q rest (a.put o.dst V) w) : wpList P ops Q (o :: rest) a w := by
  refine wpList_step fun K' hK' => ?_
  rw [if_pos hw]
  unfold Oper.wp
  simp [execOp, hop, hx, hrun, Result.andThen]
  exact hK' _ _ h
theorem lda_ev {W : World} {b : Nat} {cs : List Value} (h : Row W b 28 cs) (hc : cs.length = 46) : (Instr.loadAt 28 (.pointer (some ⟨b, 0, none⟩))).run Tryd.prog W = .ok (.agg cs.toArray) W := by
  simp only [Instr.loadAt, Instr.sureAddr, Sem.run_bind, Sem.run_pure, Result.andThen]
  exact ldv_ev h hc
theorem zk_size (k : Int) : (zk k).size = 46 := rfl
theorem evl_one (E : Ev) (A : Option Addr) (n c : Nat) : (evl E (.slice A n c)).toArray.all (·.oneCell') = true := by
  simp [evl, Value.oneCell', bv]
theorem store_new_ev (W : World) (c c' : Array Value) (h : c.size = 46) (h' : c'.size = 46) (h1 : c'.all (·.oneCell') = true) : (storeCells ⟨W.heap.size, 0, none⟩ c'.toList 0).run Tryd.prog (W.alloc (.cells c 28)) = .ok () (W.alloc (.cells c' 28)) :=
  run_storeCells_new W _ c c' (by rw [ev_info, h']) (by rw [h, h']) h1
/-- what Read hands back -/
def ROut (s : List UInt8) (W0 : World) (e : Ending) (w' : World) : Prop := ∃ (E : Ev) (A : Option Addr) (c : Nat) (code : Int), e = .returned (.tuple #[.agg (evl E (.slice A E.body.length c)).toArray, .int .i64 code]) ∧ E.Ok ∧ E.Sz ∧ E.body.length ≤ c ∧ Rb w' A E.body ∧ ((code = 0 ∧ readOne E.kind s = some E) ∨ (code = 3 ∧ E = zeroEv 0 ∧ ∀ k, readOne k s = none)) ∧ Below W0.heap.size W0 w'
theorem run_range_forms {W : World} {B clock : Nat} {es : Array MapEntry} (h : FormsAt W B es clock) : (Instr.range 42 (.map (some B))).run Tryd.prog W = .ok (.pointer (some ⟨W.heap.size, 0, none⟩)) (W.alloc (.mapIter (some B) clock #[] clock)) :=
  run_range_map W _ _ _ B es clock Tryd.underlying42 h.1
/-- where a round of Read stands -/
structure RdAt (s : List UInt8) (w3 : World) (it B clock : Nat) (es : Array MapEntry) (seen : Array Nat) (wr : World) : Prop where
  iter : ∃ c0, wr.heap[it]? = some (.mapIter (some B) clock seen c0) ∧ clock ≤ c0
  forms : FormsAt wr B es clock
  no : ∀ e ∈ es.toList, seen.contains e.born = true → ∀ k, e.key = .int .i64 k → readOne k s = none
  ext : Ext (fun i => i = it) w3 wr

theorem iterSeen_of {w : World} {it : Nat} {a : Option Nat} {b c : Nat} {s : Array Nat} (h : w.heap[it]? = some (.mapIter a b s c)) : w.iterSeen it = s := by
  unfold World.iterSeen
  rw [h]
theorem RdAt.next {s : List UInt8} {w3 wr w4 w' : World} {it B clock : Nat} {es : Array MapEntry} {seen : Array Nat} {e : MapEntry} {k : Int} (h : RdAt s w3 it B clock es seen wr) (hE4 : Ext (fun i => i = it) wr w4) (hF4 : FormsAt w4 B es clock) (hit4 : w4.heap[it]? = some (.mapIter (some B) clock (seen.push e.born) clock))
    (he : e ∈ es.toList) (hek : e.key = .int .i64 k) (hno : readOne k s = none) (hx : Ext (fun i => w4.heap.size ≤ i) w4 w') : RdAt s w3 it B clock es (seen.push e.born) w' := by
  have hb : Below w4.heap.size w4 w' := ⟨hx.os, hx.tape, hx.output, hx.size, fun k hk => hx.block k hk (by omega)⟩
  refine ⟨⟨clock, (hb.block it (Array.getElem?_eq_some_iff.1 hit4).1).trans hit4, Nat.le_refl _⟩, hF4.below hb, fun e' he' hs k' hk' => ?_, (h.ext.trans hE4 fun _ h => .inl h).belowR hb⟩
  rw [contains_push] at hs
  cases hc : seen.contains e'.born with
  | true => exact h.no e' he' hc k' hk'
  | false =>
    rw [hc, Bool.false_or, beq_iff_eq] at hs
    have h1 := born_inj hF4.2.2.1 he' he hs
    rw [h1, hek] at hk'
    cases hk'
    exact hno
theorem RdAt.shrinks {s : List UInt8} {w3 wr w' : World} {it B clock : Nat} {es : Array MapEntry} {seen : Array Nat} {e : MapEntry} (h : RdAt s w3 it B clock es seen wr) (h' : RdAt s w3 it B clock es (seen.push e.born) w') (hsh : (leftOf es (seen.push e.born)).size < (leftOf es seen).size) : (leftOf es (w'.iterSeen it)).size < (leftOf es (wr.iterSeen it)).size := by
  obtain ⟨c0, h1, _⟩ := h.iter
  obtain ⟨c1, h2, _⟩ := h'.iter
  rw [iterSeen_of h1, iterSeen_of h2]
  exact hsh
theorem readOne_word {k : Int} {s word w0 : List UInt8} {wt : List (List UInt8)} {fs : List Fk} (hf : formL k = some (word, fs)) (hs : splitP 32 s = w0 :: wt) (h : ¬ word = w0) : readOne k s = none := by
  unfold readOne fits
  rw [hf, hs]
  simp [Ne.symm h]
theorem readOne_len {k : Int} {s word w0 : List UInt8} {wt : List (List UInt8)} {fs : List Fk} (hf : formL k = some (word, fs)) (hs : splitP 32 s = w0 :: wt) (h : ¬ fs.length + 1 = (w0 :: wt).length) : readOne k s = none := by
  unfold readOne fits
  rw [hf, hs]
  simp only [h, and_false, if_false]
theorem readOne_fit {k : Int} {s word : List UInt8} {wt : List (List UInt8)} {fs : List Fk} {E : Ev} {ok : Bool} (hf : formL k = some (word, fs)) (hs : splitP 32 s = word :: wt) (h : fs.length + 1 = (word :: wt).length) (hr : readFs fs wt (zeroEv k) true = (E, ok)) : readOne k s = if ok = true ∧ lineL E = s then some E else none := by
  unfold readOne fits
  rw [hf, hs]
  simp only [List.getElem?_cons_zero, h, and_self, if_true, List.tail_cons, hr]
theorem ext_of_below {w w' : World} (h : Below w.heap.size w w') : Ext (fun i => w.heap.size ≤ i) w w' := Ext.of_below _ h

end Go.Proofs.YtleolfpgiaimfaaDoor
