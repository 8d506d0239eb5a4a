/- What a call may change; values whose blocks lie apart; rows of rows of bytes. Nothing of the program but its types' numbers. · The program's split: a row of lines, each with its end, each where it lies in the bytes. -/
import Derived.Test.YtcagkoakbdbbaaaGreatDoorJ05
import Derived.Test.YtcagkoakbdbbaaaGreatDoorJ07
namespace Go.Proofs.YtcagkoakbdbbaaaGreatDoor
set_option linter.unusedVariables false
set_option linter.unusedSimpArgs false
open Go.RowKit

theorem bcell {W w1 : World} (hb : Below W.heap.size W w1) : (∀ b o, b < W.heap.size → w1.cell? ⟨b, o, none⟩ = W.cell? ⟨b, o, none⟩) ∧ (∀ b o, b < W.heap.size → w1.frozen? ⟨b, o, none⟩ = W.frozen? ⟨b, o, none⟩) :=
  ⟨fun b o h => hb.cell (p := ⟨b, o, none⟩) h, fun b o h => hb.frozen (p := ⟨b, o, none⟩) h⟩

/-- what lies outside of S is as it was -/
structure Ext (S : Nat → Prop) (w w' : World) : Prop where
  os : w'.os = w.os
  tape : w'.tape = w.tape
  output : w'.output = w.output
  size : w.heap.size ≤ w'.heap.size
  block : ∀ k, k < w.heap.size → ¬ S k → w'.heap[k]? = w.heap[k]?
section
variable {S T : Nat → Prop} {w w' w'' : World}
theorem Ext.refl (S : Nat → Prop) (w : World) : Ext S w w := ⟨rfl, rfl, rfl, Nat.le_refl _, fun _ _ _ => rfl⟩
theorem Ext.trans (h : Ext S w w') (k : Ext T w' w'') (hT : ∀ b, T b → S b ∨ w.heap.size ≤ b) : Ext S w w'' :=
  ⟨k.os.trans h.os, k.tape.trans h.tape, k.output.trans h.output, Nat.le_trans h.size k.size, fun b hb hs =>
    (k.block b (Nat.lt_of_lt_of_le hb h.size) fun ht => (hT b ht).elim hs (fun hl => by omega)).trans (h.block b hb hs)⟩
theorem Ext.of_below (S : Nat → Prop) (h : Below w.heap.size w w') : Ext S w w' := ⟨h.os, h.tape, h.output, h.size, fun k hk _ => h.block k hk⟩
theorem Ext.of_grown {row : Option Nat} (h : w.grownBy w' row) (hS : ∀ k, row = some k → S k) : Ext S w w' := by
  obtain ⟨h1, h2, h3, h4, h5⟩ := h
  exact ⟨h1, h2, h3, h4, fun k hk hs => h5 k hk fun e => hs (hS k e.symm)⟩
theorem Ext.setCell (S : Nat → Prop) (w : World) (a : Addr) (v : Value) (hS : S a.block) : Ext S w (w.setCell a v) := ⟨rfl, rfl, rfl, by simp, fun k _ hs => Below.heap_setCell w a v k (fun e => hs (e ▸ hS))⟩
theorem Ext.set (h : Ext S w w') (a : Addr) (v : Value) (hS : S a.block) : Ext S w (w'.setCell a v) := h.trans (Ext.setCell S w' a v hS) fun _ hb => .inl hb
theorem Ext.drew (h : Ext S w w') : Ext S w w'.drew := ⟨h.os, h.tape, h.output, h.size, h.block⟩
theorem Ext.alloc (h : Ext S w w') (o : Obj) : Ext S w (w'.alloc o) := h.trans (Ext.of_below S ((Below.refl _ w').alloc (Nat.le_refl _) o)) fun _ hb => .inl hb
theorem Ext.belowR (h : Ext S w w') (hb : Below w'.heap.size w' w'') : Ext S w w'' := h.trans (Ext.of_below S hb) fun _ hb => .inl hb
theorem Ext.belowL (hb : Below w.heap.size w w') (h : Ext S w' w'') : Ext S w w'' := (Ext.of_below S hb).trans h fun _ hb => .inl hb
theorem Ext.mono (h : Ext S w w') (hT : ∀ b, S b → T b) : Ext T w w' := ⟨h.os, h.tape, h.output, h.size, fun k hk hn => h.block k hk fun hs => hn (hT k hs)⟩
theorem Ext.below {B : Nat} {w0 : World} (h : Ext S w w') (hB : Below B w0 w) (hBw : B ≤ w.heap.size) (hS : ∀ b, S b → B ≤ b) : Below B w0 w' :=
  hB.trans ⟨h.os, h.tape, h.output, h.size, fun k hk => h.block k (by omega) fun hs => by have := hS k hs; omega⟩
theorem Ext.row (h : Ext S w w') {g : Nat} {e : TypeId} {cs : List Value} (hr : Row w g e cs) (hg : ¬ S g) : Row w' g e cs := (h.block g hr.lt hg).trans hr
theorem Ext.own (h : Ext S w w') {base e size n : Nat} {v : Value} {xs : List Value} (hv : OwnM w base e size v n xs) (hg : ∀ k, v.ownBlock = some k → ¬ S k) : OwnM w' base e size v n xs := by
  refine ⟨hv.1, ?_⟩
  rcases hv.2 with hn | ⟨g, cap, cur, fz, rfl, hb, hgg, rest⟩
  · exact .inl hn
  · refine .inr ⟨g, cap, cur, fz, rfl, hb, ?_, rest⟩
    rw [h.block g (Array.getElem?_eq_some_iff.1 hgg).1 (hg g (by simp [Value.ownBlock]))]
    exact hgg
end

/-- this is the block of that value -/
def nb (v : Value) (k : Nat) : Prop := v.ownBlock = some k
/-- values whose blocks lie apart -/
def Sep (vs : List Value) : Prop := ∀ (i j : Nat) (u v : Value), i ≠ j → vs[i]? = some u → vs[j]? = some v → ∀ k, nb u k → nb v k → False
theorem Sep.upd {vs : List Value} {i N : Nat} {v v' : Value} (h : Sep vs) (hi : vs[i]? = some v) (hlt : ∀ u ∈ vs, ∀ k, nb u k → k < N) (hv : ∀ k, nb v' k → nb v k ∨ N ≤ k) : Sep (vs.set i v') := by
  intro a b x y hab ha hb k hx hy
  have hil := lt_of_get hi
  rw [List.getElem?_set] at ha hb
  by_cases h1 : i = a
  · subst h1
    rw [if_pos rfl, if_pos hil] at ha
    cases ha
    rw [if_neg hab] at hb
    rcases hv k hx with h2 | h2
    · exact h i b v y hab hi hb k h2 hy
    · have := hlt y (List.mem_of_getElem? hb) k hy
      omega
  · rw [if_neg h1] at ha
    by_cases h2 : i = b
    · subst h2
      rw [if_pos rfl, if_pos hil] at hb
      cases hb
      rcases hv k hy with h3 | h3
      · exact h a i x v hab ha hi k hx h3
      · have := hlt x (List.mem_of_getElem? ha) k hx
        omega
    · rw [if_neg h2] at hb
      exact h a b x y hab ha hb k hx hy
/-- a pointer's block, as a value's -/
def pv (p : Nat) : Value := .slice (some ⟨p, 0, none⟩) 0 0
theorem nb_pv {p k : Nat} : nb (pv p) k ↔ k = p := by simp [nb, pv, Value.ownBlock, eq_comm]
theorem nb_nil {k n c : Nat} : ¬ nb (.slice none n c) k := by simp [nb, Value.ownBlock]

/-- values that only get fresh blocks -/
theorem mem_upd {vs : List Value} {i N : Nat} {v v' : Value} (hi : vs[i]? = some v) (hv : ∀ k, nb v' k → nb v k ∨ N ≤ k) : ∀ k, k < N → (∃ u ∈ vs.set i v', nb u k) → ∃ u ∈ vs, nb u k := by
  rintro k hk ⟨u, hu, hn⟩
  rcases List.mem_or_eq_of_mem_set hu with h | h
  · exact ⟨u, h, hn⟩
  · rw [h] at hn
    rcases hv k hn with h2 | h2
    · exact ⟨v, List.mem_of_getElem? hi, h2⟩
    · omega
/-- a line with its value -/
abbrev Tl := List UInt8 × Value
/-- lines lie in memory, apart from these values -/
def LsOk (w : World) (base : Nat) (vs : List Value) (ts : List Tl) : Prop := ∀ t ∈ ts, OwnM w base 5 1 t.2 t.1.length (t.1.map bv) ∧ ∀ k, nb t.2 k → ∀ v ∈ vs, ¬ nb v k
theorem LsOk.next {w w' : World} {base : Nat} {vs vs' : List Value} {ts : List Tl} {S : Nat → Prop} (h : LsOk w base vs ts) (hx : Ext S w w') (hS : ∀ k, k < w.heap.size → S k → ∃ v ∈ vs, nb v k) (hv : ∀ k, k < w.heap.size → (∃ v ∈ vs', nb v k) → ∃ v ∈ vs, nb v k) : LsOk w' base vs' ts := by
  intro t ht
  obtain ⟨h1, h3⟩ := h t ht
  have hlt : ∀ k, nb t.2 k → k < w.heap.size := fun k hk => (h1.lt k hk).2
  refine ⟨hx.own h1 fun k hk hs => ?_, fun k hk v hvm hvk => ?_⟩
  · obtain ⟨v, hv1, hv2⟩ := hS k (hlt k hk) hs
    exact h3 k hk v hv1 hv2
  · obtain ⟨u, hu1, hu2⟩ := hv k (hlt k hk) ⟨v, hvm, hvk⟩
    exact h3 k hk u hu1 hu2
theorem LsOk.below {w w' : World} {base : Nat} {vs : List Value} {ts : List Tl} (h : LsOk w base vs ts) (hb : Below w.heap.size w w') : LsOk w' base vs ts := h.next (S := fun _ => False) (Ext.of_below _ hb) (fun _ _ hs => hs.elim) fun _ _ hv => hv

theorem step_appM {P : Program} {w : World} {ops : Array Oper} {o : Oper} {a : Act} {K : Act → World → Prop} {Q : Exit → Act → World → Prop} {E : Prop} (hgd : o.guard = none) (s x : Operand) (t tx : TypeId)
    (ho : o.op = .call { callee := .builtin .append, args := #[s, x], argTypes := #[t, tx] }) {e : TypeId} {size bytes : Nat} (T : ElT P t e size bytes) {base : Nat} {v : Value} {n : Nat} {xs : List Value}
    (hown : OwnM w base e size v n xs) (hs : a.eval s = v) {y : Value} {m : Nat} {news : List Value} (hsrc : Src P size tx y m news w) (hx : a.eval x = y) (hb : (n + m) * bytes ≤ 140737488355328) (hbase : base ≤ w.heap.size)
    (h : ∀ v' w', OwnM w' base e size v' (n + m) (xs ++ news) → w.grownBy w' v.ownBlock → (v'.ownBlock = v.ownBlock ∨ v'.ownBlock = some w.heap.size) → K (a.put o.dst v') w') :
    if Region.wanted o (yielded ops a.tmps) = true then Oper.wp P o a w K Q else E := by
  have hw : Region.wanted o (yielded ops a.tmps) = true := by simp [Region.wanted, hgd]
  rw [if_pos hw]
  exact wp_appM s x t tx ho T hown hs hsrc hx hb hbase h

theorem Rb.ext {S : Nat → Prop} {w w' : World} {A : Option Addr} {l : List UInt8} (h : Rb w A l) (hx : Ext S w w') (hc : ∀ k cs t fr, w.heap[k]? = some (.cells cs t fr) → ¬ S k) : Rb w' A l := fun hp => by
  obtain ⟨b, o, e, hcell⟩ := h hp
  refine ⟨b, o, e, fun j v hj => ?_⟩
  have h1 := hcell j v hj
  have hlt := cell_lt h1
  have hb : ∃ cs t fr, w.heap[b]? = some (.cells cs t fr) := by
    unfold World.cell? at h1
    simp only at h1
    split at h1
    · rename_i cs t fr hh
      exact ⟨cs, t, fr, hh⟩
    · cases h1
  obtain ⟨cs, t, fr, hb⟩ := hb
  exact (World.cell?_of_block (w := w) (hx.block b hlt (hc b cs t fr hb))).trans h1
theorem OwnM.ext {S : Nat → Prop} {w w' : World} {base : Nat} {e : TypeId} {size : Nat} {v : Value} {n : Nat} {xs : List Value} (h : OwnM w base e size v n xs) (hx : Ext S w w') (hc : ∀ k cs t fr, w.heap[k]? = some (.cells cs t fr) → ¬ S k) : OwnM w' base e size v n xs := by
  refine hx.own h fun k hk => ?_
  rcases h.2 with ⟨rfl, _⟩ | ⟨g, cap, cur, fz, rfl, _, hgg, _⟩
  · simp [Value.ownBlock] at hk
  · simp [Value.ownBlock] at hk
    subst hk
    exact hc _ _ _ _ hgg
theorem LsOk.ext {S : Nat → Prop} {w w' : World} {base : Nat} {vs : List Value} {ts : List Tl} (h : LsOk w base vs ts) (hx : Ext S w w') (hc : ∀ k cs t fr, w.heap[k]? = some (.cells cs t fr) → ¬ S k) : LsOk w' base vs ts := fun t ht =>
  ⟨(h t ht).1.ext hx hc, (h t ht).2⟩
theorem box_ext {S : Nat → Prop} {w w' : World} {B : Nat} {t : TypeId} {v : Value} (h : Boxed w B t v) (hx : Ext S w w') (hc : ∀ k cs t fr, w.heap[k]? = some (.cells cs t fr) → ¬ S k) : Boxed w' B t v := (hx.block B h.lt (hc B _ _ _ h)).trans h
theorem box_ext2 {S : Nat → Prop} {w w' : World} {B : Nat} {t : TypeId} {v : Value} (h : Boxed w B t v) (hx : Ext S w w') (hc : ¬ S B) : Boxed w' B t v := (hx.block B h.lt hc).trans h
theorem ext_putObj (W : World) (l : Nat) (o : Obj) : Ext (fun k => k = l) W (W.putObj l o) := Ext.of_grown (grownBy_putObj' W l o) fun k e => (Option.some.inj e).symm
theorem ext_none {W W' : World} (h : W.grownBy W' none) : Ext (fun _ => False) W W' := Ext.of_grown h fun k e => by cases e
theorem not_cells {W : World} {l : Nat} {o : Obj} (hl : W.heap[l]? = some o) (ho : o.isCells = false) : ∀ k cs t fr, W.heap[k]? = some (.cells cs t fr) → ¬ k = l := fun k cs t fr hk e => by
  subst e
  rw [hk] at hl
  cases hl
  cases ho

theorem infoBs : (Tryz.prog.info? 22).map (fun i => (i.zero, i.size, i.bytes)) = some (some (.slice none 0 0), 1, 24) := by kernel_rfl
theorem TBs : ElT Tryz.prog 47 22 1 24 := ElT.mk' (z := .slice none 0 0) Tryz.underlying47 (by omega) (by omega) rfl infoBs

end Go.Proofs.YtcagkoakbdbbaaaGreatDoor

namespace Go.Proofs.YtcagkoakbdbbaaaGreatDoor
set_option linter.unusedVariables false
set_option linter.unusedSimpArgs false
open Go.RowKit Go.Shelf

attribute [local go_sem] Oper.semAt_some

theorem lines_row (f Bs n c : Nat) (A : Option Addr) (b : List UInt8) (hn : b.length = n) (hnc : n ≤ c) (hb : n ≤ 1000000000) (w : World)
    (hA : Rb w A b) (hBs : Boxed w Bs 22 (.slice A n c)) :
    SeqRow Fence.wide f Tryz.prog 81 #[.pointer (some ⟨Bs, 0, none⟩)] (fun x => #[lnV A x]) (LnK Bs A b) (some Bs) (fun ys => lnEnd ys = b.length) (fun _ => True) (fun pre x => LnOk b (lnEnd pre) x) w :=
  fun l J Jx W hW hJ _ hY h0 => lines1_in f l Bs n c A b hn hnc hb J Jx hJ hY W (box_below hBs hW) (hA.below hW) h0

theorem keepsH {W W' : World} {base e size n : Nat} {v : Value} {xs : List Value} (hrow : W.ownsRow base e size v n xs) (hg : W.grownBy W' v.ownBlock) : KeepsOthers W W' :=
  KeepsOthers.of_grownBy hg fun j o ej hj => by
    rcases hrow.2 with ⟨rfl, _⟩ | ⟨g, cap, cur, rfl, _, hgb, _⟩
    · simp [Value.ownBlock] at ej
    · obtain rfl : g = j := by simpa [Value.ownBlock] using ej
      rw [hgb] at hj; cases hj; rfl
/-- the program's memory while the lines are taken -/
structure LsI (w : World) (A : Option Addr) (b : List UInt8) (W : World) (ov : Value) (ps : List (Nat × Nat)) : Prop where
  bO : Boxed W w.heap.size 47 ov
  ow : W.ownsRow (w.heap.size + 2) 22 1 ov ps.length (ps.map (lnV A))
  be : Below w.heap.size w W
  sz : w.heap.size + 2 ≤ W.heap.size
theorem own_ext {S : Nat → Prop} {W W' : World} {base e size n : Nat} {v : Value} {xs : List Value} (h : W.ownsRow base e size v n xs) (hx : Ext S W W') (hS : ∀ k cs t fr, base ≤ k → W.heap[k]? = some (.cells cs t fr) → ¬ S k) : W'.ownsRow base e size v n xs := by
  refine ⟨h.1, ?_⟩
  rcases h.2 with hn | ⟨g, cap, cur, hv, hb, hg, rest⟩
  · exact .inl hn
  · exact .inr ⟨g, cap, cur, hv, hb, (hx.block g (Array.getElem?_eq_some_iff.1 hg).1 (hS g _ _ _ hb hg)).trans hg, rest⟩
theorem LsI.next {w : World} {A : Option Addr} {b : List UInt8} {W W' : World} {ov : Value} {ps : List (Nat × Nat)} {S : Nat → Prop} (h : LsI w A b W ov ps) (hx : Ext S W W')
    (h1 : ¬ S w.heap.size) (h2 : ∀ k cs t fr, w.heap.size + 2 ≤ k → W.heap[k]? = some (.cells cs t fr) → ¬ S k) (h3 : ∀ k, S k → w.heap.size ≤ k) : LsI w A b W' ov ps :=
  ⟨box_ext2 h.bO hx h1, own_ext h.ow hx h2, hx.below h.be h.be.size h3, Nat.le_trans h.sz hx.size⟩
theorem LsI.putObj {w : World} {A : Option Addr} {b : List UInt8} {W : World} {ov : Value} {ps : List (Nat × Nat)} (h : LsI w A b W ov ps) {l : Nat} {o : Obj} (hl : w.heap.size + 2 ≤ l) (ho : W.heap[l]? = some o) (hc : o.isCells = false) (o' : Obj) : LsI w A b (W.putObj l o') ov ps :=
  h.next (ext_putObj W l o') (by omega) (fun k cs t fr _ hk => not_cells ho hc k cs t fr hk) (fun k e => by subst e; omega)
theorem LsI.box {w : World} {A : Option Addr} {b : List UInt8} {W W' : World} {ov : Value} {ps : List (Nat × Nat)} (h : LsI w A b W ov ps) (hg : W.grownBy W' (some (w.heap.size + 1))) : LsI w A b W' ov ps :=
  h.next (S := fun k => k = w.heap.size + 1) (Ext.of_grown hg fun k e => (Option.some.inj e).symm) (by omega) (fun k _ _ _ hk _ => by omega) (fun k e => by omega)

set_option maxRecDepth 100000 in
set_option maxHeartbeats 2000000 in
theorem lsplit_in (f : Nat) (hf : 5 ≤ f) (A : Option Addr) (b : List UInt8) (n c : Nat) (w : World) (hn : b.length = n) (hA : Rb w A b) (hnc : n ≤ c) (hb : n ≤ 1000000000) :
    CallsIn Fence.wide f Tryz.prog 30 #[.slice A n c] w fun e w' => (∃ v ps, e = .returned v ∧ LnRow b ps ∧ lnEnd ps = b.length ∧ w'.ownsRow (w.heap.size + 2) 22 1 v ps.length (ps.map (lnV A))) ∧ Below w.heap.size w w' := by
  have HN := Lib.hid hn
  clear hn
  refine callsIn_of_wp_marks Tryz.func30 rfl trivial ?_ rfl
  simp only [Tryz.ntmps30, List.size_toArray, List.length_cons, List.length_nil, Nat.reduceAdd, Nat.reduceSub, Array.replicate_succ, Array.replicate_zero, List.push_toArray, List.append_toArray, List.nil_append, List.cons_append]
  gi_wp2
  refine ⟨trivial, fun h => by simp [Fence.wide] at h, ?_⟩
  refine (lines_in (f - 1) _ _ _ _).mono ?_
  rintro e w2 ⟨rfl, rfl⟩
  gi_wp2
  have k1 := (Boxed.new w 47 (.slice none 0 0)).alloc (.cells #[.slice A n c] 22)
  have k2 := Boxed.new (w.alloc (.cells #[.slice none 0 0] 47)) 22 (.slice A n c)
  rw [World.size_alloc] at k2
  have hB0 : Below w.heap.size w ((w.alloc (.cells #[.slice none 0 0] 47)).alloc (.cells #[.slice A n c] 22)) := ((Below.refl _ w).alloc (Nat.le_refl _) _).alloc (by simp) _
  obtain ⟨W0, hW0⟩ : ∃ W0, (w.alloc (.cells #[.slice none 0 0] 47)).alloc (.cells #[.slice A n c] 22) = W0 := ⟨_, rfl⟩
  have hsz : W0.heap.size = w.heap.size + 2 := by rw [← hW0]; simp
  rw [hW0] at k1 k2 hB0
  have hI0 : LsI w A b W0 (.slice none 0 0) [] := ⟨k1, World.ownsRow_nil _ _ _ _, hB0, by omega⟩
  rw [hW0]
  clear hW0
  have hA0 : Rb W0 A b := hA.below hB0
  refine wpIn_rangeFunc_row (α := Nat × Nat) rfl (by omega) (gf := 81) (lb := #[.pointer (some ⟨w.heap.size + 1, 0, none⟩)]) rfl trivial (enters_of Tryz.func81 (by kernel_rfl) rfl)
    (lines_row (f - 1) (w.heap.size + 1) n c A b HN.out hnc hb W0 hA0 k2) (fun r h => by cases h; omega) (fun h k => h.trans k) ?kb (Below.refl _ _) (fun _ => rfl)
    (fun pre W => ∃ ov, LsI w A b W ov pre ∧ Hid (LnRow b pre))
    (fun _ _ _ => False)
    ?hi (fun _ _ _ _ h _ => h) ?hit (fun _ _ _ _ _ _ h _ _ _ => h) ⟨_, hI0, Lib.hid (LnRow.nil b)⟩
    (fun x a' W => a' = { tmps := #[.slice A n c, undef, .pointer (some ⟨w.heap.size, 0, none⟩), lnV A x, .slice A n c, .func (.func 81) #[] #[.pointer (some ⟨w.heap.size + 1, 0, none⟩)], lnV A x, undef, undef, undef, undef, undef], defers := [] })
    ?hax ?assign ?body ?done ?stop
  case kb =>
    intro W l o o' hl ho hc
    exact ⟨World.putObj_heap_other (by omega), fun h => h.ext (ext_putObj W l o') (not_cells ho hc)⟩
  case hi =>
    rintro s X Y ⟨ov, h, hs⟩ hg
    exact ⟨ov, h.box hg, hs⟩
  case hit =>
    rintro s W l o o' ⟨ov, h, hs⟩ hl ho hc
    exact ⟨ov, h.putObj (by omega) ho hc o', hs⟩
  case hax =>
    rintro x a' ⟨⟩ W l o o' h hl ho hc
    exact h
  case assign =>
    rintro l pre x W K hI hpr hK
    simp only [lnV]
    gi_wp2
    exact hK _ _ ((KeepsOthers.refl W).from _) ⟨rfl, fun h => h⟩ hI rfl
  case body =>
    rintro l pre x a' W hl ⟨ov, h, hs⟩ rfl hpr
    have hlen := hs.out
    have hk1 : pre.length ≤ n := by
      have := hlen.1
      have := hlen.2.2.2
      have := HN.out
      omega
    have HS := Lib.hid (hlen.snoc hpr)
    clear hlen
    obtain ⟨Ao, co, hov, hnco, _, _, _⟩ := own_form h.ow
    subst hov
    have hsz2 := h.sz
    have hx1 : x.1 = lnEnd pre := hpr.1
    obtain ⟨A2, m2, hx2⟩ : ∃ A2 m2, lnV A x = .slice A2 m2 m2 := ⟨_, _, rfl⟩
    rw [hx2]
    have hbO1 := h.bO.alloc (.cells #[.slice A2 m2 m2] 22)
    have hc0 := h.bO.cell
    have hO := h.ow.alloc (.cells #[.slice A2 m2 m2] 22)
    gi_wp2_with (gi_at_builtin; refine wpListIn_app rfl _ _ _ _ rfl TBs hO rfl (Src_rv (news := [.slice A2 m2 m2]) Tryz.underlying47 rfl (Rv_new W _ _ _ rfl) (by simp [Value.oneCell']) (by omega)) rfl (by omega) (by simp; omega) ?_; intro v3 w3 hown3 hgr3 hat3; obtain ⟨A3, c3, hv3, hn3, _, _, _⟩ := own_form hown3; subst hv3; have hbO3 := hbO1.kept hgr3 (fun e => by have := hO.lt _ e.symm; omega); have hc3 := hbO3.cell; have hf3 := hbO3.frozen)
    have hx0 : Ext (fun k => k = w.heap.size ∨ nb (.slice Ao pre.length co) k) W (w3.setCell ⟨w.heap.size, 0, none⟩ (.slice A3 (pre.length + 1) c3)) :=
      (((Ext.refl _ W).alloc _).trans (Ext.of_grown hgr3 fun k hk => .inr hk) fun _ hb => .inl hb).set ⟨w.heap.size, 0, none⟩ _ (.inl rfl)
    have hbe : Below w.heap.size w (w3.setCell ⟨w.heap.size, 0, none⟩ (.slice A3 (pre.length + 1) c3)) := hx0.below h.be h.be.size (by
      rintro k (rfl | hk)
      · exact Nat.le_refl _
      · have := h.ow.lt _ hk
        omega)
    refine ⟨(((KeepsOthers.alloc W _).trans (keepsH hO hgr3)).trans (KeepsOthers.setCell _ _ _)).from _, ⟨hx0.block _ (by omega) ?_, fun _ => hA.below hbe⟩, _, ⟨hbO3.set _, ?_, hbe, Nat.le_trans h.sz hx0.size⟩, HS⟩
    · rintro (hk | hk)
      · omega
      · have := h.ow.lt _ hk
        omega
    · have h9 := ownsRow_setCell_below hown3 (a := ⟨w.heap.size, 0, none⟩) (by simp) (.slice A3 (pre.length + 1) c3)
      rw [List.length_append, List.map_append]
      simpa [hx2] using h9
  case done =>
    rintro D ys W hD hS ⟨ov, h, hs⟩ hK
    obtain ⟨Ao, co, hov, hnco, _, _, _⟩ := own_form h.ow
    subst hov
    have hc0 := h.bO.cell
    have hf0 := h.bO.frozen
    have hv2 := h.bO.set (.slice Ao ys.length co)
    have hrow2 := ownsRow_setCell_below h.ow (a := ⟨w.heap.size, 0, none⟩) (by simp) (.slice Ao ys.length co)
    have hK2 := (KeepsOthers.setCell W ⟨w.heap.size, 0, none⟩ (.slice Ao ys.length co)).same D _ hK rfl
    have hbe := h.be.setCell (p := ⟨w.heap.size, 0, none⟩) (by simp) (.slice Ao ys.length co)
    gi_wp2
    obtain ⟨W9, hW9⟩ : ∃ W9, W.setCell ⟨w.heap.size, 0, none⟩ (.slice Ao ys.length co) = W9 := ⟨_, rfl⟩
    rw [hW9] at hv2 hrow2 hK2 hbe ⊢
    have hx9 := ext_putObj W9 D (.deferred none)
    have g2 := (box_ext hv2 hx9 (not_cells hK2 rfl)).cell
    refine ⟨by simp, .inl ⟨_, _, rfl, run_takeDeferred hK2, ?_⟩⟩
    refine ⟨.slice Ao ys.length co, by simp [results, Tryz.f30, go_sem, g2], ⟨_, ys, rfl, hs.out, hS, own_ext hrow2 hx9 (fun k cs t fr _ hk => not_cells hK2 rfl k cs t fr hk)⟩, hx9.below hbe hbe.size (fun k e => by subst e; omega)⟩
  case stop =>
    rintro D c pre W _ _ h _
    exact h.elim
end Go.Proofs.YtcagkoakbdbbaaaGreatDoor
