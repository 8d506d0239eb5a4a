/- What a call may change; values whose blocks lie apart; rows of rows of bytes. Nothing of the program but its types' numbers. · Many rows of one's own at once: each is told, their blocks lie apart, and rows of bytes that are held by them lie apart from all. Nothing of the program but its types' numbers. -/
import Derived.Test.YtkllecicddfjpaaGreatDoorJ03
namespace Go.Proofs.YtkllecicddfjpaaGreatDoor
set_option linter.unusedVariables false
set_option linter.unusedSimpArgs false
open Go.RowKit

theorem bcell {W w1 : World} (hb : Below W.heap.size W w1) : (∀ b o, b < W.heap.size → w1.cell? ⟨b, o, none⟩ = W.cell? ⟨b, o, none⟩) ∧ (∀ b o, b < W.heap.size → w1.frozen? ⟨b, o, none⟩ = W.frozen? ⟨b, o, none⟩) :=
  ⟨fun b o h => hb.cell (p := ⟨b, o, none⟩) h, fun b o h => hb.frozen (p := ⟨b, o, none⟩) h⟩

/-- what lies outside of S is as it was -/
structure Ext (S : Nat → Prop) (w w' : World) : Prop where
  os : w'.os = w.os
  tape : w'.tape = w.tape
  output : w'.output = w.output
  size : w.heap.size ≤ w'.heap.size
  block : ∀ k, k < w.heap.size → ¬ S k → w'.heap[k]? = w.heap[k]?
section
variable {S T : Nat → Prop} {w w' w'' : World}
theorem Ext.refl (S : Nat → Prop) (w : World) : Ext S w w := ⟨rfl, rfl, rfl, Nat.le_refl _, fun _ _ _ => rfl⟩
theorem Ext.trans (h : Ext S w w') (k : Ext T w' w'') (hT : ∀ b, T b → S b ∨ w.heap.size ≤ b) : Ext S w w'' :=
  ⟨k.os.trans h.os, k.tape.trans h.tape, k.output.trans h.output, Nat.le_trans h.size k.size, fun b hb hs =>
    (k.block b (Nat.lt_of_lt_of_le hb h.size) fun ht => (hT b ht).elim hs (fun hl => by omega)).trans (h.block b hb hs)⟩
theorem Ext.of_below (S : Nat → Prop) (h : Below w.heap.size w w') : Ext S w w' := ⟨h.os, h.tape, h.output, h.size, fun k hk _ => h.block k hk⟩
theorem Ext.of_grown {row : Option Nat} (h : w.grownBy w' row) (hS : ∀ k, row = some k → S k) : Ext S w w' := by
  obtain ⟨h1, h2, h3, h4, h5⟩ := h
  exact ⟨h1, h2, h3, h4, fun k hk hs => h5 k hk fun e => hs (hS k e.symm)⟩
theorem Ext.setCell (S : Nat → Prop) (w : World) (a : Addr) (v : Value) (hS : S a.block) : Ext S w (w.setCell a v) := ⟨rfl, rfl, rfl, by simp, fun k _ hs => Below.heap_setCell w a v k (fun e => hs (e ▸ hS))⟩
theorem Ext.set (h : Ext S w w') (a : Addr) (v : Value) (hS : S a.block) : Ext S w (w'.setCell a v) := h.trans (Ext.setCell S w' a v hS) fun _ hb => .inl hb
theorem Ext.drew (h : Ext S w w') : Ext S w w'.drew := ⟨h.os, h.tape, h.output, h.size, h.block⟩
theorem Ext.alloc (h : Ext S w w') (o : Obj) : Ext S w (w'.alloc o) := h.trans (Ext.of_below S ((Below.refl _ w').alloc (Nat.le_refl _) o)) fun _ hb => .inl hb
theorem Ext.belowR (h : Ext S w w') (hb : Below w'.heap.size w' w'') : Ext S w w'' := h.trans (Ext.of_below S hb) fun _ hb => .inl hb
theorem Ext.belowL (hb : Below w.heap.size w w') (h : Ext S w' w'') : Ext S w w'' := (Ext.of_below S hb).trans h fun _ hb => .inl hb
theorem Ext.mono (h : Ext S w w') (hT : ∀ b, S b → T b) : Ext T w w' := ⟨h.os, h.tape, h.output, h.size, fun k hk hn => h.block k hk fun hs => hn (hT k hs)⟩
theorem Ext.below {B : Nat} {w0 : World} (h : Ext S w w') (hB : Below B w0 w) (hBw : B ≤ w.heap.size) (hS : ∀ b, S b → B ≤ b) : Below B w0 w' :=
  hB.trans ⟨h.os, h.tape, h.output, h.size, fun k hk => h.block k (by omega) fun hs => by have := hS k hs; omega⟩
theorem Ext.row (h : Ext S w w') {g : Nat} {e : TypeId} {cs : List Value} (hr : Row w g e cs) (hg : ¬ S g) : Row w' g e cs := (h.block g hr.lt hg).trans hr
theorem Ext.own (h : Ext S w w') {base e size n : Nat} {v : Value} {xs : List Value} (hv : OwnM w base e size v n xs) (hg : ∀ k, v.ownBlock = some k → ¬ S k) : OwnM w' base e size v n xs := by
  refine ⟨hv.1, ?_⟩
  rcases hv.2 with hn | ⟨g, cap, cur, fz, rfl, hb, hgg, rest⟩
  · exact .inl hn
  · refine .inr ⟨g, cap, cur, fz, rfl, hb, ?_, rest⟩
    rw [h.block g (Array.getElem?_eq_some_iff.1 hgg).1 (hg g (by simp [Value.ownBlock]))]
    exact hgg
end

/-- this is the block of that value -/
def nb (v : Value) (k : Nat) : Prop := v.ownBlock = some k
/-- values whose blocks lie apart -/
def Sep (vs : List Value) : Prop := ∀ (i j : Nat) (u v : Value), i ≠ j → vs[i]? = some u → vs[j]? = some v → ∀ k, nb u k → nb v k → False
theorem Sep.upd {vs : List Value} {i N : Nat} {v v' : Value} (h : Sep vs) (hi : vs[i]? = some v) (hlt : ∀ u ∈ vs, ∀ k, nb u k → k < N) (hv : ∀ k, nb v' k → nb v k ∨ N ≤ k) : Sep (vs.set i v') := by
  intro a b x y hab ha hb k hx hy
  have hil := lt_of_get hi
  rw [List.getElem?_set] at ha hb
  by_cases h1 : i = a
  · subst h1
    rw [if_pos rfl, if_pos hil] at ha
    cases ha
    rw [if_neg hab] at hb
    rcases hv k hx with h2 | h2
    · exact h i b v y hab hi hb k h2 hy
    · have := hlt y (List.mem_of_getElem? hb) k hy
      omega
  · rw [if_neg h1] at ha
    by_cases h2 : i = b
    · subst h2
      rw [if_pos rfl, if_pos hil] at hb
      cases hb
      rcases hv k hy with h3 | h3
      · exact h a i x v hab ha hi k hx h3
      · have := hlt x (List.mem_of_getElem? ha) k hx
        omega
    · rw [if_neg h2] at hb
      exact h a b x y hab ha hb k hx hy
/-- a pointer's block, as a value's -/
def pv (p : Nat) : Value := .slice (some ⟨p, 0, none⟩) 0 0
theorem nb_pv {p k : Nat} : nb (pv p) k ↔ k = p := by simp [nb, pv, Value.ownBlock, eq_comm]
theorem nb_nil {k n c : Nat} : ¬ nb (.slice none n c) k := by simp [nb, Value.ownBlock]

/-- values that only get fresh blocks -/
theorem mem_upd {vs : List Value} {i N : Nat} {v v' : Value} (hi : vs[i]? = some v) (hv : ∀ k, nb v' k → nb v k ∨ N ≤ k) : ∀ k, k < N → (∃ u ∈ vs.set i v', nb u k) → ∃ u ∈ vs, nb u k := by
  rintro k hk ⟨u, hu, hn⟩
  rcases List.mem_or_eq_of_mem_set hu with h | h
  · exact ⟨u, h, hn⟩
  · rw [h] at hn
    rcases hv k hn with h2 | h2
    · exact ⟨v, List.mem_of_getElem? hi, h2⟩
    · omega
/-- a line with its value -/
abbrev Tl := List UInt8 × Value
/-- lines lie in memory, apart from these values -/
def LsOk (w : World) (base : Nat) (vs : List Value) (ts : List Tl) : Prop := ∀ t ∈ ts, OwnM w base 5 1 t.2 t.1.length (t.1.map bv) ∧ ∀ k, nb t.2 k → ∀ v ∈ vs, ¬ nb v k
theorem LsOk.next {w w' : World} {base : Nat} {vs vs' : List Value} {ts : List Tl} {S : Nat → Prop} (h : LsOk w base vs ts) (hx : Ext S w w') (hS : ∀ k, k < w.heap.size → S k → ∃ v ∈ vs, nb v k) (hv : ∀ k, k < w.heap.size → (∃ v ∈ vs', nb v k) → ∃ v ∈ vs, nb v k) : LsOk w' base vs' ts := by
  intro t ht
  obtain ⟨h1, h3⟩ := h t ht
  have hlt : ∀ k, nb t.2 k → k < w.heap.size := fun k hk => (h1.lt k hk).2
  refine ⟨hx.own h1 fun k hk hs => ?_, fun k hk v hvm hvk => ?_⟩
  · obtain ⟨v, hv1, hv2⟩ := hS k (hlt k hk) hs
    exact h3 k hk v hv1 hv2
  · obtain ⟨u, hu1, hu2⟩ := hv k (hlt k hk) ⟨v, hvm, hvk⟩
    exact h3 k hk u hu1 hu2
theorem LsOk.below {w w' : World} {base : Nat} {vs : List Value} {ts : List Tl} (h : LsOk w base vs ts) (hb : Below w.heap.size w w') : LsOk w' base vs ts := h.next (S := fun _ => False) (Ext.of_below _ hb) (fun _ _ hs => hs.elim) fun _ _ hv => hv

theorem step_appM {P : Program} {w : World} {ops : Array Oper} {o : Oper} {a : Act} {K : Act → World → Prop} {Q : Exit → Act → World → Prop} {E : Prop} (hgd : o.guard = none) (s x : Operand) (t tx : TypeId)
    (ho : o.op = .call { callee := .builtin .append, args := #[s, x], argTypes := #[t, tx] }) {e : TypeId} {size bytes : Nat} (T : ElT P t e size bytes) {base : Nat} {v : Value} {n : Nat} {xs : List Value}
    (hown : OwnM w base e size v n xs) (hs : a.eval s = v) {y : Value} {m : Nat} {news : List Value} (hsrc : Src P size tx y m news w) (hx : a.eval x = y) (hb : (n + m) * bytes ≤ 140737488355328) (hbase : base ≤ w.heap.size)
    (h : ∀ v' w', OwnM w' base e size v' (n + m) (xs ++ news) → w.grownBy w' v.ownBlock → (v'.ownBlock = v.ownBlock ∨ v'.ownBlock = some w.heap.size) → K (a.put o.dst v') w') :
    if Region.wanted o (yielded ops a.tmps) = true then Oper.wp P o a w K Q else E := by
  have hw : Region.wanted o (yielded ops a.tmps) = true := by simp [Region.wanted, hgd]
  rw [if_pos hw]
  exact wp_appM s x t tx ho T hown hs hsrc hx hb hbase h

theorem Rb.ext {S : Nat → Prop} {w w' : World} {A : Option Addr} {l : List UInt8} (h : Rb w A l) (hx : Ext S w w') (hc : ∀ k cs t fr, w.heap[k]? = some (.cells cs t fr) → ¬ S k) : Rb w' A l := fun hp => by
  obtain ⟨b, o, e, hcell⟩ := h hp
  refine ⟨b, o, e, fun j v hj => ?_⟩
  have h1 := hcell j v hj
  have hlt := cell_lt h1
  have hb : ∃ cs t fr, w.heap[b]? = some (.cells cs t fr) := by
    unfold World.cell? at h1
    simp only at h1
    split at h1
    · rename_i cs t fr hh
      exact ⟨cs, t, fr, hh⟩
    · cases h1
  obtain ⟨cs, t, fr, hb⟩ := hb
  exact (World.cell?_of_block (w := w) (hx.block b hlt (hc b cs t fr hb))).trans h1
theorem OwnM.ext {S : Nat → Prop} {w w' : World} {base : Nat} {e : TypeId} {size : Nat} {v : Value} {n : Nat} {xs : List Value} (h : OwnM w base e size v n xs) (hx : Ext S w w') (hc : ∀ k cs t fr, w.heap[k]? = some (.cells cs t fr) → ¬ S k) : OwnM w' base e size v n xs := by
  refine hx.own h fun k hk => ?_
  rcases h.2 with ⟨rfl, _⟩ | ⟨g, cap, cur, fz, rfl, _, hgg, _⟩
  · simp [Value.ownBlock] at hk
  · simp [Value.ownBlock] at hk
    subst hk
    exact hc _ _ _ _ hgg
theorem LsOk.ext {S : Nat → Prop} {w w' : World} {base : Nat} {vs : List Value} {ts : List Tl} (h : LsOk w base vs ts) (hx : Ext S w w') (hc : ∀ k cs t fr, w.heap[k]? = some (.cells cs t fr) → ¬ S k) : LsOk w' base vs ts := fun t ht =>
  ⟨(h t ht).1.ext hx hc, (h t ht).2⟩
theorem box_ext {S : Nat → Prop} {w w' : World} {B : Nat} {t : TypeId} {v : Value} (h : Boxed w B t v) (hx : Ext S w w') (hc : ∀ k cs t fr, w.heap[k]? = some (.cells cs t fr) → ¬ S k) : Boxed w' B t v := (hx.block B h.lt (hc B _ _ _ h)).trans h
theorem box_ext2 {S : Nat → Prop} {w w' : World} {B : Nat} {t : TypeId} {v : Value} (h : Boxed w B t v) (hx : Ext S w w') (hc : ¬ S B) : Boxed w' B t v := (hx.block B h.lt hc).trans h
theorem ext_putObj (W : World) (l : Nat) (o : Obj) : Ext (fun k => k = l) W (W.putObj l o) := Ext.of_grown (grownBy_putObj' W l o) fun k e => (Option.some.inj e).symm
theorem ext_none {W W' : World} (h : W.grownBy W' none) : Ext (fun _ => False) W W' := Ext.of_grown h fun k e => by cases e
theorem not_cells {W : World} {l : Nat} {o : Obj} (hl : W.heap[l]? = some o) (ho : o.isCells = false) : ∀ k cs t fr, W.heap[k]? = some (.cells cs t fr) → ¬ k = l := fun k cs t fr hk e => by
  subst e
  rw [hk] at hl
  cases hl
  cases ho

theorem infoBs : (Tryz.prog.info? 22).map (fun i => (i.zero, i.size, i.bytes)) = some (some (.slice none 0 0), 1, 24) := by kernel_rfl
theorem TBs : ElT Tryz.prog 66 22 1 24 := ElT.mk' (z := .slice none 0 0) Tryz.underlying66 (by omega) (by omega) rfl infoBs

end Go.Proofs.YtkllecicddfjpaaGreatDoor

namespace Go.Proofs.YtkllecicddfjpaaGreatDoor
set_option linter.unusedVariables false
set_option linter.unusedSimpArgs false
open Go.RowKit

/-- a row of one's own: element's type, its size, the value, how many, what cells -/
structure Ow where
  e : TypeId
  size : Nat
  v : Value
  n : Nat
  xs : List Value
/-- a row of bytes -/
def obs (v : Value) (l : List UInt8) : Ow := ⟨5, 1, v, l.length, l.map bv⟩
/-- a row of rows of bytes -/
def orr (v : Value) (ts : List Tl) : Ow := ⟨22, 1, v, ts.length, ts.map (·.2)⟩
structure Mem (w : World) (base : Nat) (vs : List Ow) (T : List Tl) : Prop where
  own : ∀ o ∈ vs, OwnM w base o.e o.size o.v o.n o.xs
  sep : Sep (vs.map (·.v))
  ls : LsOk w base (vs.map (·.v)) T
section
variable {w w' : World} {base : Nat} {vs : List Ow} {T : List Tl} {i : Nat} {o o' : Ow}
theorem Mem.get (h : Mem w base vs T) (hi : vs[i]? = some o) : OwnM w base o.e o.size o.v o.n o.xs := h.own o (List.mem_of_getElem? hi)
theorem Mem.lt (h : Mem w base vs T) : ∀ u ∈ vs.map (·.v), ∀ k, nb u k → k < w.heap.size := by
  intro u hu k hk
  obtain ⟨o, ho, rfl⟩ := List.mem_map.1 hu
  exact ((h.own o ho).lt k hk).2
theorem Mem.below (h : Mem w base vs T) (hb : Below w.heap.size w w') : Mem w' base vs T := ⟨fun o ho => (h.own o ho).below hb, h.sep, h.ls.below hb⟩
/-- one row is another -/
theorem Mem.upd (h : Mem w base vs T) (hi : vs[i]? = some o) (hx : Ext (fun k => nb o.v k) w w') (ho : OwnM w' base o'.e o'.size o'.v o'.n o'.xs) (hv : ∀ k, nb o'.v k → nb o.v k ∨ w.heap.size ≤ k) : Mem w' base (vs.set i o') T := by
  have him : (vs.map (·.v))[i]? = some o.v := by rw [List.getElem?_map, hi]; rfl
  refine ⟨fun u hu => ?_, ?_, ?_⟩
  · obtain ⟨j, hj⟩ := List.mem_iff_getElem?.1 hu
    rw [List.getElem?_set] at hj
    by_cases hij : i = j
    · rw [if_pos hij] at hj
      split at hj
      · cases hj
        exact ho
      · cases hj
    · rw [if_neg hij] at hj
      refine hx.own (h.own u (List.mem_of_getElem? hj)) fun k h1 h2 => ?_
      exact h.sep i j o.v u.v hij him (by rw [List.getElem?_map, hj]; rfl) k h2 h1
  · rw [List.map_set]
    exact h.sep.upd him h.lt hv
  · rw [List.map_set]
    exact h.ls.next hx (fun k _ hk => ⟨o.v, List.mem_of_getElem? him, hk⟩) (mem_upd him hv)
/-- a row of bytes goes among those that are held; another one stands in its place -/
theorem Mem.push (h : Mem w base vs T) {v : Value} {l : List UInt8} (hi : vs[i]? = some (obs v l)) (hb : Below w.heap.size w w') (ho : OwnM w' base o'.e o'.size o'.v o'.n o'.xs) (hv : ∀ k, nb o'.v k → w.heap.size ≤ k) : Mem w' base (vs.set i o') (T ++ [(l, v)]) := by
  have him : (vs.map (·.v))[i]? = some v := by rw [List.getElem?_map, hi]; rfl
  have h2 := h.upd (o' := o') hi (Ext.of_below _ hb) ho (fun k hk => .inr (hv k hk))
  refine ⟨h2.own, h2.sep, fun t ht => ?_⟩
  rcases List.mem_append.1 ht with ht | ht
  · exact h2.ls t ht
  · simp only [List.mem_singleton] at ht
    subst ht
    have h3 := h.get hi
    refine ⟨h3.below hb, fun k hk u hu hku => ?_⟩
    have hkl := (h3.lt k hk).2
    obtain ⟨j, hj⟩ := List.mem_iff_getElem?.1 hu
    rw [List.map_set, List.getElem?_set] at hj
    by_cases hij : i = j
    · rw [if_pos hij] at hj
      split at hj
      · cases hj
        have := hv k hku
        omega
      · cases hj
    · rw [if_neg hij] at hj
      exact h.sep i j v u hij him hj k hk hku
/-- a fresh row of bytes is held, too -/
theorem Mem.add (h : Mem w base vs T) {v : Value} {l : List UInt8} (hb : Below w.heap.size w w') (ho : OwnM w' base 5 1 v l.length (l.map bv)) (hv : ∀ k, nb v k → w.heap.size ≤ k) : Mem w' base vs (T ++ [(l, v)]) := by
  have h2 := h.below hb
  refine ⟨h2.own, h2.sep, fun t ht => ?_⟩
  rcases List.mem_append.1 ht with ht | ht
  · exact h2.ls t ht
  · simp only [List.mem_singleton] at ht
    subst ht
    refine ⟨ho, fun k hk u hu hku => ?_⟩
    have := h.lt u hu k hku
    have := hv k hk
    omega
/-- another row of one's own -/
theorem Mem.cons (h : Mem w base vs T) (hb : Below w.heap.size w w') (ho : OwnM w' base o'.e o'.size o'.v o'.n o'.xs) (hv : ∀ k, nb o'.v k → w.heap.size ≤ k) : Mem w' base (vs ++ [o']) T := by
  have h2 := h.below hb
  refine ⟨fun u hu => ?_, fun a b x y hab hx hy k hk1 hk2 => ?_, fun t ht => ⟨(h2.ls t ht).1, fun k hk u hu hku => ?_⟩⟩
  · rcases List.mem_append.1 hu with hu | hu
    · exact h2.own u hu
    · simp only [List.mem_singleton] at hu
      subst hu
      exact ho
  · rw [List.map_append, List.getElem?_append] at hx hy
    simp only [List.map_cons, List.map_nil] at hx hy
    split at hx <;> split at hy
    · exact h.sep a b x y hab hx hy k hk1 hk2
    · rename_i h3 h4
      rcases hb0 : b - (vs.map (·.v)).length with _ | b'
      · rw [hb0] at hy
        cases hy
        have := hv k hk2
        have := h.lt x (List.mem_of_getElem? hx) k hk1
        omega
      · rw [hb0] at hy
        simp at hy
    · rename_i h3 h4
      rcases ha0 : a - (vs.map (·.v)).length with _ | a'
      · rw [ha0] at hx
        cases hx
        have := hv k hk1
        have := h.lt y (List.mem_of_getElem? hy) k hk2
        omega
      · rw [ha0] at hx
        simp at hx
    · rename_i h3 h4
      rcases ha0 : a - (vs.map (·.v)).length with _ | a'
      · rcases hb0 : b - (vs.map (·.v)).length with _ | b'
        · omega
        · rw [hb0] at hy
          simp at hy
      · rw [ha0] at hx
        simp at hx
  · rw [List.map_append] at hu
    rcases List.mem_append.1 hu with hu | hu
    · exact (h2.ls t ht).2 k hk u hu hku
    · simp only [List.map_cons, List.map_nil, List.mem_singleton] at hu
      subst hu
      have := hv k hku
      have := (((h.ls t ht).1).lt k hk).2
      omega
end
theorem Mem.nil (w : World) (base : Nat) : Mem w base [] [] := ⟨(fun _ h => by cases h), (fun i j u v _ h => by simp at h), (fun _ h => by cases h)⟩
/-- less of a row -/
theorem OwnM.cut {w : World} {base : Nat} {e : TypeId} {A : Option Addr} {n c k : Nat} {xs : List Value} (h : OwnM w base e 1 (.slice A n c) n xs) (hk : k ≤ n) : OwnM w base e 1 (.slice A k c) k (xs.take k) := by
  refine ⟨by have := h.1; simp at this ⊢; omega, ?_⟩
  rcases h.2 with ⟨hv, h0⟩ | ⟨g, cap, cur, fz, hv, hb, hg, hfz, h1, h2, h3, h4⟩
  · cases hv
    exact .inl ⟨by rw [show k = 0 by omega], by omega⟩
  · cases hv
    refine .inr ⟨g, c, cur, fz, rfl, hb, hg, hfz, by omega, h2, h3, ?_⟩
    rw [← h4, List.take_take]
    congr 1
    omega

/-- rows of bytes, as they are read -/
def RR (w : World) (A : Option Addr) (ls : List (List UInt8)) : Prop := ∃ vs : List Value, Rv w A vs ∧ vs.length = ls.length ∧ ∀ (j : Nat) (l : List UInt8), ls[j]? = some l → ∃ B c, vs[j]? = some (.slice B l.length c) ∧ l.length ≤ c ∧ c ≤ maxLen ∧ (B = none → c = 0) ∧ (B = none ∨ ∃ b o, B = some ⟨b, o, none⟩) ∧ Rb w B l
theorem RR.below {w w' : World} {A : Option Addr} {ls : List (List UInt8)} (h : RR w A ls) (hb : Below w.heap.size w w') : RR w' A ls := by
  obtain ⟨vs, h1, h2, h3⟩ := h
  refine ⟨vs, Rv.below h1 hb, h2, fun j l hl => ?_⟩
  obtain ⟨B, c, a1, a2, a3, a4, a5, a6⟩ := h3 j l hl
  exact ⟨B, c, a1, a2, a3, a4, a5, a6.below hb⟩
theorem RR.one {w : World} {A : Option Addr} {ls : List (List UInt8)} (h : RR w A ls) {k : Nat} (hk : k < ls.length) :
    ∃ b o B c l, A = some ⟨b, o, none⟩ ∧ Hid (ls[k]? = some l) ∧ w.cell? ⟨b, o + k, none⟩ = some (.slice B l.length c) ∧ l.length ≤ c ∧ c ≤ maxLen ∧ (B = none → c = 0) ∧ (B = none ∨ ∃ b o, B = some ⟨b, o, none⟩) ∧ Rb w B l := by
  obtain ⟨vs, h1, h2, h3⟩ := h
  obtain ⟨b, o, e, hc⟩ := h1 (by omega)
  have hl : ls[k]? = some ls[k] := List.getElem?_eq_getElem hk
  obtain ⟨B, c, a1, a2, a3, a4, a5, a6⟩ := h3 k _ hl
  exact ⟨b, o, B, c, ls[k], e, Lib.hid hl, hc k _ a1, a2, a3, a4, a5, a6⟩
/-- rows that are held read so -/
theorem RR_of {w : World} {base : Nat} {A : Option Addr} {n c : Nat} {ts T : List Tl} {vs : List Value} (ho : OwnM w base 22 1 (.slice A n c) n (ts.map (·.2))) (hl : LsOk w base vs T) (hs : ∀ t ∈ ts, t ∈ T) : RR w A (ts.map (·.1)) := by
  obtain ⟨A', c', e, _, _, hr, _, _, _⟩ := ho.form
  cases e
  refine ⟨ts.map (·.2), hr, by simp, fun j l hj => ?_⟩
  rw [List.getElem?_map, Option.map_eq_some_iff] at hj
  obtain ⟨t, ht, rfl⟩ := hj
  obtain ⟨B, d, e2, h1, h2, h3, _, h4, h5⟩ := ((hl t (hs t (List.mem_of_getElem? ht))).1).form
  refine ⟨B, d, by rw [List.getElem?_map, ht]; exact congrArg some e2, h1, h2, h4, ?_, h3⟩
  rcases h5 with h5 | ⟨b, h5⟩
  · exact .inl h5
  · exact .inr ⟨b, 0, h5⟩
end Go.Proofs.YtkllecicddfjpaaGreatDoor
