/- append onto a row of the call's own, whatever is appended: a slice (nil too), one element, a string's bytes. Nothing of the program. · More words for memory: a part of a slice, a new row, an own row in one form. Nothing of the program. -/
import Derived.Test.YtkllecicddfjpaaGreatDoorJ01
import Derived.Deep.AppendSrc
import Derived.OwnWalkIn
import Derived.RegionTactic
import Derived.Lib.LaidU8
namespace Go.Proofs.YtkllecicddfjpaaGreatDoor
set_option linter.unusedVariables false
set_option linter.unusedSimpArgs false
open Go.RowKit

/-- the facts on a slice type t of elements e, of so many cells and bytes -/
structure ElT (P : Program) (t e : TypeId) (size bytes : Nat) : Prop where
  und : P.underlying t = some (.slice e)
  pos : 0 < size
  bpos : 1 ≤ bytes
  ex : ∃ i z, P.info? e = some i ∧ i.zero = some z ∧ i.size = size ∧ i.bytes = bytes ∧ z.cells.size = size

section
variable {P : Program} {w : World}

theorem ElT.mk' {t e : TypeId} {size bytes : Nat} {z : Value} (h : P.underlying t = some (.slice e)) (hp : 0 < size) (hb : 1 ≤ bytes) (hz : z.cells.size = size)
    (hi : (P.info? e).map (fun i => (i.zero, i.size, i.bytes)) = some (some z, size, bytes)) : ElT P t e size bytes := by
  obtain ⟨i, h1, h2, h3, h4⟩ := info_parts hi
  exact ⟨h, hp, hb, i, z, h1, h2, h3, h4, hz⟩

theorem Src_rv {size : Nat} {tx e' : TypeId} (hk : P.underlying tx = some (.slice e')) {A : Option Addr} {n c : Nat} {news : List Value} (hl : news.length = n * size) (h : Rv w A news) (h1 : ∀ u ∈ news, u.oneCell' = true) (hsz : 0 < size) :
    Src P size tx (.slice A n c) n news w := by
  rcases Nat.eq_zero_or_pos n with h0 | h0
  · subst h0
    have : news = [] := List.eq_nil_of_length_eq_zero (by simpa using hl)
    subst this
    rcases A with _ | a
    · exact Src.ofNil w hk c
    · exact Src.ofSlice w hk a 0 c [] (by simp) (by simp) (by simp)
  · have hp : 0 < news.length := by rw [hl]; exact Nat.mul_pos h0 hsz
    obtain ⟨b, o, rfl, hc⟩ := h hp
    refine Src.ofSlice w hk _ n c news hl (fun j u hj => ?_) h1
    have hplain : (⟨b, o, none⟩ : Addr).add j = ⟨b, o + j, none⟩ := by unfold Addr.add; split <;> simp_all
    rw [hplain]
    exact hc j u hj
theorem bv_one (l : List UInt8) : ∀ u ∈ l.map bv, u.oneCell' = true := by
  intro u hu
  obtain ⟨b, _, rfl⟩ := List.mem_map.1 hu
  rfl
theorem Src_rb {tx e' : TypeId} (hk : P.underlying tx = some (.slice e')) {A : Option Addr} {n c : Nat} {l : List UInt8} (hl : l.length = n) (h : Rb w A l) : Src P 1 tx (.slice A n c) n (l.map bv) w :=
  Src_rv hk (by simp [hl]) h (bv_one l) (by omega)
theorem Src_str {tx : TypeId} (hk : P.underlying tx = some .string) (l : List UInt8) : Src P 1 tx (.string (bs l)) l.length (l.map bv) w := by
  have h := Src.ofString (P := P) w hk (bs l)
  rw [bs_size] at h
  have e : byteCells (bs l) = l.map bv := by unfold byteCells; rw [bs_toList]; rfl
  rw [e] at h
  exact h

theorem run_app {t tx ty e : TypeId} {size bytes : Nat} (T : ElT P t e size bytes) {base : Nat} {v : Value} {n : Nat} {xs : List Value} (hown : w.ownsRow base e size v n xs)
    {x : Value} {m : Nat} {news : List Value} (hs : Src P size tx x m news w) (hb : (n + m) * bytes ≤ 140737488355328) (hbase : base ≤ w.heap.size) :
    ∃ v' w', (Builtin.append_ #[t, tx] ty #[v, x]).run P w = .ok v' w' ∧ w'.ownsRow base e size v' (n + m) (xs ++ news) ∧ w.grownBy w' v.ownBlock ∧ (v'.ownBlock = v.ownBlock ∨ v'.ownBlock = some w.heap.size) := by
  obtain ⟨ht, hsz, hbp, i, z, hi, hz, rfl, rfl, hzs⟩ := T
  have hnm : n + m ≤ (n + m) * i.bytes := Nat.le_mul_of_pos_right _ hbp
  have h63 : n + m ≤ maxLen := by unfold maxLen; omega
  have hsmall : n + m ≤ 9223372036854775807 := by omega
  have hl := hs.newsLen
  have hlen : (xs ++ news).length = (n + m) * i.size := by rw [List.length_append, hown.1, hl, Nat.add_mul]
  have grown : ∀ (old : Nat), old < n + m → ∀ (row : Option Nat),
      (w.drew.alloc (.cells ((xs ++ news).toArray ++ Builtin.zeroCells z.cells (grownCap w (n + m) old e - (n + m))) e)).ownsRow base e i.size
        (.slice (some ⟨w.heap.size, 0, none⟩) (n + m) (grownCap w (n + m) old e)) (n + m) (xs ++ news) ∧
      w.grownBy (w.drew.alloc (.cells ((xs ++ news).toArray ++ Builtin.zeroCells z.cells (grownCap w (n + m) old e - (n + m))) e)) row := by
    intro old ho row
    have hge := grownCap_ge w (n + m) old e
    have hcm : grownCap w (n + m) old e ≤ maxLen := grownCap_le_maxLen w (n + m) old e h63
    refine ⟨⟨hlen, .inr ⟨w.heap.size, _, _, rfl, hbase, heap_alloc_new w.drew _, hge, hcm, ?_, ?_⟩⟩, ⟨rfl, rfl, rfl, by simp, fun k hk _ => heap_alloc_old w.drew _ hk⟩⟩
    · simp only [Array.size_append, List.size_toArray, size_zeroCells, hzs, hlen, ← Nat.add_mul]
      congr 1
      omega
    · simp only [Array.toList_append]
      rw [← hlen]
      exact List.take_left
  have grow : ∀ (A : Option Addr) (c : Nat), c < n + m → (Builtin.firstCells i.size n (.slice A n c)).run P w.drew = .ok xs.toArray w.drew → v = .slice A n c →
      ∃ v' w', (Builtin.append_ #[t, tx] ty #[v, x]).run P w = .ok v' w' ∧ w'.ownsRow base e i.size v' (n + m) (xs ++ news) ∧ w.grownBy w' v.ownBlock ∧ (v'.ownBlock = v.ownBlock ∨ v'.ownBlock = some w.heap.size) := by
    rintro A c hc hold rfl
    have hr := run_append_grow_src (P := P) w t tx ty e i z ht hi hz A n c xs hold x m news hs hc (by omega) (growslice_fits hc hb)
    have hgr := grown c hc (Value.ownBlock (.slice A n c))
    exact ⟨_, _, hr, hgr.1, hgr.2, .inr rfl⟩
  rcases hown.2 with ⟨rfl, rfl⟩ | ⟨g, cap, cur, rfl, hbg, hg, hnc, hcm, hcs, htake⟩
  · have hx : xs = [] := List.eq_nil_of_length_eq_zero (by simpa using hown.1)
    subst hx
    by_cases hm : m = 0
    · subst hm
      have hn : news = [] := List.eq_nil_of_length_eq_zero (by simpa using hl)
      subst hn
      refine ⟨.slice none 0 0, w, ?_, World.ownsRow_nil w base e i.size, ⟨rfl, rfl, rfl, Nat.le_refl _, fun _ _ _ => rfl⟩, .inl rfl⟩
      rcases hs.kind with ⟨e', hk⟩ | hk <;> simp [Builtin.append_, run_underlying ht, run_underlying hk, sizeOf, typeInfo, hi, hs.len, hs.cells]
    · exact grow none 0 (by omega) (run_firstCells_none w.drew i.size 0 0 0) rfl
  · by_cases hroom : n + m ≤ cap
    · have hfit : n * i.size + news.length ≤ cur.size := by rw [hl, hcs, ← Nat.add_mul]; exact Nat.mul_le_mul_right _ hroom
      have hst := run_storeCells_at P g (n * i.size) e news 0 cur w hg (by simpa using hfit) hs.one
      simp only [Nat.add_zero] at hst
      refine ⟨.slice (some ⟨g, 0, none⟩) (n + m) cap, w.setRow g (cur.toList.take (n * i.size) ++ news ++ cur.toList.drop (n * i.size + news.length)).toArray, ?_,
        ⟨hlen, .inr ⟨g, cap, _, rfl, hbg, setRow_heap w g cur _ e _ hg, hroom, hcm, ?_, ?_⟩⟩, ⟨rfl, rfl, rfl, by simp, fun k _ hk => setRow_other w g k _ (fun e => hk (by simp [Value.ownBlock, e]))⟩, .inl rfl⟩
      · rcases hs.kind with ⟨e', hk⟩ | hk <;> simp [Builtin.append_, run_underlying ht, run_underlying hk, sizeOf, typeInfo, hi, hs.len, hroom, hs.cells, Addr.add_lit, hst]
      · simp only [List.size_toArray, List.length_append, List.length_take, List.length_drop, Array.length_toList]
        omega
      · rw [htake, ← hlen]
        exact List.take_left
    · refine grow _ cap (by omega) ?_ rfl
      have holds : ∀ j u, xs[j]? = some u → w.cell? ((⟨g, 0, none⟩ : Addr).add j) = some u := hown.cells (g := g) rfl
      exact run_firstCells_some w.drew i.size n _ n cap xs hown.1 (by simpa using holds)

theorem wp_app {o : Oper} {a : Act} {K : Act → World → Prop} {Q : Exit → Act → World → Prop} (s x : Operand) (t tx : TypeId)
    (ho : o.op = .call { callee := .builtin .append, args := #[s, x], argTypes := #[t, tx] }) {e : TypeId} {size bytes : Nat} (T : ElT P t e size bytes) {base : Nat} {v : Value} {n : Nat} {xs : List Value}
    (hown : w.ownsRow base e size v n xs) (hs : a.eval s = v) {y : Value} {m : Nat} {news : List Value} (hsrc : Src P size tx y m news w) (hx : a.eval x = y) (hb : (n + m) * bytes ≤ 140737488355328) (hbase : base ≤ w.heap.size)
    (h : ∀ v' w', w'.ownsRow base e size v' (n + m) (xs ++ news) → w.grownBy w' v.ownBlock → (v'.ownBlock = v.ownBlock ∨ v'.ownBlock = some w.heap.size) → K (a.put o.dst v') w') : o.wp P a w K Q := by
  obtain ⟨v', w', hrun, h2, h3, h4⟩ := run_app (ty := o.type) T hown hsrc hb hbase
  unfold Oper.wp execOp
  simp only [ho, resolve, invoke, builtin, Sem.run_bind, Sem.run_pure, Result.andThen_ok, List.map_toArray, List.map_cons, List.map_nil, hs, hx, hrun]
  exact h v' w' h2 h3 h4
theorem wpList_app {ops : Array Oper} {rest : List Oper} {o : Oper} {a : Act} {Q : Exit → Act → World → Prop} (hgd : o.guard = none) (s x : Operand) (t tx : TypeId)
    (ho : o.op = .call { callee := .builtin .append, args := #[s, x], argTypes := #[t, tx] }) {e : TypeId} {size bytes : Nat} (T : ElT P t e size bytes) {base : Nat} {v : Value} {n : Nat} {xs : List Value}
    (hown : w.ownsRow base e size v n xs) (hs : a.eval s = v) {y : Value} {m : Nat} {news : List Value} (hsrc : Src P size tx y m news w) (hx : a.eval x = y) (hb : (n + m) * bytes ≤ 140737488355328) (hbase : base ≤ w.heap.size)
    (h : ∀ v' w', w'.ownsRow base e size v' (n + m) (xs ++ news) → w.grownBy w' v.ownBlock → (v'.ownBlock = v.ownBlock ∨ v'.ownBlock = some w.heap.size) → wpList P ops Q rest (a.put o.dst v') w') : wpList P ops Q (o :: rest) a w :=
  wpList_plain hgd fun _ hK => wp_app s x t tx ho T hown hs hsrc hx hb hbase fun v' w' h2 h3 h4 => hK _ _ (h v' w' h2 h3 h4)
theorem step_app {ops : Array Oper} {o : Oper} {a : Act} {K : Act → World → Prop} {Q : Exit → Act → World → Prop} {E : Prop} (hgd : o.guard = none) (s x : Operand) (t tx : TypeId)
    (ho : o.op = .call { callee := .builtin .append, args := #[s, x], argTypes := #[t, tx] }) {e : TypeId} {size bytes : Nat} (T : ElT P t e size bytes) {base : Nat} {v : Value} {n : Nat} {xs : List Value}
    (hown : w.ownsRow base e size v n xs) (hs : a.eval s = v) {y : Value} {m : Nat} {news : List Value} (hsrc : Src P size tx y m news w) (hx : a.eval x = y) (hb : (n + m) * bytes ≤ 140737488355328) (hbase : base ≤ w.heap.size)
    (h : ∀ v' w', w'.ownsRow base e size v' (n + m) (xs ++ news) → w.grownBy w' v.ownBlock → (v'.ownBlock = v.ownBlock ∨ v'.ownBlock = some w.heap.size) → K (a.put o.dst v') w') :
    if Region.wanted o (yielded ops a.tmps) = true then Oper.wp P o a w K Q else E := by
  have hw : Region.wanted o (yielded ops a.tmps) = true := by simp [Region.wanted, hgd]
  rw [if_pos hw]
  exact wp_app s x t tx ho T hown hs hsrc hx hb hbase h
theorem wpListIn_app {F : Fence} {f : Nat} {ops : Array Oper} {rest : List Oper} {o : Oper} {a : Act} {Q : Exit → Act → World → Prop} (hgd : o.guard = none) (s x : Operand) (t tx : TypeId)
    (hop : o.op = .call { callee := .builtin .append, args := #[s, x], argTypes := #[t, tx] }) {e : TypeId} {size bytes : Nat} (T : ElT P t e size bytes) {base : Nat} {v : Value} {n : Nat} {xs : List Value}
    (hown : w.ownsRow base e size v n xs) (hs : a.eval s = v) {y : Value} {m : Nat} {news : List Value} (hsrc : Src P size tx y m news w) (hx : a.eval x = y) (hb : (n + m) * bytes ≤ 140737488355328) (hbase : base ≤ w.heap.size)
    (h : ∀ v' w', w'.ownsRow base e size v' (n + m) (xs ++ news) → w.grownBy w' v.ownBlock → (v'.ownBlock = v.ownBlock ∨ v'.ownBlock = some w.heap.size) → wpListIn F f P ops Q rest (a.put o.dst v') w') : wpListIn F f P ops Q (o :: rest) a w := by
  refine wpListIn_plain hgd fun K hK' => ?_
  obtain ⟨v', w', hrun, r1, r2, r3⟩ := run_app (ty := o.type) T hown hsrc hb hbase
  unfold Oper.wpIn
  refine ⟨?_, ?_⟩
  · simp [Oper.about, hop, resolve, Target.leads, Sem.run_pure]
  · rw [Oper.semAt_plain F _ _ (by rw [hop]; intro c hc'; cases hc')]
    simp [execOp, hop, resolve, invoke, builtin, hs, hx, hrun, Result.andThen]
    exact hK' _ _ (h v' w' r1 r2 r3)

/-- what an append leaves below B -/
theorem below_app {B : Nat} {W w w' : World} {base e size n : Nat} {v : Value} {xs : List Value} (hb : Below B W w) (hown : w.ownsRow base e size v n xs) (hg : w.grownBy w' v.ownBlock) (hB : B ≤ w.heap.size) (hbase : B ≤ base) : Below B W w' :=
  hb.grown hg hB (fun k hk => by have := hown.lt k hk; omega)
end
end Go.Proofs.YtkllecicddfjpaaGreatDoor

namespace Go.Proofs.YtkllecicddfjpaaGreatDoor
set_option linter.unusedVariables false
set_option linter.unusedSimpArgs false
open Go.RowKit

theorem tabs_below {g3 g4 : Nat} {w w' : World} (h : Lib.Utf8Tabs g3 g4 w) (hb : Below w.heap.size w w') : Lib.Utf8Tabs g3 g4 w' :=
  ⟨fun c hc => (hb.cell (p := ⟨g3, c, none⟩) (cell_lt (h.1 c hc))).trans (h.1 c hc),
    fun i hi => ⟨(hb.cell (p := ⟨g4, 2 * i, none⟩) (cell_lt (h.2 i hi).1)).trans (h.2 i hi).1, (hb.cell (p := ⟨g4, 2 * i + 1, none⟩) (cell_lt (h.2 i hi).2)).trans (h.2 i hi).2⟩⟩

theorem Rv.drop {w : World} {b o : Nat} {xs : List Value} (h : Rv w (some ⟨b, o, none⟩) xs) (q : Nat) : Rv w (some ⟨b, o + q, none⟩) (xs.drop q) := fun hp => by
  obtain ⟨b', o', e, hc⟩ := h (by simp at hp; omega)
  cases e
  exact ⟨b, o + q, rfl, fun j v hj => by rw [Nat.add_assoc]; exact hc _ v (by rw [← hj, List.getElem?_drop])⟩
theorem Rb.drop {w : World} {b o : Nat} {l : List UInt8} (h : Rb w (some ⟨b, o, none⟩) l) (q : Nat) : Rb w (some ⟨b, o + q, none⟩) (l.drop q) := by
  have := Rv.drop h q
  rwa [← List.map_drop] at this
theorem Rv_new (w : World) (cs : Array Value) (xs : List Value) (t : TypeId) (h : cs = xs.toArray) : Rv (w.alloc (.cells cs t)) (some ⟨w.heap.size, 0, none⟩) xs := fun _ =>
  ⟨w.heap.size, 0, rfl, fun j v hj => by rw [World.cell?_alloc_new, h, Nat.zero_add]; simpa using hj⟩

/-- an owned row in one form -/
theorem own_form {w : World} {base e size n : Nat} {v : Value} {xs : List Value} (h : w.ownsRow base e size v n xs) : ∃ A c, v = .slice A n c ∧ n ≤ c ∧ c ≤ maxLen ∧ Rv w A xs ∧ xs.length = n * size := by
  have hl := h.1
  rcases h.2 with ⟨rfl, h0⟩ | ⟨g, cap, cur, rfl, _, _, h1, h2, _⟩
  · subst h0
    have : xs = [] := List.eq_nil_of_length_eq_zero (by simpa using hl)
    subst this
    exact ⟨none, 0, rfl, Nat.le_refl _, by unfold maxLen; omega, Rv.nil _ _, hl⟩
  · refine ⟨_, cap, rfl, h1, h2, fun _ => ⟨g, 0, rfl, fun j v hj => ?_⟩, hl⟩
    have hlt := lt_of_get hj
    rw [Nat.zero_add, h.cellAt j (by omega)]
    exact hj
/-- make([]T, n) at elements of one cell -/
theorem makeN {P : Program} {t e : TypeId} {i : TypeInfo} {z : Value} {bytes : Nat} (ht : P.underlying t = some (.slice e)) (hi : P.info? e = some i) (hz : i.zero = some z) (hs : i.size = 1) (hb : i.bytes = bytes)
    (kl kc : IntKind) (m : Nat) (b2 : bytes * m ≤ 281474976710656) (b3 : m ≤ 9223372036854775807) :
    ∃ X : Array Value, X.size = m ∧ ∀ W : World, (Instr.makeSlice t (.int kl m) (.int kc m)).run P W = .ok (.slice (some ⟨W.heap.size, 0, none⟩) m m) (W.alloc (.cells X e)) := by
  have hb2 : (i.bytes : Int) * (m : Int) ≤ 281474976710656 := by
    rw [hb, ← Int.natCast_mul]
    generalize bytes * m = q at b2
    omega
  refine ⟨madeCells z.cells (m * 1), ?_, fun W => ?_⟩
  · rw [size_madeCells, Nat.mul_one]
  · have h := run_make (P := P) W t e i z ht hi hz kl kc (m : Int) (m : Int) (by omega) (by omega) hb2 (by omega)
    simpa [hs] using h
end Go.Proofs.YtkllecicddfjpaaGreatDoor
