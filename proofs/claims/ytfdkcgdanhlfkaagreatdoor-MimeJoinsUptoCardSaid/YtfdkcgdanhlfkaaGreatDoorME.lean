/- Many rows of one's own at once: each is told, their blocks lie apart, and rows of bytes that are held by them lie apart from all. Nothing of the program but its types' numbers. -/
import Derived.Test.YtfdkcgdanhlfkaaGreatDoorEX
namespace Go.Proofs.YtfdkcgdanhlfkaaGreatDoor
set_option linter.unusedVariables false
set_option linter.unusedSimpArgs false
open Go.RowKit

/-- a row of one's own: element's type, its size, the value, how many, what cells -/
structure Ow where
  e : TypeId
  size : Nat
  v : Value
  n : Nat
  xs : List Value
/-- a row of bytes -/
def obs (v : Value) (l : List UInt8) : Ow := ⟨5, 1, v, l.length, l.map bv⟩
/-- a row of rows of bytes -/
def orr (v : Value) (ts : List Tl) : Ow := ⟨22, 1, v, ts.length, ts.map (·.2)⟩
structure Mem (w : World) (base : Nat) (vs : List Ow) (T : List Tl) : Prop where
  own : ∀ o ∈ vs, OwnM w base o.e o.size o.v o.n o.xs
  sep : Sep (vs.map (·.v))
  ls : LsOk w base (vs.map (·.v)) T
section
variable {w w' : World} {base : Nat} {vs : List Ow} {T : List Tl} {i : Nat} {o o' : Ow}
theorem Mem.get (h : Mem w base vs T) (hi : vs[i]? = some o) : OwnM w base o.e o.size o.v o.n o.xs := h.own o (List.mem_of_getElem? hi)
theorem Mem.lt (h : Mem w base vs T) : ∀ u ∈ vs.map (·.v), ∀ k, nb u k → k < w.heap.size := by
  intro u hu k hk
  obtain ⟨o, ho, rfl⟩ := List.mem_map.1 hu
  exact ((h.own o ho).lt k hk).2
theorem Mem.below (h : Mem w base vs T) (hb : Below w.heap.size w w') : Mem w' base vs T := ⟨fun o ho => (h.own o ho).below hb, h.sep, h.ls.below hb⟩
/-- one row is another -/
theorem Mem.upd (h : Mem w base vs T) (hi : vs[i]? = some o) (hx : Ext (fun k => nb o.v k) w w') (ho : OwnM w' base o'.e o'.size o'.v o'.n o'.xs) (hv : ∀ k, nb o'.v k → nb o.v k ∨ w.heap.size ≤ k) : Mem w' base (vs.set i o') T := by
  have him : (vs.map (·.v))[i]? = some o.v := by rw [List.getElem?_map, hi]; rfl
  refine ⟨fun u hu => ?_, ?_, ?_⟩
  · obtain ⟨j, hj⟩ := List.mem_iff_getElem?.1 hu
    rw [List.getElem?_set] at hj
    by_cases hij : i = j
    · rw [if_pos hij] at hj
      split at hj
      · cases hj
        exact ho
      · cases hj
    · rw [if_neg hij] at hj
      refine hx.own (h.own u (List.mem_of_getElem? hj)) fun k h1 h2 => ?_
      exact h.sep i j o.v u.v hij him (by rw [List.getElem?_map, hj]; rfl) k h2 h1
  · rw [List.map_set]
    exact h.sep.upd him h.lt hv
  · rw [List.map_set]
    exact h.ls.next hx (fun k _ hk => ⟨o.v, List.mem_of_getElem? him, hk⟩) (mem_upd him hv)
/-- a row of bytes goes among those that are held; another one stands in its place -/
theorem Mem.push (h : Mem w base vs T) {v : Value} {l : List UInt8} (hi : vs[i]? = some (obs v l)) (hb : Below w.heap.size w w') (ho : OwnM w' base o'.e o'.size o'.v o'.n o'.xs) (hv : ∀ k, nb o'.v k → w.heap.size ≤ k) : Mem w' base (vs.set i o') (T ++ [(l, v)]) := by
  have him : (vs.map (·.v))[i]? = some v := by rw [List.getElem?_map, hi]; rfl
  have h2 := h.upd (o' := o') hi (Ext.of_below _ hb) ho (fun k hk => .inr (hv k hk))
  refine ⟨h2.own, h2.sep, fun t ht => ?_⟩
  rcases List.mem_append.1 ht with ht | ht
  · exact h2.ls t ht
  · simp only [List.mem_singleton] at ht
    subst ht
    have h3 := h.get hi
    refine ⟨h3.below hb, fun k hk u hu hku => ?_⟩
    have hkl := (h3.lt k hk).2
    obtain ⟨j, hj⟩ := List.mem_iff_getElem?.1 hu
    rw [List.map_set, List.getElem?_set] at hj
    by_cases hij : i = j
    · rw [if_pos hij] at hj
      split at hj
      · cases hj
        have := hv k hku
        omega
      · cases hj
    · rw [if_neg hij] at hj
      exact h.sep i j v u hij him hj k hk hku
/-- a fresh row of bytes is held, too -/
theorem Mem.add (h : Mem w base vs T) {v : Value} {l : List UInt8} (hb : Below w.heap.size w w') (ho : OwnM w' base 5 1 v l.length (l.map bv)) (hv : ∀ k, nb v k → w.heap.size ≤ k) : Mem w' base vs (T ++ [(l, v)]) := by
  have h2 := h.below hb
  refine ⟨h2.own, h2.sep, fun t ht => ?_⟩
  rcases List.mem_append.1 ht with ht | ht
  · exact h2.ls t ht
  · simp only [List.mem_singleton] at ht
    subst ht
    refine ⟨ho, fun k hk u hu hku => ?_⟩
    have := h.lt u hu k hku
    have := hv k hk
    omega
/-- another row of one's own -/
theorem Mem.cons (h : Mem w base vs T) (hb : Below w.heap.size w w') (ho : OwnM w' base o'.e o'.size o'.v o'.n o'.xs) (hv : ∀ k, nb o'.v k → w.heap.size ≤ k) : Mem w' base (vs ++ [o']) T := by
  have h2 := h.below hb
  refine ⟨fun u hu => ?_, fun a b x y hab hx hy k hk1 hk2 => ?_, fun t ht => ⟨(h2.ls t ht).1, fun k hk u hu hku => ?_⟩⟩
  · rcases List.mem_append.1 hu with hu | hu
    · exact h2.own u hu
    · simp only [List.mem_singleton] at hu
      subst hu
      exact ho
  · rw [List.map_append, List.getElem?_append] at hx hy
    simp only [List.map_cons, List.map_nil] at hx hy
    split at hx <;> split at hy
    · exact h.sep a b x y hab hx hy k hk1 hk2
    · rename_i h3 h4
      rcases hb0 : b - (vs.map (·.v)).length with _ | b'
      · rw [hb0] at hy
        cases hy
        have := hv k hk2
        have := h.lt x (List.mem_of_getElem? hx) k hk1
        omega
      · rw [hb0] at hy
        simp at hy
    · rename_i h3 h4
      rcases ha0 : a - (vs.map (·.v)).length with _ | a'
      · rw [ha0] at hx
        cases hx
        have := hv k hk1
        have := h.lt y (List.mem_of_getElem? hy) k hk2
        omega
      · rw [ha0] at hx
        simp at hx
    · rename_i h3 h4
      rcases ha0 : a - (vs.map (·.v)).length with _ | a'
      · rcases hb0 : b - (vs.map (·.v)).length with _ | b'
        · omega
        · rw [hb0] at hy
          simp at hy
      · rw [ha0] at hx
        simp at hx
  · rw [List.map_append] at hu
    rcases List.mem_append.1 hu with hu | hu
    · exact (h2.ls t ht).2 k hk u hu hku
    · simp only [List.map_cons, List.map_nil, List.mem_singleton] at hu
      subst hu
      have := hv k hku
      have := (((h.ls t ht).1).lt k hk).2
      omega
end
theorem Mem.nil (w : World) (base : Nat) : Mem w base [] [] := ⟨(fun _ h => by cases h), (fun i j u v _ h => by simp at h), (fun _ h => by cases h)⟩
/-- less of a row -/
theorem OwnM.cut {w : World} {base : Nat} {e : TypeId} {A : Option Addr} {n c k : Nat} {xs : List Value} (h : OwnM w base e 1 (.slice A n c) n xs) (hk : k ≤ n) : OwnM w base e 1 (.slice A k c) k (xs.take k) := by
  refine ⟨by have := h.1; simp at this ⊢; omega, ?_⟩
  rcases h.2 with ⟨hv, h0⟩ | ⟨g, cap, cur, fz, hv, hb, hg, hfz, h1, h2, h3, h4⟩
  · cases hv
    exact .inl ⟨by rw [show k = 0 by omega], by omega⟩
  · cases hv
    refine .inr ⟨g, c, cur, fz, rfl, hb, hg, hfz, by omega, h2, h3, ?_⟩
    rw [← h4, List.take_take]
    congr 1
    omega

/-- rows of bytes, as they are read -/
def RR (w : World) (A : Option Addr) (ls : List (List UInt8)) : Prop := ∃ vs : List Value, Rv w A vs ∧ vs.length = ls.length ∧ ∀ (j : Nat) (l : List UInt8), ls[j]? = some l → ∃ B c, vs[j]? = some (.slice B l.length c) ∧ l.length ≤ c ∧ c ≤ maxLen ∧ (B = none → c = 0) ∧ (B = none ∨ ∃ b o, B = some ⟨b, o, none⟩) ∧ Rb w B l
theorem RR.below {w w' : World} {A : Option Addr} {ls : List (List UInt8)} (h : RR w A ls) (hb : Below w.heap.size w w') : RR w' A ls := by
  obtain ⟨vs, h1, h2, h3⟩ := h
  refine ⟨vs, Rv.below h1 hb, h2, fun j l hl => ?_⟩
  obtain ⟨B, c, a1, a2, a3, a4, a5, a6⟩ := h3 j l hl
  exact ⟨B, c, a1, a2, a3, a4, a5, a6.below hb⟩
theorem RR.one {w : World} {A : Option Addr} {ls : List (List UInt8)} (h : RR w A ls) {k : Nat} (hk : k < ls.length) :
    ∃ b o B c l, A = some ⟨b, o, none⟩ ∧ Hid (ls[k]? = some l) ∧ w.cell? ⟨b, o + k, none⟩ = some (.slice B l.length c) ∧ l.length ≤ c ∧ c ≤ maxLen ∧ (B = none → c = 0) ∧ (B = none ∨ ∃ b o, B = some ⟨b, o, none⟩) ∧ Rb w B l := by
  obtain ⟨vs, h1, h2, h3⟩ := h
  obtain ⟨b, o, e, hc⟩ := h1 (by omega)
  have hl : ls[k]? = some ls[k] := List.getElem?_eq_getElem hk
  obtain ⟨B, c, a1, a2, a3, a4, a5, a6⟩ := h3 k _ hl
  exact ⟨b, o, B, c, ls[k], e, Lib.hid hl, hc k _ a1, a2, a3, a4, a5, a6⟩
/-- rows that are held read so -/
theorem RR_of {w : World} {base : Nat} {A : Option Addr} {n c : Nat} {ts T : List Tl} {vs : List Value} (ho : OwnM w base 22 1 (.slice A n c) n (ts.map (·.2))) (hl : LsOk w base vs T) (hs : ∀ t ∈ ts, t ∈ T) : RR w A (ts.map (·.1)) := by
  obtain ⟨A', c', e, _, _, hr, _, _, _⟩ := ho.form
  cases e
  refine ⟨ts.map (·.2), hr, by simp, fun j l hj => ?_⟩
  rw [List.getElem?_map, Option.map_eq_some_iff] at hj
  obtain ⟨t, ht, rfl⟩ := hj
  obtain ⟨B, d, e2, h1, h2, h3, _, h4, h5⟩ := ((hl t (hs t (List.mem_of_getElem? ht))).1).form
  refine ⟨B, d, by rw [List.getElem?_map, ht]; exact congrArg some e2, h1, h2, h4, ?_, h3⟩
  rcases h5 with h5 | ⟨b, h5⟩
  · exact .inl h5
  · exact .inr ⟨b, 0, h5⟩
end Go.Proofs.YtfdkcgdanhlfkaaGreatDoor
