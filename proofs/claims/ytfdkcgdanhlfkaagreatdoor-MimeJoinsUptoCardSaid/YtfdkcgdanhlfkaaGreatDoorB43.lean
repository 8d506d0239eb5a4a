/- A row of rows of bytes that came in. -/
import Derived.Test.YtfdkcgdanhlfkaaGreatDoorK
import Derived.Test.YtfdkcgdanhlfkaaGreatDoorRows
import Derived.Deep.Slices
import Derived.ChangeSlices
import Derived.ChangeSame
namespace Go.Proofs.YtfdkcgdanhlfkaaGreatDoor
set_option linter.unusedVariables false
set_option linter.unusedSimpArgs false
open Go.RowKit Go.ChangeShapes Go.WideShapes Go.Deep

/-- rows of bytes, as they came in -/
def RI (w : World) (A : Option Addr) (ls : List (List UInt8)) : Prop := ∃ vs : List Value, Rv w A vs ∧ vs.length = ls.length ∧ ∀ (j : Nat) (l : List UInt8), ls[j]? = some l → ∃ B c, vs[j]? = some (.slice B l.length c) ∧ l.length ≤ c ∧ c ≤ maxLen ∧ Rb w B l
theorem RI.below {w w' : World} {A : Option Addr} {ls : List (List UInt8)} (h : RI w A ls) (hb : Below w.heap.size w w') : RI w' A ls := by
  obtain ⟨vs, h1, h2, h3⟩ := h
  refine ⟨vs, Rv.below h1 hb, h2, fun j l hl => ?_⟩
  obtain ⟨B, c, a1, a2, a3, a4⟩ := h3 j l hl
  exact ⟨B, c, a1, a2, a3, a4.below hb⟩
theorem RI.one {w : World} {A : Option Addr} {ls : List (List UInt8)} (h : RI w A ls) {k : Nat} (hk : k < ls.length) :
    ∃ b o B c l, A = some ⟨b, o, none⟩ ∧ Hid (ls[k]? = some l) ∧ w.cell? ⟨b, o + k, none⟩ = some (.slice B l.length c) ∧ l.length ≤ c ∧ c ≤ maxLen ∧ Rb w B l := by
  obtain ⟨vs, h1, h2, h3⟩ := h
  obtain ⟨b, o, e, hc⟩ := h1 (by omega)
  have hl : ls[k]? = some ls[k] := List.getElem?_eq_getElem hk
  obtain ⟨B, c, a1, a2, a3, a4⟩ := h3 k _ hl
  exact ⟨b, o, B, c, ls[k], e, Lib.hid hl, hc k _ a1, a2, a3, a4⟩
theorem addr_add0 (a : Addr) : a.add 0 = a := by unfold Addr.add; simp
theorem bulk_lits {H : Type} (k : IntKind) : ∀ zs : List Int, Rows.uptoBulkAll (lits k zs : List (DataW H)) = zs.length
  | [] => rfl
  | z :: r => by
    have := bulk_lits (H := H) k r
    show 1 + Rows.uptoBulkAll (lits k r : List (DataW H)) = _
    rw [this, List.length_cons]
    omega
theorem bulk_in {H : Type} {d : DataW H} {l : List (DataW H)} (h : d ∈ l) : Rows.uptoBulk d ≤ Rows.uptoBulkAll l := by
  induction l with
  | nil => cases h
  | cons x r ih =>
    simp only [Rows.uptoBulkAll]
    cases List.mem_cons.1 h with
    | inl e => subst e; omega
    | inr e => have := ih e; omega
theorem RI_row {H : Type} {enc : TypeId × Value → H} {P : Program} {W : World} {t st u8 : TypeId} {a : Option Addr} {len cap : Nat} {d : DataW H} {ps : List MemPlace} (ht : P.underlying t = some (.slice st)) (hs : P.underlying st = some (.slice u8)) (h8 : P.underlying u8 = some (.int .u8))
    (hc : P.cellsOf st = 1) (hc8 : P.cellsOf u8 = 1) (h : DataW.Trod enc P W 0 (fun _ => true) true t (.slice a len cap) d ps) (ww : Rows.uptoBulk d ≤ 1048576) :
    ∃ l : List (List UInt8), l.length = len ∧ len ≤ cap ∧ cap ≤ maxLen ∧ RI W a l ∧ ∀ p ∈ l, p.length ≤ 1048576 := by
  obtain ⟨fuel, hf⟩ := h
  rcases open_slice ht hf with ⟨hcs, _⟩ | ⟨a', len', cap', m, n, D, Pl, hcs, _, hl, hm, hmm, hx, hi⟩
  · simp [Value.cells] at hcs
    obtain ⟨rfl, rfl, rfl⟩ := hcs
    exact ⟨[], rfl, Nat.le_refl _, by unfold maxLen; omega, ⟨[], Rv.nil _ _, rfl, fun j l hl => by simp at hl⟩, fun p hp => by cases hp⟩
  · simp [Value.cells] at hcs
    obtain ⟨rfl, rfl, rfl⟩ := hcs
    simp at hmm
    subst hmm
    obtain rfl : d = .slice ((List.range len).map D) ((List.range (m - len)).map fun j => D (len + j)) := congrArg Prod.fst hx
    clear hx
    rw [hc] at hi
    have each : ∀ i, i < m → ∃ x : Option Addr × List UInt8 × Nat, W.cell? (a'.add i) = some (.slice x.1 x.2.1.length x.2.2) ∧ x.2.1.length ≤ x.2.2 ∧ x.2.2 ≤ maxLen ∧ Rb W x.1 x.2.1 ∧ x.2.1.length ≤ Rows.uptoBulk (D i) := by
      intro i him
      obtain ⟨cs', h1, h2⟩ := hi i him
      obtain ⟨_, hlen, hat⟩ := World.cells?_some h1
      have g0 := hat 0 (by omega)
      rw [addr_add0, Nat.mul_one] at g0
      rcases open_ints hs h8 hc8 h2 with ⟨hcs, _⟩ | ⟨x, l, c, zs, hcs, _, hl1, hm1, hz, hD, hcell, hwz⟩
      · subst hcs
        exact ⟨(none, [], 0), g0, Nat.le_refl _, Nat.zero_le _, Rb.nil _ _, Nat.zero_le _⟩
      · subst hcs
        obtain ⟨lb, e1, e2, e3, e4⟩ := Rb_row (.inr ⟨_, rfl, hl1, hm1, by simpa using hz, hcell, hwz⟩)
        subst e1
        refine ⟨(some x, lb, c), g0, e2, e3, e4, ?_⟩
        have hD1 : D i = .slice (lits .u8 (zs.take lb.length)) (lits .u8 (zs.drop lb.length)) := congrArg Prod.fst hD
        rw [hD1]
        simp only [Rows.uptoBulk, bulk_lits, List.length_take, List.length_drop]
        have hz2 : zs.length = c := by simpa using hz
        omega
    obtain ⟨V, hV⟩ := choose_lt (p := fun i (x : Option Addr × List UInt8 × Nat) => W.cell? (a'.add i) = some (.slice x.1 x.2.1.length x.2.2) ∧ x.2.1.length ≤ x.2.2 ∧ x.2.2 ≤ maxLen ∧ Rb W x.1 x.2.1 ∧ x.2.1.length ≤ Rows.uptoBulk (D i)) each
    refine ⟨(List.range len).map fun j => (V j).2.1, by simp, hl, hm, ⟨(List.range len).map fun j => .slice (V j).1 (V j).2.1.length (V j).2.2, fun hp => ?_, by simp, fun j l hj => ?_⟩, fun p hp => ?_⟩
    · rw [List.length_map] at hp
      simp at hp
      have h0 := (hV 0 (by omega)).1
      obtain ⟨b, o, s⟩ := a'
      have hs0 : s = none := by
        have := Addr_spot h0
        unfold Addr.add at this
        split at this <;> simp_all
      subst hs0
      refine ⟨b, o, rfl, fun j v hj => ?_⟩
      have hjl := lt_of_get hj
      rw [List.length_map] at hjl
      simp at hjl
      rw [List.getElem?_map, List.getElem?_range hjl] at hj
      have hv : v = .slice (V j).1 (V j).2.1.length (V j).2.2 := (Option.some.inj hj).symm
      rw [hv]
      have := (hV j (by omega)).1
      rwa [show (⟨b, o, none⟩ : Addr).add j = ⟨b, o + j, none⟩ by unfold Addr.add; split <;> simp_all] at this
    · have hjl := lt_of_get hj
      rw [List.length_map] at hjl
      simp at hjl
      rw [List.getElem?_map, List.getElem?_range hjl] at hj
      have hv : l = (V j).2.1 := (Option.some.inj hj).symm
      subst hv
      obtain ⟨_, g2, g3, g4, _⟩ := hV j (by omega)
      exact ⟨_, _, by rw [List.getElem?_map, List.getElem?_range hjl]; rfl, g2, g3, g4⟩
    · obtain ⟨j, hj, rfl⟩ := List.mem_map.1 hp
      have hjl := List.mem_range.1 hj
      obtain ⟨_, _, _, _, g5⟩ := hV j (by omega)
      have h1 := bulk_in (List.mem_map_of_mem (f := D) hj)
      simp only [Rows.uptoBulk] at ww
      omega
end Go.Proofs.YtfdkcgdanhlfkaaGreatDoor
