/- More words for memory: a part of a slice, a new row, an own row in one form. Nothing of the program. -/
import Derived.Test.YtleolfpgiaimfaaDoorAp
import Derived.Lib.LaidU8
namespace Go.Proofs.YtleolfpgiaimfaaDoor
set_option linter.unusedVariables false
set_option linter.unusedSimpArgs false
open Go.RowKit

theorem tabs_below {g3 g4 : Nat} {w w' : World} (h : Lib.Utf8Tabs g3 g4 w) (hb : Below w.heap.size w w') : Lib.Utf8Tabs g3 g4 w' :=
  ⟨fun c hc => (hb.cell (p := ⟨g3, c, none⟩) (cell_lt (h.1 c hc))).trans (h.1 c hc),
    fun i hi => ⟨(hb.cell (p := ⟨g4, 2 * i, none⟩) (cell_lt (h.2 i hi).1)).trans (h.2 i hi).1, (hb.cell (p := ⟨g4, 2 * i + 1, none⟩) (cell_lt (h.2 i hi).2)).trans (h.2 i hi).2⟩⟩

theorem Rv.drop {w : World} {b o : Nat} {xs : List Value} (h : Rv w (some ⟨b, o, none⟩) xs) (q : Nat) : Rv w (some ⟨b, o + q, none⟩) (xs.drop q) := fun hp => by
  obtain ⟨b', o', e, hc⟩ := h (by simp at hp; omega)
  cases e
  exact ⟨b, o + q, rfl, fun j v hj => by rw [Nat.add_assoc]; exact hc _ v (by rw [← hj, List.getElem?_drop])⟩
theorem Rb.drop {w : World} {b o : Nat} {l : List UInt8} (h : Rb w (some ⟨b, o, none⟩) l) (q : Nat) : Rb w (some ⟨b, o + q, none⟩) (l.drop q) := by
  have := Rv.drop h q
  rwa [← List.map_drop] at this
theorem Rv_new (w : World) (cs : Array Value) (xs : List Value) (t : TypeId) (h : cs = xs.toArray) : Rv (w.alloc (.cells cs t)) (some ⟨w.heap.size, 0, none⟩) xs := fun _ =>
  ⟨w.heap.size, 0, rfl, fun j v hj => by rw [World.cell?_alloc_new, h, Nat.zero_add]; simpa using hj⟩

/-- an owned row in one form -/
theorem own_form {w : World} {base e size n : Nat} {v : Value} {xs : List Value} (h : w.ownsRow base e size v n xs) : ∃ A c, v = .slice A n c ∧ n ≤ c ∧ c ≤ maxLen ∧ Rv w A xs ∧ xs.length = n * size := by
  have hl := h.1
  rcases h.2 with ⟨rfl, h0⟩ | ⟨g, cap, cur, rfl, _, _, h1, h2, _⟩
  · subst h0
    have : xs = [] := List.eq_nil_of_length_eq_zero (by simpa using hl)
    subst this
    exact ⟨none, 0, rfl, Nat.le_refl _, by unfold maxLen; omega, Rv.nil _ _, hl⟩
  · refine ⟨_, cap, rfl, h1, h2, fun _ => ⟨g, 0, rfl, fun j v hj => ?_⟩, hl⟩
    have hlt := lt_of_get hj
    rw [Nat.zero_add, h.cellAt j (by omega)]
    exact hj
/-- make([]T, n) at elements of one cell -/
theorem makeN {P : Program} {t e : TypeId} {i : TypeInfo} {z : Value} {bytes : Nat} (ht : P.underlying t = some (.slice e)) (hi : P.info? e = some i) (hz : i.zero = some z) (hs : i.size = 1) (hb : i.bytes = bytes)
    (kl kc : IntKind) (m : Nat) (b2 : bytes * m ≤ 281474976710656) (b3 : m ≤ 9223372036854775807) :
    ∃ X : Array Value, X.size = m ∧ ∀ W : World, (Instr.makeSlice t (.int kl m) (.int kc m)).run P W = .ok (.slice (some ⟨W.heap.size, 0, none⟩) m m) (W.alloc (.cells X e)) := by
  have hb2 : (i.bytes : Int) * (m : Int) ≤ 281474976710656 := by
    rw [hb, ← Int.natCast_mul]
    generalize bytes * m = q at b2
    omega
  refine ⟨madeCells z.cells (m * 1), ?_, fun W => ?_⟩
  · rw [size_madeCells, Nat.mul_one]
  · have h := run_make (P := P) W t e i z ht hi hz kl kc (m : Int) (m : Int) (by omega) (by omega) hb2 (by omega)
    simpa [hs] using h
end Go.Proofs.YtleolfpgiaimfaaDoor
