/- A row of strings that came in. -/
import Derived.Test.YtddjabjloplhiaaDoorU6
import Derived.Test.YtddjabjloplhiaaDoorSl
import Derived.Deep.Slices
import Derived.ChangeSame
namespace Go.Proofs.YtddjabjloplhiaaDoor
set_option linter.unusedVariables false
set_option linter.unusedSimpArgs false
open Go.RowKit Go.ChangeShapes Go.WideShapes Go.Deep

theorem sv_of (s : ByteArray) : sv s.data.toList = .string s := by unfold sv; rw [bs_of]
theorem Rs_row {H : Type} {enc : TypeId × Value → H} {P : Program} {W : World} {t st : TypeId} {a : Option Addr} {len cap : Nat} {d : DataW H} {ps : List MemPlace} (ht : P.underlying t = some (.slice st)) (hs : P.underlying st = some .string)
    (hc : P.cellsOf st = 1) (h : DataW.Trod enc P W 0 (fun _ => true) true t (.slice a len cap) d ps) :
    ∃ l : List (List UInt8), l.length = len ∧ len ≤ cap ∧ cap ≤ maxLen ∧ Rv W a (l.map sv) ∧ ∀ p ∈ l, p.length ≤ 9223372036854775807 := by
  obtain ⟨fuel, hf⟩ := h
  rcases open_slice ht hf with ⟨hcs, _⟩ | ⟨a', len', cap', m, n, D, Pl, hcs, _, hl, hm, hmm, _, hi⟩
  · simp [Value.cells] at hcs
    obtain ⟨rfl, rfl, rfl⟩ := hcs
    exact ⟨[], rfl, Nat.le_refl _, by unfold maxLen; omega, Rv.nil _ _, by simp⟩
  · simp [Value.cells] at hcs
    obtain ⟨rfl, rfl, rfl⟩ := hcs
    simp at hmm
    subst hmm
    rw [hc] at hi
    have each : ∀ i, i < m → ∃ p : List UInt8, W.cell? (a'.add i) = some (sv p) ∧ p.length ≤ maxLen := by
      intro i him
      obtain ⟨cs', h1, h2⟩ := hi i him
      obtain ⟨_, hlen, hat⟩ := World.cells?_some h1
      obtain ⟨s0, e0, _, z0⟩ := DataW.trod_string hs h2
      subst e0
      have g0 := hat 0 (by omega)
      refine ⟨s0.data.toList, ?_, ?_⟩
      · rw [sv_of]
        rw [add_zero] at g0
        simpa [Nat.mul_one] using g0
      · have e := bs_size s0.data.toList
        rw [bs_of] at e
        exact e ▸ z0
    obtain ⟨V, hV⟩ := choose_lt (p := fun i (p : List UInt8) => W.cell? (a'.add i) = some (sv p) ∧ p.length ≤ maxLen) each
    refine ⟨(List.range len).map V, by simp, hl, hm, fun hp => ?_, fun p hp => ?_⟩
    · rw [List.length_map] at hp
      simp at hp
      have h0 := (hV 0 (by omega)).1
      obtain ⟨b, o, s⟩ := a'
      have hs0 : s = none := by
        have := Addr_spot h0
        unfold Addr.add at this
        split at this <;> simp_all
      subst hs0
      refine ⟨b, o, rfl, fun j v hj => ?_⟩
      have hjl := lt_of_get hj
      rw [List.length_map] at hjl
      simp at hjl
      have hg : ((List.range len).map V)[j]? = some (V j) := by
        rw [List.getElem?_map, List.getElem?_range hjl]
        rfl
      rw [List.getElem?_map, hg] at hj
      have hv : v = sv (V j) := (Option.some.inj hj).symm
      rw [hv]
      have := (hV j (by omega)).1
      rwa [show (⟨b, o, none⟩ : Addr).add j = ⟨b, o + j, none⟩ by unfold Addr.add; split <;> simp_all] at this
    · obtain ⟨i, hi', rfl⟩ := List.mem_map.1 hp
      have := (hV i (by have := List.mem_range.1 hi'; omega)).2
      unfold maxLen at this
      exact this
end Go.Proofs.YtddjabjloplhiaaDoor
