/- A row of fields that came in. -/
import Derived.Test.YtfdkcgdanhlfkaaGreatDoorJ24
import Derived.Deep.Slices
import Derived.ChangeSame
namespace Go.Proofs.YtfdkcgdanhlfkaaGreatDoor
namespace Fd
set_option linter.unusedVariables false
set_option linter.unusedSimpArgs false
open Go.RowKit Go.ChangeShapes Go.WideShapes Go.Deep

theorem strv_of (s : ByteArray) : strv s.data.toList = .string s := by unfold strv; rw [bs_of]
theorem Rf_row {H : Type} {enc : TypeId × Value → H} {P : Program} {W : World} {t e st : TypeId} {f0 f1 : Field} {a : Option Addr} {len cap : Nat} {d : DataW H} {ps : List MemPlace} (ht : P.underlying t = some (.slice e)) (he : P.underlying e = some (.struct #[f0, f1])) (hs : P.underlying st = some .string)
    (hk : f0.offset = 0 ∧ f0.type = st ∧ f1.offset = 1 ∧ f1.type = st) (hc : P.cellsOf st = 1 ∧ P.cellsOf e = 2) (h : DataW.Trod enc P W 0 (fun _ => true) true t (.slice a len cap) d ps) :
    ∃ l : List (List UInt8 × List UInt8), l.length = len ∧ len ≤ cap ∧ cap ≤ maxLen ∧ Rf W a l ∧ ∀ p ∈ l, p.1.length ≤ 9223372036854775807 ∧ p.2.length ≤ 9223372036854775807 := by
  obtain ⟨fuel, hf⟩ := h
  rcases open_slice ht hf with ⟨hcs, _⟩ | ⟨a', len', cap', m, n, D, Pl, hcs, _, hl, hm, hmm, _, hi⟩
  · simp [Value.cells] at hcs
    obtain ⟨rfl, rfl, rfl⟩ := hcs
    exact ⟨[], rfl, Nat.le_refl _, by unfold maxLen; omega, Rv.nil _ _, by simp⟩
  · simp [Value.cells] at hcs
    obtain ⟨rfl, rfl, rfl⟩ := hcs
    simp at hmm
    subst hmm
    rw [hc.2] at hi
    have each : ∀ i, i < m → ∃ p : List UInt8 × List UInt8, (W.cell? ((a'.add (i * 2)).add 0) = some (strv p.1) ∧ W.cell? ((a'.add (i * 2)).add 1) = some (strv p.2)) ∧ p.1.length ≤ maxLen ∧ p.2.length ≤ maxLen := by
      intro i him
      obtain ⟨cs', h1, h2⟩ := hi i him
      obtain ⟨_, hlen, hat⟩ := World.cells?_some h1
      obtain ⟨y0, y1, n', _, _, t0, t1⟩ := trod_struct2 he h2
      match cs', hlen, hat, t0, t1 with
      | [x0, x1], _, hat, t0, t1 =>
        rw [hk.1, hk.2.1, hc.1] at t0
        rw [hk.2.2.1, hk.2.2.2, hc.1] at t1
        obtain ⟨s0, e0, _, z0⟩ := DataW.trod_string hs t0
        obtain ⟨s1, e1, _, z1⟩ := DataW.trod_string hs t1
        simp at e0 e1
        subst e0
        subst e1
        have g0 := hat 0 (by omega)
        have g1 := hat 1 (by omega)
        refine ⟨(s0.data.toList, s1.data.toList), ⟨by rw [strv_of]; exact g0, by rw [strv_of]; exact g1⟩, ?_, ?_⟩
        · have e := bs_size s0.data.toList
          rw [bs_of] at e
          exact e ▸ z0
        · have e := bs_size s1.data.toList
          rw [bs_of] at e
          exact e ▸ z1
    obtain ⟨V, hV⟩ := choose_lt (p := fun i (p : List UInt8 × List UInt8) => (W.cell? ((a'.add (i * 2)).add 0) = some (strv p.1) ∧ W.cell? ((a'.add (i * 2)).add 1) = some (strv p.2)) ∧ p.1.length ≤ maxLen ∧ p.2.length ≤ maxLen) each
    refine ⟨(List.range len).map V, by simp, hl, hm, fun hp => ?_, fun p hp => ?_⟩
    · rw [fcells_len] at hp
      simp at hp
      have h0 := (hV 0 (by omega)).1.1
      obtain ⟨b, o, s⟩ := a'
      have hs0 : s = none := by
        have := Addr_spot h0
        unfold Addr.add at this
        split at this <;> simp_all
      subst hs0
      refine ⟨b, o, rfl, fun j v hj => ?_⟩
      have hjl := lt_of_get hj
      rw [fcells_len] at hjl
      simp at hjl
      have hg : ((List.range len).map V)[j / 2]? = some (V (j / 2)) := by
        rw [List.getElem?_map, List.getElem?_range (by omega)]
        rfl
      obtain ⟨k1, k2⟩ := fcells_get hg
      obtain ⟨⟨v1, v2⟩, _⟩ := hV (j / 2) (by omega)
      rw [add_plain, add_plain] at v1 v2
      rcases Nat.mod_two_eq_zero_or_one j with hm2 | hm2
      · have e : 2 * (j / 2) = j := by omega
        rw [e] at k1
        rw [k1] at hj
        cases hj
        rw [← v1]
        congr 2
        omega
      · have e : 2 * (j / 2) + 1 = j := by omega
        rw [e] at k2
        rw [k2] at hj
        cases hj
        rw [← v2]
        congr 2
        omega
    · rw [List.mem_map] at hp
      obtain ⟨i, hi2, rfl⟩ := hp
      have := hV i (by have := List.mem_range.1 hi2; omega)
      exact this.2
end Fd
end Go.Proofs.YtfdkcgdanhlfkaaGreatDoor
