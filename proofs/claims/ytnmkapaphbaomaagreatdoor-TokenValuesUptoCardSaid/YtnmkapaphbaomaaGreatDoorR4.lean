/- A row of parameters that came in: what it reads as; so each text is within the form's own reach, or a bulk's bound. -/
import Derived.Test.YtnmkapaphbaomaaGreatDoorR3
import Derived.Test.YtnmkapaphbaomaaGreatDoorRows
namespace Go.Proofs.YtnmkapaphbaomaaGreatDoor
set_option linter.unusedVariables false
set_option linter.unusedSimpArgs false
open Go.RowKit Go.ChangeShapes Go.WideShapes Go.Deep

theorem weightsAll_mem {H : Type} {P : Program} {e : TypeId} {d : DataW H} {n : Nat} (hn : n ∈ d.weights P e) : ∀ {l : List (DataW H)}, d ∈ l → n ∈ DataW.weightsAll P e l
  | x :: l, h => by
    rw [DataW.weightsAll, List.mem_append]
    rcases List.mem_cons.1 h with rfl | h
    · exact .inl hn
    · exact .inr (weightsAll_mem hn h)
theorem bulk_part {H : Type} {d : DataW H} {l : List (DataW H)} (h : d ∈ l) : Rows.uptoBulk d ≤ Rows.uptoBulkAll l := by
  induction l with
  | nil => cases h
  | cons x r ih =>
    simp only [Rows.uptoBulkAll]
    cases List.mem_cons.1 h with
    | inl e => subst e; omega
    | inr e => have := ih e; omega
/-- what a parameter reads as -/
def pdata {H : Type} (p : List UInt8 × List UInt8) : DataW H := .agg [.lit (.string p.1), .lit (.string p.2)]
theorem Rp_data {H : Type} {enc : TypeId × Value → H} {P : Program} {W : World} {t e st : TypeId} {f0 f1 : Field} {a : Option Addr} {len cap : Nat} {d : DataW H} {ps : List MemPlace} (ht : P.underlying t = some (.slice e)) (he : P.underlying e = some (.struct #[f0, f1])) (hs : P.underlying st = some .string)
    (hk : f0.offset = 0 ∧ f0.type = st ∧ f1.offset = 1 ∧ f1.type = st) (hc : P.cellsOf st = 1 ∧ P.cellsOf e = 2) (h : DataW.Trod enc P W 0 (fun _ => true) true t (.slice a len cap) d ps) :
    ∃ l : List (List UInt8 × List UInt8), l.length = len ∧ len ≤ cap ∧ cap ≤ maxLen ∧ Rv W a (pcells l) ∧ (d = .nil ∧ l = [] ∨ ∃ sp, d = .slice (l.map pdata) sp) := by
  obtain ⟨fuel, hf⟩ := h
  rcases open_slice ht hf with ⟨hcs, hx⟩ | ⟨a', len', cap', m, n, D, Pl, hcs, _, hl, hm, hmm, hx, hi⟩
  · simp [Value.cells] at hcs
    obtain ⟨rfl, rfl, rfl⟩ := hcs
    exact ⟨[], rfl, Nat.le_refl _, by unfold maxLen; omega, Rv.nil W _, .inl ⟨congrArg Prod.fst hx, rfl⟩⟩
  · simp [Value.cells] at hcs
    obtain ⟨rfl, rfl, rfl⟩ := hcs
    simp at hmm
    subst hmm
    obtain rfl : d = .slice ((List.range len).map D) ((List.range (m - len)).map fun j => D (len + j)) := congrArg Prod.fst hx
    clear hx
    rw [hc.2] at hi
    have each : ∀ i, i < len → ∃ p : List UInt8 × List UInt8, (W.cell? ((a'.add (i * 2)).add 0) = some (sv p.1) ∧ W.cell? ((a'.add (i * 2)).add 1) = some (sv p.2)) ∧ D i = pdata p := by
      intro i him
      obtain ⟨cs', h1, h2⟩ := hi i (by omega)
      obtain ⟨_, hlen, hat⟩ := World.cells?_some h1
      obtain ⟨y0, y1, n', hD, _, t0, t1⟩ := trod_struct2 he h2
      match cs', hlen, hat, t0, t1 with
      | [x0, x1], _, hat, t0, t1 =>
        rw [hk.1, hk.2.1, hc.1] at t0
        rw [hk.2.2.1, hk.2.2.2, hc.1] at t1
        obtain ⟨s0, e0, d0, z0⟩ := DataW.trod_string hs t0
        obtain ⟨s1, e1, d1, z1⟩ := DataW.trod_string hs t1
        simp at e0 e1
        subst e0
        subst e1
        have g0 := hat 0 (by omega)
        have g1 := hat 1 (by omega)
        have hDi : D i = .agg [.lit (.string s0.data.toList), .lit (.string s1.data.toList)] := by
          have := congrArg Prod.fst hD
          rw [d0, d1] at this
          exact this
        exact ⟨(s0.data.toList, s1.data.toList), ⟨by rw [sv_of]; exact g0, by rw [sv_of]; exact g1⟩, hDi⟩
    obtain ⟨V, hV⟩ := choose_lt (p := fun i (p : List UInt8 × List UInt8) => (W.cell? ((a'.add (i * 2)).add 0) = some (sv p.1) ∧ W.cell? ((a'.add (i * 2)).add 1) = some (sv p.2)) ∧ D i = pdata p) each
    refine ⟨(List.range len).map V, by simp, hl, hm, fun hp => ?_, .inr ⟨(List.range (m - len)).map fun j => D (len + j), ?_⟩⟩
    · rw [pcells_len] at hp
      simp at hp
      have h0 := (hV 0 (by omega)).1.1
      obtain ⟨b, o, s⟩ := a'
      have hs0 : s = none := by
        have := Addr_spot h0
        unfold Addr.add at this
        split at this <;> simp_all
      subst hs0
      refine ⟨b, o, rfl, fun j v hj => ?_⟩
      have hjl := lt_of_get hj
      rw [pcells_len] at hjl
      simp at hjl
      have hg : ((List.range len).map V)[j / 2]? = some (V (j / 2)) := by
        rw [List.getElem?_map, List.getElem?_range (by omega)]
        rfl
      obtain ⟨k1, k2⟩ := pcells_get hg
      obtain ⟨⟨v1, v2⟩, _⟩ := hV (j / 2) (by omega)
      rw [add_plain, add_plain] at v1 v2
      rcases Nat.mod_two_eq_zero_or_one j with hm2 | hm2
      · have e : 2 * (j / 2) = j := by omega
        rw [e] at k1
        rw [k1] at hj
        cases hj
        rw [← v1]
        congr 2
        omega
      · have e : 2 * (j / 2) + 1 = j := by omega
        rw [e] at k2
        rw [k2] at hj
        cases hj
        rw [← v2]
        congr 2
        omega
    · rw [List.map_map]
      congr 1
      exact List.map_congr_left fun i hi2 => (hV i (List.mem_range.1 hi2)).2
theorem Rp_reach {H : Type} {enc : TypeId × Value → H} {P : Program} {W : World} {t e st : TypeId} {f0 f1 : Field} {a : Option Addr} {len cap : Nat} {d : DataW H} {ps : List MemPlace} (ht : P.underlying t = some (.slice e)) (he : P.underlying e = some (.struct #[f0, f1])) (hs : P.underlying st = some .string)
    (hk : f0.offset = 0 ∧ f0.type = st ∧ f1.offset = 1 ∧ f1.type = st) (hc : P.cellsOf st = 1 ∧ P.cellsOf e = 2) (h : DataW.Trod enc P W 0 (fun _ => true) true t (.slice a len cap) d ps) (hwt : ∀ x ∈ d.weights P t, x ≤ reachBytes) :
    ∃ l : List (List UInt8 × List UInt8), l.length = len ∧ len ≤ cap ∧ cap ≤ maxLen ∧ Rv W a (pcells l) ∧ ∀ p ∈ l, p.1.length ≤ 140737488351232 ∧ p.2.length ≤ 140737488351232 := by
  obtain ⟨l, h1, h2, h3, h4, ⟨_, rfl⟩ | ⟨sp, rfl⟩⟩ := Rp_data ht he hs hk hc h
  · exact ⟨[], h1, h2, h3, h4, by simp⟩
  · refine ⟨l, h1, h2, h3, h4, fun p hp => ?_⟩
    have hmem : ∀ x, x = p.1.length ∨ x = p.2.length → x ∈ DataW.weights P t (.slice (l.map (pdata (H := H))) sp) := fun x hx => by
      rw [DataW.weights]
      simp only [ht]
      refine List.mem_cons_of_mem _ (List.mem_append_left _ (weightsAll_mem (d := pdata p) ?_ (List.mem_map.2 ⟨p, hp, rfl⟩)))
      unfold pdata
      rw [DataW.weights]
      simp only [he]
      show x ∈ DataW.weightsEach P [f0.type, f1.type] [DataW.lit (Lit.string p.1), DataW.lit (Lit.string p.2)]
      simp only [DataW.weightsEach, DataW.weights]
      simpa using hx
    exact ⟨hwt _ (hmem _ (.inl rfl)), hwt _ (hmem _ (.inr rfl))⟩
theorem Rp_upto {H : Type} {enc : TypeId × Value → H} {P : Program} {W : World} {t e st : TypeId} {f0 f1 : Field} {a : Option Addr} {len cap : Nat} {d : DataW H} {ps : List MemPlace} (ht : P.underlying t = some (.slice e)) (he : P.underlying e = some (.struct #[f0, f1])) (hs : P.underlying st = some .string)
    (hk : f0.offset = 0 ∧ f0.type = st ∧ f1.offset = 1 ∧ f1.type = st) (hc : P.cellsOf st = 1 ∧ P.cellsOf e = 2) (h : DataW.Trod enc P W 0 (fun _ => true) true t (.slice a len cap) d ps) {B : Nat} (hwt : Rows.uptoBulk d ≤ B) :
    ∃ l : List (List UInt8 × List UInt8), l.length = len ∧ len ≤ cap ∧ cap ≤ maxLen ∧ Rv W a (pcells l) ∧ ∀ p ∈ l, p.1.length ≤ B ∧ p.2.length ≤ B := by
  obtain ⟨l, h1, h2, h3, h4, ⟨_, rfl⟩ | ⟨sp, rfl⟩⟩ := Rp_data ht he hs hk hc h
  · exact ⟨[], h1, h2, h3, h4, by simp⟩
  · refine ⟨l, h1, h2, h3, h4, fun p hp => ?_⟩
    have := bulk_part (H := H) (d := pdata p) (List.mem_map.2 ⟨p, hp, rfl⟩)
    have e2 : Rows.uptoBulk (H := H) (pdata p) = p.1.length + p.2.length + 3 := by
      simp [pdata, Rows.uptoBulk, Rows.uptoBulkAll]
      omega
    simp only [Rows.uptoBulk] at hwt
    omega
end Go.Proofs.YtnmkapaphbaomaaGreatDoor
