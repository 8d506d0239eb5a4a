/- Plain: armor's lines cut anew: how much text, and how many lines there may be. -/
import Derived.Test.YtcagkoakbdbbaaaGreatDoorJ24
namespace Go.Proofs.YtcagkoakbdbbaaaGreatDoor
set_option linter.unusedVariables false
set_option linter.unusedSimpArgs false
open Go.RowKit

theorem fl_single {b l : List UInt8} (h : l ∈ fl b) : fl l = [l] := by
  induction b generalizing l with
  | nil => simp [fl] at h
  | cons c r ih =>
    rw [fl_cons] at h
    by_cases hc : c = 10
    · rw [if_pos hc] at h
      rcases List.mem_cons.1 h with rfl | h
      · rw [hc]; rfl
      · exact ih h
    · rw [if_neg hc] at h
      cases hf : fl r with
      | nil =>
        rw [hf] at h
        obtain rfl : l = [c] := by simpa using h
        rw [fl_cons, if_neg hc]
        rfl
      | cons a t =>
        rw [hf] at h ih
        rcases List.mem_cons.1 h with rfl | h
        · rw [fl_cons, if_neg hc, ih List.mem_cons_self]
        · exact ih (List.mem_cons_of_mem _ h)
/-- a line that isn't the last one ends with LF -/
theorem lns_get {L : List (List UInt8)} (h : Lns L) {i : Nat} {l : List UInt8} (hl : L[i]? = some l) (hi : i + 1 < L.length) : l.getLast? = some 10 := by
  induction L generalizing i with
  | nil => simp at hl
  | cons a r ih =>
    cases i with
    | zero =>
      cases hl
      obtain ⟨t, rfl, _⟩ := h.1 (by intro e; rw [e] at hi; simp at hi)
      simp
    | succ i => exact ih h.2 (by simpa using hl) (by simpa using hi)
theorem text_nolf {b l : List UInt8} (h : l ∈ fl b) : ∀ x ∈ textL l, x ≠ 10 := by
  intro x hx
  obtain ⟨q, hq⟩ := List.getElem?_of_mem h
  by_cases h10 : l.getLast? = some 10
  · have h1 := fl_single h
    have h0 : l ≠ [] := fl_ne h
    obtain ⟨t, rfl⟩ := List.getLast?_eq_some_iff.1 h10
    have ht : ∀ y ∈ t, y ≠ 10 := by
      intro y hy e
      subst e
      obtain ⟨u, v, rfl⟩ := List.append_of_mem hy
      have h2 := congrArg List.length h1
      have e3 : (u ++ 10 :: v) ++ [10] = (u ++ [10]) ++ (v ++ [10]) := by simp
      rw [e3, fl_app (.inr (by simp)), List.length_append] at h2
      have k1 : 1 ≤ (fl (u ++ [10])).length := by
        cases hf : fl (u ++ [10]) with
        | nil => have := fl_flat (u ++ [10]); rw [hf] at this; simp at this
        | cons _ _ => simp
      have k2 : 1 ≤ (fl (v ++ [10])).length := by
        cases hf : fl (v ++ [10]) with
        | nil => have := fl_flat (v ++ [10]); rw [hf] at this; simp at this
        | cons _ _ => simp
      simp at h2
      omega
    have e : textL (t ++ [10]) = cutC 13 t := by
      unfold textL
      rw [List.getLast?_concat, if_pos rfl, List.dropLast_concat]
    rw [e, cutC_take] at hx
    exact ht x (List.mem_of_mem_take hx)
  · have e : textL l = l := by unfold textL; rw [if_neg h10]
    rw [e] at hx
    intro e2
    subst e2
    obtain ⟨u, v, rfl⟩ := List.append_of_mem hx
    have h1 := fl_single h
    cases v with
    | nil => simp at h10
    | cons c v =>
      have e3 : u ++ 10 :: c :: v = (u ++ [10]) ++ (c :: v) := by simp
      rw [e3, fl_app (.inr (by simp))] at h1
      have h2 := congrArg List.length h1
      rw [List.length_append] at h2
      have k1 : 1 ≤ (fl (u ++ [10])).length := by
        cases hf : fl (u ++ [10]) with
        | nil => have := fl_flat (u ++ [10]); rw [hf] at this; simp at this
        | cons _ _ => simp
      have k2 : 1 ≤ (fl (c :: v)).length := by
        cases hf : fl (c :: v) with
        | nil => have := fl_flat (c :: v); rw [hf] at this; simp at this
        | cons _ _ => simp
      simp at h2
      omega
theorem nolf_count {l : List UInt8} (h : ∀ x ∈ l, x ≠ 10) : l.count 10 = 0 := List.count_eq_zero.2 fun hm => h 10 hm rfl
/-- what has been cut -/
theorem wrap_lines (k : Nat) {l : List UInt8} (h : ∀ x ∈ l, x ≠ 10) : ∀ m, (∀ j, j < m → j * k < l.length) → 0 < k →
    fl (wrapL k m l) = (List.range m).map (fun j => chw l k j ++ [13, 10]) ∧ flatT (fl (wrapL k m l)) = l.take (m * k) ∧ (wrapL k m l).count 10 = m ∧ (wrapL k m l = [] ∨ (wrapL k m l).getLast? = some 10) := by
  intro m hm hk
  have hc : ∀ j, ∀ x ∈ chw l k j, x ≠ 10 := fun j x hx => h x (List.mem_of_mem_drop (List.mem_of_mem_take hx))
  have e0 : wrapL k m l = ((List.range m).map (fun j => chw l k j ++ [13, 10])).flatten := by rw [wrapL, List.flatMap_def]
  have hl : ∀ x ∈ (List.range m).map (fun j => chw l k j ++ [13, 10]), ∃ t : List UInt8, x = t ++ [10] ∧ ∀ y ∈ t, y ≠ 10 := by
    intro x hx
    obtain ⟨j, _, rfl⟩ := List.mem_map.1 hx
    refine ⟨chw l k j ++ [13], by simp, fun y hy => ?_⟩
    rcases List.mem_append.1 hy with hy | hy
    · exact hc j y hy
    · obtain rfl : y = 13 := by simpa using hy
      decide
  have e1 : fl (wrapL k m l) = (List.range m).map (fun j => chw l k j ++ [13, 10]) := by rw [e0, fl_of _ hl]
  refine ⟨e1, ?_, ?_, ?_⟩
  · rw [e1]
    clear e0 e1 hl hm
    induction m with
    | zero => simp [flatT]
    | succ m ih =>
      rw [List.range_succ, List.map_append, flatT_app, ih]
      have : flatT (List.map (fun j => chw l k j ++ [13, 10]) [m]) = chw l k m := by
        show textL (chw l k m ++ [13, 10]) ++ [] = _
        rw [text_crlf, List.append_nil]
      rw [this, chw, Nat.add_mul, Nat.one_mul, List.take_add]
  · rw [e0]
    clear e0 e1 hl hm
    induction m with
    | zero => rfl
    | succ m ih =>
      rw [List.range_succ, List.map_append, List.flatten_append, List.count_append, ih]
      have : (List.map (fun j => chw l k j ++ [13, 10]) [m]).flatten = chw l k m ++ [13, 10] := by simp
      rw [this, List.count_append, nolf_count (hc m)]
      rfl
  · rw [e0]
    exact ends_of _ hl

/-- no more text, and not many more lines -/
def TB (b r : List UInt8) : Prop := (flatT (fl r)).length ≤ (flatT (fl b)).length ∧ r.count 10 ≤ b.count 10 + 2 * (flatT (fl b)).length
theorem len_of (ls : List (List UInt8)) (h : ∀ l ∈ ls, l.length ≤ (textL l).length + 2 * l.count 10) : ls.flatten.length ≤ (flatT ls).length + 2 * ls.flatten.count 10 := by
  induction ls with
  | nil => simp [flatT]
  | cons l r ih =>
    have h1 := h l List.mem_cons_self
    have h2 := ih fun x hx => h x (List.mem_cons_of_mem _ hx)
    have e : flatT (l :: r) = textL l ++ flatT r := by simp [flatT]
    rw [List.flatten_cons, List.length_append, e, List.length_append, List.count_append]
    omega
theorem line_len (l : List UInt8) : l.length ≤ (textL l).length + 2 * l.count 10 := by
  unfold textL
  by_cases h : l.getLast? = some 10
  · rw [if_pos h]
    obtain ⟨t, rfl⟩ := List.getLast?_eq_some_iff.1 h
    rw [List.dropLast_concat, List.length_append, List.count_append]
    have h1 : (cutC 13 t).length + 1 ≥ t.length := by unfold cutC; split <;> simp <;> omega
    simp
    omega
  · rw [if_neg h]
    omega
theorem all_len (b : List UInt8) : b.length ≤ (flatT (fl b)).length + 2 * b.count 10 := by
  have h := len_of (fl b) fun l _ => line_len l
  rwa [fl_flat] at h
theorem flat_len2 (b : List UInt8) : (flatT (fl b)).length + b.count 10 ≤ b.length := by
  have key : ∀ ls : List (List UInt8), (∀ l ∈ ls, fl l = [l]) → (flatT ls).length + ls.flatten.count 10 ≤ ls.flatten.length := by
    intro ls h
    induction ls with
    | nil => simp [flatT]
    | cons l r ih =>
      have h2 := ih fun x hx => h x (List.mem_cons_of_mem _ hx)
      have e : flatT (l :: r) = textL l ++ flatT r := by simp [flatT]
      rw [List.flatten_cons, List.length_append, e, List.length_append, List.count_append]
      have h3 : (textL l).length + l.count 10 ≤ l.length := by
        have hm : l ∈ fl l := by rw [h l List.mem_cons_self]; exact List.mem_cons_self
        have hn := text_nolf hm
        have e2 : l = textL l ++ l.drop (textL l).length := by
          conv => lhs; rw [← List.take_append_drop (textL l).length l]
          rw [← textL_take]
        have h4 := congrArg (List.count 10) e2
        rw [List.count_append, nolf_count hn] at h4
        have h5 := congrArg List.length e2
        rw [List.length_append] at h5
        have h6 := List.count_le_length (a := (10 : UInt8)) (l := l.drop (textL l).length)
        omega
      omega
  have h := key (fl b) fun l hl => fl_single hl
  rwa [fl_flat] at h
theorem TB.len {b r : List UInt8} (h : TB b r) : r.length ≤ 5 * b.length := by
  have h1 := all_len r
  have h2 := flat_len2 b
  obtain ⟨h3, h4⟩ := h
  omega
theorem TB.refl (b : List UInt8) : TB b b := ⟨Nat.le_refl _, by omega⟩

/-- the program's parts on its way: i lines are done; f: a line must have told that what comes is armor, and no armor has come since -/
structure PI (L : List (List UInt8)) (i : Nat) (f : Bool) (out : List UInt8) : Prop where
  cm : out = [] ∨ out.getLast? = some 10 ∨ L.length ≤ i
  tx : (flatT (fl out)).length ≤ (flatT (L.take i)).length
  lf : out.count 10 + (if f then 1 else 0) ≤ (L.take i).flatten.count 10 + 2 * (flatT (L.take i)).length
theorem PI.zero (L : List (List UInt8)) : PI L 0 false [] := ⟨.inl rfl, Nat.le_refl _, by simp⟩
theorem PI.drop {L : List (List UInt8)} {i : Nat} {f : Bool} {out : List UInt8} (h : PI L i f out) : PI L i false out := ⟨h.cm, h.tx, by have := h.lf; split at this <;> simp <;> omega⟩
theorem PI.line {b out l : List UInt8} {i : Nat} {f g : Bool} (h : PI (fl b) i f out) (hl : (fl b)[i]? = some l) (hg : g = true → f = true ∨ textL l ≠ []) : PI (fl b) (i + 1) g (out ++ l) := by
  have hlt := (List.getElem?_eq_some_iff.1 hl).1
  have hm := List.mem_of_getElem? hl
  have hc : out = [] ∨ out.getLast? = some 10 := by
    rcases h.cm with h1 | h1 | h1
    · exact .inl h1
    · exact .inr h1
    · omega
  have e1 : fl (out ++ l) = fl out ++ [l] := by rw [fl_app hc, fl_single hm]
  have e2 : (fl b).take (i + 1) = (fl b).take i ++ [l] := by rw [List.take_add_one, hl]; rfl
  refine ⟨?_, ?_, ?_⟩
  · by_cases hi : i + 1 < (fl b).length
    · exact .inr (.inl (last_app (lns_get (fl_lns b) hl hi)))
    · exact .inr (.inr (by omega))
  · rw [e1, flatT_app, e2, flatT_app, List.length_append, List.length_append]
    have := h.tx
    omega
  · rw [e2, flatT_app, List.flatten_append, List.count_append, List.count_append, List.length_append]
    have h1 := h.lf
    have e3 : flatT [l] = textL l := by simp [flatT]
    have e4 : [l].flatten = l := by simp
    rw [e3, e4]
    cases g with
    | false => split at h1 <;> simp <;> omega
    | true =>
      rcases hg rfl with h2 | h2
      · rw [h2] at h1; simp at h1 ⊢; omega
      · have h3 := List.length_pos_iff.2 h2
        split at h1 <;> simp <;> omega
theorem PI.region {b out : List UInt8} {i tq k m : Nat} (h : PI (fl b) i true out) (hc : out = [] ∨ out.getLast? = some 10) (h1 : i ≤ tq) (h2 : tq ≤ (fl b).length)
    (hk : 0 < k) {all : List UInt8} (ha : all = flatT (((fl b).drop i).take (tq - i))) (hm : m ≤ all.length) (hj : ∀ j, j < m → j * k < all.length) (g : Bool) :
    PI (fl b) tq false (out ++ wrapL k m all ++ (if g then [13, 10] else [])) ∨ (g = false ∧ tq < (fl b).length) := by
  by_cases hg : g = false ∧ tq < (fl b).length
  · exact .inr hg
  refine .inl ?_
  have hn : ∀ x ∈ all, x ≠ 10 := by
    intro x hx
    rw [ha] at hx
    unfold flatT at hx
    obtain ⟨y, hy, hxy⟩ := List.mem_flatten.1 hx
    obtain ⟨z, hz, rfl⟩ := List.mem_map.1 hy
    exact text_nolf (List.mem_of_mem_drop (List.mem_of_mem_take hz)) x hxy
  obtain ⟨w1, w2, w3, w4⟩ := wrap_lines k hn m hj hk
  have hcw : out ++ wrapL k m all = [] ∨ (out ++ wrapL k m all).getLast? = some 10 := by
    rcases w4 with w4 | w4
    · rw [w4, List.append_nil]; exact hc
    · exact .inr (last_app w4)
  have et : (fl b).take tq = (fl b).take i ++ ((fl b).drop i).take (tq - i) := by
    conv => lhs; rw [show tq = i + (tq - i) from by omega]
    rw [List.take_add]
  have hE : flatT (fl (if g then [13, 10] else [] : List UInt8)) = [] := by
    cases g <;> decide
  have hT : flatT (fl (out ++ wrapL k m all ++ (if g then [13, 10] else []))) = flatT (fl out) ++ all.take (m * k) := by
    rw [fl_app hcw, fl_app hc, flatT_app, flatT_app, w2, hE, List.append_nil]
  refine ⟨?_, ?_, ?_⟩
  · cases g with
    | true => exact .inr (.inl (last_app (by rfl)))
    | false =>
      refine .inr (.inr ?_)
      have : ¬ tq < (fl b).length := fun h => hg ⟨rfl, h⟩
      omega
  · rw [hT, List.length_append, et, flatT_app, ← ha, List.length_append, List.length_take]
    have := h.tx
    omega
  · rw [List.count_append, List.count_append, w3, et, List.flatten_append, List.count_append, flatT_app, ← ha, List.length_append]
    have h3 := h.lf
    have h4 : (if g then [13, 10] else [] : List UInt8).count 10 ≤ 1 := by cases g <;> decide
    simp only [if_true] at h3
    simp only [Bool.false_eq_true, if_false, Nat.add_zero]
    omega
theorem PI.done {b out : List UInt8} {i : Nat} {f : Bool} (h : PI (fl b) i f out) (hi : (fl b).length ≤ i) : TB b out := by
  obtain ⟨_, h1, h2⟩ := h
  rw [List.take_of_length_le hi] at h1 h2
  rw [fl_flat] at h2
  exact ⟨h1, by omega⟩
theorem PI.len {b out : List UInt8} {i : Nat} {f : Bool} (h : PI (fl b) i f out) : out.length ≤ 7 * b.length := by
  have h1 := all_len out
  have h2 := flat_len2 b
  obtain ⟨_, h3, h4⟩ := h
  have h5 := flat_text_le (fl b) i
  have h6 : ((fl b).take i).flatten.count 10 ≤ b.count 10 := by
    have e : b = ((fl b).take i).flatten ++ ((fl b).drop i).flatten := by
      rw [← List.flatten_append, List.take_append_drop, fl_flat]
    conv => rhs; rw [e]
    rw [List.count_append]
    omega
  omega
end Go.Proofs.YtcagkoakbdbbaaaGreatDoor
