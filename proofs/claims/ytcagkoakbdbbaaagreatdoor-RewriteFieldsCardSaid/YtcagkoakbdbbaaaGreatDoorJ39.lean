/- Plain: how much text, and how many lines, a body has behind what relays do; a field as it is written. -/
import Derived.Test.YtcagkoakbdbbaaaGreatDoorJ38
namespace Go.Proofs.YtcagkoakbdbbaaaGreatDoor
set_option linter.unusedVariables false
set_option linter.unusedSimpArgs false
open Go.RowKit

theorem pcsGo_two : ∀ (r cur : List UInt8), cur ≠ [] → 2 * (pcsGo cur r).length ≤ cur.length + r.length + 2 ∧ (blank1 cur = true → 2 * (pcsGo cur r).length ≤ cur.length + r.length + 1)
  | [], cur, h => by
    have := List.length_pos_iff.2 h
    unfold pcsGo
    simp only [List.length_cons, List.length_nil]
    omega
  | c :: r, cur, h => by
    have h0 := List.length_pos_iff.2 h
    unfold pcsGo
    by_cases ht : turnAt cur c = true
    · rw [if_pos ht]
      unfold turnAt at ht
      rw [Bool.and_eq_true] at ht
      have ih := (pcsGo_two r [c] (by simp)).2 ht.1
      simp only [List.length_cons, List.length_nil] at ih ⊢
      refine ⟨by omega, fun hb => ?_⟩
      have h2 : 2 ≤ cur.length := by
        match cur, h, hb, ht.2 with
        | [d], _, hb, h3 =>
          simp at h3
          rw [show blank1 [d] = blk d from rfl, h3] at hb
          cases hb
        | _ :: _ :: _, _, _, _ => simp
      omega
    · rw [if_neg ht]
      have ih := pcsGo_two r (cur ++ [c]) (by simp)
      simp only [List.length_append, List.length_cons, List.length_nil] at ih ⊢
      refine ⟨by omega, fun hb => ?_⟩
      have := ih.2 (by rw [blank1_app h]; exact hb)
      omega
theorem pcs_two (v : List UInt8) : 2 * (pcs v).length ≤ v.length + 2 := by
  unfold pcs
  cases v with
  | nil => simp [pcsGo]
  | cons c r =>
    have e : pcsGo [] (c :: r) = pcsGo [c] r := by
      conv => lhs; unfold pcsGo
      rw [if_neg (by simp [turnAt])]
      rfl
    rw [e]
    have := (pcsGo_two r [c] (by simp)).1
    simp only [List.length_cons, List.length_nil] at this ⊢
    omega
theorem wrapGo_count : ∀ (ps : List (List UInt8)) (line : Nat) (first : Bool), (∀ p ∈ ps, ∀ x ∈ p, x ≠ 10) → (wrapGo line first ps).count 10 ≤ ps.length + 1 ∧ (first = true → ps ≠ [] → (wrapGo line first ps).count 10 ≤ ps.length)
  | [], line, first, _ => by
    unfold wrapGo
    refine ⟨by decide, fun _ h => absurd rfl h⟩
  | p :: ps, line, first, hp => by
    have h0 := nolf_count (hp p List.mem_cons_self)
    have hr := fun q hq => hp q (List.mem_cons_of_mem _ hq)
    by_cases h : first = false ∧ 76 < line + p.length
    · obtain ⟨rfl, hlt⟩ := h
      rw [wrapGo_turn hlt, List.count_append, List.count_append, h0]
      have := (wrapGo_count ps p.length false hr).1
      have e : ([13, 10] : List UInt8).count 10 = 1 := by decide
      rw [e, List.length_cons]
      exact ⟨by omega, fun h => by cases h⟩
    · rw [wrapGo_go h, List.count_append, h0, List.length_cons]
      have := (wrapGo_count ps (line + p.length) false hr).1
      exact ⟨by omega, fun _ _ => by omega⟩
theorem segT_count (ss : List (List UInt8 × Bool)) (h : further ss) : (segT ss).count 10 = ss.length := by
  induction ss with
  | nil => rfl
  | cons p r ih =>
    have e1 : segT (p :: r) = p.1 ++ eol p.2 ++ segT r := by simp [segT]
    have e2 : (eol p.2).count 10 = 1 := by cases p.2 <;> decide
    rw [e1, List.count_append, List.count_append, e2, nolf_count (fun x hx => ((h p List.mem_cons_self).1 x hx).1), ih fun x hx => h x (List.mem_cons_of_mem _ hx), List.length_cons]
    omega
/-- a field as it is written -/
theorem h1_fold {n v : List UInt8} (hn : nmOk n = true) (hv : vlOk v = true) : H1 (foldF n v) n v ∧ tT (foldF n v) = n.length + 2 + v.length := by
  have hpp : ∀ p ∈ pcs v, plain p := fun p hp c hc => vl_plain hv c (piece_mem hp hc)
  obtain ⟨s0, ss, h1, h2, h3, h4⟩ := wrap_segs (pcs v) (n.length + 2) true hpp (pcsGo_tail v []) (fun h => by cases h)
  rw [pcs_flat] at h4
  have hpl : plain (32 :: s0) := by
    intro c hc
    rcases List.mem_cons.1 hc with rfl | h
    · decide
    · exact h2 c h
  have hvl := hv
  unfold vlOk at hvl
  rw [Bool.and_eq_true, Bool.and_eq_true, decide_eq_true_iff] at hvl
  have ht : trimB ((32 :: s0) ++ segV ss) = v := by
    rw [List.cons_append, h4]
    exact trimB_pad hvl.2
  have e : foldF n v = n ++ 58 :: (32 :: s0) ++ eol true ++ segT ss := by
    unfold foldF
    rw [h1]
    simp
  have hcnt : ss.length + 1 ≤ (pcs v).length := by
    have h5 : (wrapGo (n.length + 2) true (pcs v)).count 10 = 1 + ss.length := by
      rw [h1, List.count_append, List.count_append, nolf_count (fun x hx => (h2 x hx).1), segT_count ss h3]
      have e2 : (eol true).count 10 = 1 := by decide
      rw [e2]
    have h6 : pcs v ≠ [] := by
      intro h
      rw [h] at h1
      unfold pcs at h
      cases v with
      | nil => simp [pcsGo] at h
      | cons c r =>
        obtain ⟨x, ps, h8⟩ := pcsGo_cur r [c]
        unfold pcsGo at h
        rw [if_neg (by simp [turnAt])] at h
        rw [show ([] : List UInt8) ++ [c] = [c] from rfl, h8] at h
        cases h
    have h7 := (wrapGo_count (pcs v) (n.length + 2) true (fun p hp x hx => (hpp p hp x hx).1)).2 rfl h6
    omega
  have h8 := pcs_two v
  have h9 := congrArg List.length h4
  rw [List.length_append] at h9
  have hH : H1 (foldF n v) n v := by
    rw [e]
    refine ⟨32 :: s0, true, ss, rfl, hpl, h3, ht, hn, hvl.1.2, hvl.1.1, ?_⟩
    simp only [List.length_append, List.length_cons]
    omega
  refine ⟨hH, ?_⟩
  unfold tT
  obtain ⟨k1, k2, k3⟩ := h1_lines (e := true) (ss := ss) hn hpl h3
  rw [e, k1, k3]
  simp only [List.length_append, List.length_cons]
  omega

/-- a first line, or none -/
theorem split_lf (b : List UInt8) : (∀ x ∈ b, x ≠ 10) ∨ ∃ t r, b = t ++ 10 :: r ∧ ∀ x ∈ t, x ≠ 10 := by
  induction b with
  | nil => exact .inl fun x hx => by simp at hx
  | cons c b ih =>
    by_cases hc : c = 10
    · exact .inr ⟨[], b, by rw [hc]; rfl, fun x hx => by simp at hx⟩
    · rcases ih with h | ⟨t, r, rfl, h⟩
      · exact .inl fun x hx => by rcases List.mem_cons.1 hx with rfl | hx; exact hc; exact h x hx
      · exact .inr ⟨c :: t, r, rfl, fun x hx => by rcases List.mem_cons.1 hx with rfl | hx; exact hc; exact h x hx⟩
theorem tT_hit {t : List UInt8} (h : ∀ x ∈ t, x ≠ 10) (r : List UInt8) : tT (t ++ 10 :: r) = (textL (t ++ [10])).length + tT r := by
  unfold tT
  rw [fl_hit t r h]
  show (textL (t ++ [10]) ++ flatT (fl r)).length = _
  rw [List.length_append]
theorem tT_nolf {t : List UInt8} (h : ∀ x ∈ t, x ≠ 10) : tT t = t.length := by
  unfold tT
  by_cases h0 : t = []
  · subst h0; rfl
  · rw [fl_last t h h0]
    have e : textL t = t := by
      unfold textL
      rw [if_neg fun e => h 10 (List.mem_of_getLast? e) rfl]
    simp [flatT, e]
theorem bare_nolf {t : List UInt8} (h : ∀ x ∈ t, x ≠ 10) : bareL t = t := by
  match t, h with
  | [], _ => rfl
  | [c], _ => rfl
  | c :: d :: r, h =>
    rw [bareL, if_neg (by rintro ⟨_, rfl⟩; exact h 10 (by simp) rfl), bare_nolf (t := d :: r) fun x hx => h x (List.mem_cons_of_mem _ hx)]
/-- one line's end made bare -/
theorem bare_hit : ∀ (t : List UInt8), (∀ x ∈ t, x ≠ 10) → ∀ r, bareL (t ++ 10 :: r) = cutC 13 t ++ 10 :: bareL r
  | [], _, r => bare_cons (by decide) r
  | [c], h, r => by
    by_cases hc : c = 13
    · subst hc
      exact bare_crlf r
    · rw [List.singleton_append, bare_cons hc, bare_cons (by decide)]
      have : cutC 13 [c] = [c] := by unfold cutC; rw [if_neg (by simp [hc])]
      rw [this]
      rfl
  | c :: d :: t, h, r => by
    have ih := bare_hit (d :: t) (fun x hx => h x (List.mem_cons_of_mem _ hx)) r
    have hd : d ≠ 10 := h d (by simp)
    have e : bareL (c :: d :: t ++ 10 :: r) = c :: bareL (d :: t ++ 10 :: r) := by
      show bareL (c :: d :: (t ++ 10 :: r)) = _
      rw [bareL, if_neg (by rintro ⟨_, rfl⟩; exact hd rfl)]
      rfl
    have e2 : cutC 13 (c :: d :: t) = c :: cutC 13 (d :: t) := by
      unfold cutC
      rw [List.getLast?_cons_cons]
      split <;> rfl
    rw [e, ih, e2]
    rfl
theorem text_lf_len (t : List UInt8) : textL (t ++ [10]) = cutC 13 t := by
  unfold textL
  rw [List.getLast?_concat, if_pos rfl, List.dropLast_concat]
theorem cutC_nolf {t : List UInt8} (h : ∀ x ∈ t, x ≠ 10) : ∀ x ∈ cutC 13 t, x ≠ 10 := fun x hx => by
  rw [cutC_take] at hx
  exact h x (List.mem_of_mem_take hx)
theorem bare_tb : ∀ (n : Nat) (b : List UInt8), b.length ≤ n → tT (bareL b) ≤ tT b ∧ (bareL b).count 10 = b.count 10
  | 0, b, h => by
    obtain rfl := List.eq_nil_of_length_eq_zero (by omega : b.length = 0)
    exact ⟨Nat.le_refl _, rfl⟩
  | n + 1, b, h => by
    rcases split_lf b with h1 | ⟨t, r, rfl, h1⟩
    · rw [bare_nolf h1]; exact ⟨Nat.le_refl _, rfl⟩
    · have ih := bare_tb n r (by simp at h; omega)
      rw [bare_hit t h1, tT_hit (cutC_nolf h1), tT_hit h1, text_lf_len, text_lf_len]
      refine ⟨by have := cutC_len 13 (cutC 13 t); omega, ?_⟩
      rw [List.count_append, List.count_append, List.count_cons, List.count_cons, ih.2, nolf_count h1, nolf_count (cutC_nolf h1)]
theorem full_nolf {t : List UInt8} (h : ∀ x ∈ t, x ≠ 10) : ∀ p, fullL p t = t := by
  induction t with
  | nil => intro p; rfl
  | cons c t ih =>
    intro p
    rw [fullL, if_neg (by rintro ⟨rfl, _⟩; exact h 10 (by simp) rfl), ih (fun x hx => h x (List.mem_cons_of_mem _ hx))]
    rfl
/-- one line's end made whole -/
theorem full_hit : ∀ (t : List UInt8), (∀ x ∈ t, x ≠ 10) → ∀ p r, fullL p (t ++ 10 :: r) = t ++ (if (p :: t).getLast? = some 13 then [10] else [13, 10]) ++ fullL 10 r
  | [], _, p, r => by
    show fullL p (10 :: r) = _
    by_cases hp : p = 13
    · subst hp
      rw [fullL, if_neg (by rintro ⟨_, a⟩; exact a rfl)]
      rfl
    · rw [fullL, if_pos ⟨rfl, hp⟩]
      simp [hp]
  | c :: t, h, p, r => by
    have ih := full_hit t (fun x hx => h x (List.mem_cons_of_mem _ hx)) c r
    rw [List.cons_append, fullL, if_neg (by rintro ⟨rfl, _⟩; exact h 10 (by simp) rfl), ih]
    rw [List.getLast?_cons_cons]
    simp
theorem full_tb : ∀ (n : Nat) (b : List UInt8), b.length ≤ n → tT (fullL 10 b) = tT b ∧ (fullL 10 b).count 10 = b.count 10
  | 0, b, h => by
    obtain rfl := List.eq_nil_of_length_eq_zero (by omega : b.length = 0)
    exact ⟨rfl, rfl⟩
  | n + 1, b, h => by
    rcases split_lf b with h1 | ⟨t, r, rfl, h1⟩
    · rw [full_nolf h1]; exact ⟨rfl, rfl⟩
    · have ih := full_tb n r (by simp at h; omega)
      rw [full_hit t h1]
      by_cases hl : ((10 : UInt8) :: t).getLast? = some 13
      · rw [if_pos hl, List.append_assoc, List.singleton_append, tT_hit h1, tT_hit h1, ih.1]
        refine ⟨rfl, ?_⟩
        rw [List.count_append, List.count_append, List.count_cons, List.count_cons, ih.2]
      · rw [if_neg hl]
        have h2 : ∀ x ∈ t ++ [13], x ≠ 10 := fun x hx => by
          rcases List.mem_append.1 hx with hx | hx
          · exact h1 x hx
          · obtain rfl : x = 13 := by simpa using hx
            decide
        have e : t ++ [13, 10] ++ fullL 10 r = (t ++ [13]) ++ 10 :: fullL 10 r := by simp
        have hnl : t.getLast? ≠ some 13 := by
          intro e
          apply hl
          cases t with
          | nil => cases e
          | cons c t => rw [List.getLast?_cons_cons]; exact e
        rw [e, tT_hit h2, tT_hit h1, ih.1, text_lf hnl]
        have e3 : textL (t ++ [13] ++ [10]) = t := by
          have := text_crlf t
          simpa using this
        rw [e3]
        refine ⟨rfl, ?_⟩
        have e4 : ([13] : List UInt8).count 10 = 0 := by decide
        rw [List.count_append, List.count_append, List.count_append, e4, List.count_cons, List.count_cons, ih.2, Nat.add_zero]
end Go.Proofs.YtcagkoakbdbbaaaGreatDoor
