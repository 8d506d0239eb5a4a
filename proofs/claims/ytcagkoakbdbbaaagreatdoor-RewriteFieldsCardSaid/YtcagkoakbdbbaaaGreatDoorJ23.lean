/- Plain: a field that is folded is a field; folds that are made twice are as made once. -/
import Derived.Test.YtcagkoakbdbbaaaGreatDoorJ22
import Derived.Test.YtcagkoakbdbbaaaGreatDoorJ16
namespace Go.Proofs.YtcagkoakbdbbaaaGreatDoor
set_option linter.unusedVariables false
set_option linter.unusedSimpArgs false
open Go.RowKit

theorem text_crlf (t : List UInt8) : textL (t ++ [13, 10]) = t := by
  have e : t ++ [13, 10] = (t ++ [13]) ++ [10] := by simp
  unfold textL
  rw [e, List.getLast?_concat, if_pos rfl, List.dropLast_concat]
  unfold cutC
  rw [List.getLast?_concat, if_pos rfl, List.dropLast_concat]
theorem text_lf {t : List UInt8} (h : t.getLast? ≠ some 13) : textL (t ++ [10]) = t := by
  unfold textL
  rw [List.getLast?_concat, if_pos rfl, List.dropLast_concat]
  unfold cutC
  rw [if_neg h]
/-- a line is its text and its end -/
theorem LnR.split {l : List UInt8} (h : LnR l) : ∃ t e, l = t ++ e ∧ textL l = t ∧ t ≠ [] ∧ (∀ x ∈ t, x ≠ 10) ∧ ((e = [10] ∧ t.getLast? ≠ some 13) ∨ e = [13, 10]) := by
  obtain ⟨⟨t, rfl, ht⟩, h2⟩ := h
  by_cases h3 : t.getLast? = some 13
  · have h4 : t ≠ [] := by rintro rfl; simp at h3
    obtain ⟨u, rfl⟩ : ∃ u, t = u ++ [13] := by
      rw [List.getLast?_eq_some_getLast h4] at h3
      refine ⟨t.dropLast, ?_⟩
      have h5 := List.dropLast_concat_getLast h4
      rw [Option.some.inj h3] at h5
      exact h5.symm
    have e : (u ++ [13]) ++ [10] = u ++ [13, 10] := by simp
    rw [e, text_crlf] at h2
    exact ⟨u, [13, 10], e, by rw [e, text_crlf], h2, fun x hx => ht x (List.mem_append_left _ hx), .inr rfl⟩
  · rw [text_lf h3] at h2
    exact ⟨t, [10], rfl, text_lf h3, h2, ht, .inl ⟨rfl, h3⟩⟩
theorem LnR.of {t e : List UInt8} (h1 : t ≠ []) (h2 : ∀ x ∈ t, x ≠ 10) (h3 : (e = [10] ∧ t.getLast? ≠ some 13) ∨ e = [13, 10]) : LnR (t ++ e) ∧ textL (t ++ e) = t := by
  rcases h3 with ⟨rfl, h3⟩ | rfl
  · exact ⟨⟨⟨t, rfl, h2⟩, by rw [text_lf h3]; exact h1⟩, text_lf h3⟩
  · refine ⟨⟨⟨t ++ [13], by simp, fun x hx => ?_⟩, by rw [text_crlf]; exact h1⟩, text_crlf t⟩
    rcases List.mem_append.1 hx with hx | hx
    · exact h2 x hx
    · obtain rfl : x = 13 := by simpa using hx
      decide
theorem blank1_app {a : List UInt8} (h : a ≠ []) (b : List UInt8) : blank1 (a ++ b) = blank1 a := by
  cases a with
  | nil => exact absurd rfl h
  | cons c a => rfl
theorem flat_text (ls : List (List UInt8)) (h : ∀ x ∈ ls, LnR x) (h0 : ls ≠ []) :
    (∀ x ∈ flatT ls, x ≠ 10) ∧ flatT ls ≠ [] ∧ ((lastT ls = [10] ∧ (flatT ls).getLast? ≠ some 13) ∨ lastT ls = [13, 10]) ∧ blank1 (flatT ls) = blank1 (ls.headD []) := by
  obtain ⟨a, l, rfl⟩ : ∃ a l, ls = a ++ [l] := ⟨ls.dropLast, ls.getLast h0, (List.dropLast_concat_getLast h0).symm⟩
  have hl := h l (by simp)
  obtain ⟨t, e, e1, e2, e3, e4, e5⟩ := hl.split
  rw [flatT_snoc, lastT_snoc, e2]
  have hd : l.drop t.length = e := by rw [e1, List.drop_left]
  rw [hd]
  have hlast : (flatT a ++ t).getLast? = t.getLast? := by
    cases hq : t.getLast? with
    | none => rw [List.getLast?_eq_none_iff] at hq; exact absurd hq e3
    | some s => exact last_app hq
  refine ⟨fun x hx => ?_, by intro e; exact e3 (List.append_eq_nil_iff.1 e).2, by rw [hlast]; exact e5, ?_⟩
  · rcases List.mem_append.1 hx with hx | hx
    · unfold flatT at hx
      obtain ⟨y, hy, hxy⟩ := List.mem_flatten.1 hx
      obtain ⟨z, hz, rfl⟩ := List.mem_map.1 hy
      obtain ⟨t', e', k1, k2, k3, k4, k5⟩ := (h z (List.mem_append_left _ hz)).split
      rw [k2] at hxy
      exact k4 x hxy
    · exact e4 x hx
  · cases a with
    | nil =>
      show blank1 ([] ++ t) = blank1 l
      rw [e1, blank1_app e3]
      rfl
    | cons l0 a =>
      obtain ⟨t', e', k1, k2, k3, k4, k5⟩ := (h l0 (by simp)).split
      show blank1 ((textL l0 ++ flatT a) ++ t) = blank1 l0
      rw [k2, List.append_assoc, blank1_app k3, k1, blank1_app k3]

/-- what has been made so far: segments, each but the last with an end -/
def Seg (b : List UInt8) (i : Nat) (out : List UInt8) : Prop := ∃ (segs : List (List UInt8)) (cur : List UInt8), out = (segs.map (· ++ [13, 10])).flatten ++ cur ∧ segs.flatten ++ cur = b.take i ∧ cur ≠ [] ∧ (∀ s ∈ segs, s ≠ []) ∧ (segs = [] ∨ blank1 cur = true) ∧ (∀ s ∈ segs.tail, blank1 s = true)
theorem Seg.more {b : List UInt8} {i : Nat} {out : List UInt8} {x : UInt8} (h : Seg b i out) (hx : b[i]? = some x) : Seg b (i + 1) (out ++ [x]) := by
  obtain ⟨segs, cur, rfl, h2, h3, h4, h5, h6⟩ := h
  refine ⟨segs, cur ++ [x], by simp, by rw [← List.append_assoc, h2, List.take_add_one, hx]; rfl, by simp, h4, ?_, h6⟩
  rcases h5 with h5 | h5
  · exact .inl h5
  · exact .inr (by rw [blank1_app h3]; exact h5)
theorem Seg.fold {b : List UInt8} {i : Nat} {out : List UInt8} {x : UInt8} (h : Seg b i out) (hx : b[i]? = some x) (hb : blankB x = true) : Seg b (i + 1) (out ++ [13, 10, x]) := by
  obtain ⟨segs, cur, rfl, h2, h3, h4, h5, h6⟩ := h
  refine ⟨segs ++ [cur], [x], by simp, by rw [List.flatten_append, List.flatten_singleton, h2, List.take_add_one, hx]; rfl, by simp, fun s hs => ?_, .inr hb, fun s hs => ?_⟩
  · rcases List.mem_append.1 hs with hs | hs
    · exact h4 s hs
    · obtain rfl : s = cur := by simpa using hs
      exact h3
  · cases segs with
    | nil => simp at hs
    | cons a r =>
      simp only [List.cons_append, List.tail_cons, List.mem_append, List.mem_singleton] at hs
      rcases hs with hs | rfl
      · exact h6 s (by simpa using hs)
      · exact h5.resolve_left (by simp)
theorem seg_foldS (m z : Int) (b : List UInt8) : ∀ i, 0 < i → i ≤ b.length → Seg b i (foldS m z b i).2 := by
  intro i
  induction i with
  | zero => intro h; omega
  | succ i ih =>
    intro _ hi
    obtain ⟨x, hx⟩ : ∃ x, b[i]? = some x := ⟨_, List.getElem?_eq_getElem (by omega)⟩
    have hg : b.getD i 0 = x := by rw [List.getD_eq_getElem?_getD, hx]; rfl
    by_cases h0 : i = 0
    · subst h0
      have hf : isFold z b 0 = false := by
        unfold isFold
        by_cases h1 : 0 ≤ z
        · have h2 : ¬ (z + 1 < ((0 : Nat) : Int)) := by omega
          simp [h2]
        · simp [h1]
      have e : (foldS m z b (0 + 1)).2 = [x] := by
        unfold foldS
        rw [hf, hg]
        rfl
      rw [e]
      exact ⟨[], [x], rfl, by simp only [List.flatten_nil, List.nil_append]; rw [List.take_add_one, hx]; rfl, by simp, fun s hs => by simp at hs, .inl rfl, fun s hs => by simp at hs⟩
    · have ih := ih (by omega) (by omega)
      unfold foldS
      by_cases hf : isFold z b i = true
      · rw [if_pos hf]
        have hbx : blankB x = true := by
          unfold isFold at hf
          simp only [Bool.and_eq_true] at hf
          rw [← hg]
          exact hf.1.2
        by_cases hb : bitM m (foldS m z b i).1 = true
        · simp only [hb, if_true, hg]
          exact ih.fold hx hbx
        · simp only [hb, hg]
          exact ih.more hx
      · rw [if_neg hf, hg]
        exact ih.more hx
/-- a field that is folded -/
theorem fold_right {f : List UInt8} (m : Int) (h : GF f) : GF (foldL m f) ∧ flatT (fl (foldL m f)) = flatT (fl f) ∧ lastT (fl (foldL m f)) = lastT (fl f) := by
  obtain ⟨⟨l0, ls0, e0, k1, k2⟩, k3⟩ := h
  obtain ⟨q1, q2, q3, q4⟩ := flat_text (fl f) (by rw [e0]; exact k2) (by rw [e0]; simp)
  have hnb : blank1 (flatT (fl f)) = false := by
    rw [q4, e0]
    show blank1 l0 = false
    rw [← blank1_fl e0]
    exact k3
  unfold foldL
  generalize lastT (fl f) = la at *
  generalize flatT (fl f) = b at *
  obtain ⟨segs, cur, h1, h2, h3, h4, h5, h6⟩ := seg_foldS m (Lib.indexByte b 58) b b.length (List.length_pos_iff.2 q2) (Nat.le_refl _)
  rw [h1]
  rw [List.take_length] at h2
  have nlf : ∀ s ∈ segs, ∀ x ∈ s, x ≠ 10 := fun s hs x hx => q1 x (by rw [← h2]; exact List.mem_append_left _ (List.mem_flatten.2 ⟨s, hs, hx⟩))
  have nlc : ∀ x ∈ cur, x ≠ 10 := fun x hx => q1 x (by rw [← h2]; exact List.mem_append_right _ hx)
  have hcl : cur.getLast? = b.getLast? := by
    rw [← h2]
    cases hq : cur.getLast? with
    | none => rw [List.getLast?_eq_none_iff] at hq; exact absurd hq h3
    | some s => exact (last_app hq).symm
  rw [← hcl] at q3
  have hcur := LnR.of h3 nlc q3
  have hseg : ∀ s ∈ segs, LnR (s ++ [13, 10]) ∧ textL (s ++ [13, 10]) = s := fun s hs => LnR.of (h4 s hs) (nlf s hs) (.inr rfl)
  have hall : ∀ x ∈ segs.map (· ++ [13, 10]) ++ [cur ++ la], LnR x := fun x hx => by
    rcases List.mem_append.1 hx with hx | hx
    · obtain ⟨s, hs, rfl⟩ := List.mem_map.1 hx
      exact (hseg s hs).1
    · obtain rfl : x = cur ++ la := by simpa using hx
      exact hcur.1
  have hfl : fl ((segs.map (· ++ [13, 10])).flatten ++ cur ++ la) = segs.map (· ++ [13, 10]) ++ [cur ++ la] := by
    have e : (segs.map (· ++ [13, 10])).flatten ++ cur ++ la = (segs.map (· ++ [13, 10]) ++ [cur ++ la]).flatten := by simp
    rw [e]
    exact fl_of _ fun x hx => (hall x hx).1
  have hmap : ∀ t : List (List UInt8), (∀ s ∈ t, textL (s ++ [13, 10]) = s) → (t.map (· ++ [13, 10])).map textL = t := by
    intro t ht
    induction t with
    | nil => rfl
    | cons s t ih => rw [List.map_cons, List.map_cons, ht s List.mem_cons_self, ih fun x hx => ht x (List.mem_cons_of_mem _ hx)]
  refine ⟨⟨?_, ?_⟩, ?_, ?_⟩
  · cases segs with
    | nil => exact ⟨cur ++ la, [], hfl, fun x hx => by simp at hx, hall⟩
    | cons s r =>
      refine ⟨s ++ [13, 10], r.map (· ++ [13, 10]) ++ [cur ++ la], hfl, fun x hx => ?_, hall⟩
      rcases List.mem_append.1 hx with hx | hx
      · obtain ⟨u, hu, rfl⟩ := List.mem_map.1 hx
        rw [blank1_app (h4 u (List.mem_cons_of_mem _ hu))]
        exact h6 u hu
      · obtain rfl : x = cur ++ la := by simpa using hx
        rw [blank1_app h3]
        exact h5.resolve_left (by simp)
  · cases segs with
    | nil =>
      have e : cur = b := by simpa using h2
      show blank1 (([] ++ cur) ++ la) = false
      rw [List.nil_append, blank1_app h3, e]
      exact hnb
    | cons s r =>
      have hs := h4 s List.mem_cons_self
      rw [List.map_cons, List.flatten_cons, List.append_assoc, List.append_assoc, List.append_assoc, blank1_app hs]
      rw [← h2, List.flatten_cons, List.append_assoc, blank1_app hs] at hnb
      exact hnb
  · rw [hfl, flatT_snoc, hcur.2]
    unfold flatT
    rw [hmap segs fun s hs => (hseg s hs).2, h2]
  · rw [hfl, lastT_snoc, hcur.2, List.drop_left]
/-- folds that are made twice are as made once -/
theorem fold_again {f : List UInt8} (m : Int) (h : GF f) : foldL m (foldL m f) = foldL m f := by
  obtain ⟨_, h2, h3⟩ := fold_right m h
  have e : ∀ g, foldL m g = (foldS m (Lib.indexByte (flatT (fl g)) 58) (flatT (fl g)) (flatT (fl g)).length).2 ++ lastT (fl g) := fun _ => rfl
  rw [e (foldL m f), h2, h3, ← e f]
end Go.Proofs.YtcagkoakbdbbaaaGreatDoor
