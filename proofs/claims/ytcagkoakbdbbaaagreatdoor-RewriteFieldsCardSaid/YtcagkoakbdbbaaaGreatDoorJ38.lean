/- Plain: a right field that is folded anew; a field as the document folds it. -/
import Derived.Test.YtcagkoakbdbbaaaGreatDoorJ36
import Derived.Test.YtcagkoakbdbbaaaGreatDoorJ37
namespace Go.Proofs.YtcagkoakbdbbaaaGreatDoor
set_option linter.unusedVariables false
set_option linter.unusedSimpArgs false
open Go.RowKit

/-- what has been made so far, where folds stand behind the colon -/
def Seg3 (z : Int) (b : List UInt8) (i : Nat) (out : List UInt8) : Prop := ∃ (segs : List (List UInt8)) (cur : List UInt8), out = (segs.map (· ++ [13, 10])).flatten ++ cur ∧ segs.flatten ++ cur = b.take i ∧ cur ≠ [] ∧ (∀ s ∈ segs, 2 ≤ s.length) ∧ (segs = [] ∨ blank1 cur = true) ∧ (∀ s ∈ segs.tail, blank1 s = true) ∧ (∀ s r, segs = s :: r → z + 1 < (s.length : Int))
theorem Seg3.more {z : Int} {b : List UInt8} {i : Nat} {out : List UInt8} {x : UInt8} (h : Seg3 z b i out) (hx : b[i]? = some x) : Seg3 z b (i + 1) (out ++ [x]) := by
  obtain ⟨segs, cur, rfl, h2, h3, h4, h5, h6, h7⟩ := h
  refine ⟨segs, cur ++ [x], by simp, by rw [← List.append_assoc, h2, List.take_add_one, hx]; rfl, by simp, h4, ?_, h6, h7⟩
  rcases h5 with h5 | h5
  · exact .inl h5
  · exact .inr (by rw [blank1_app h3]; exact h5)
theorem Seg3.fold {z : Int} {b : List UInt8} {i : Nat} {out : List UInt8} {x y : UInt8} (h : Seg3 z b i out) (hx : b[i]? = some x) (hb : blankB x = true) (hi : 0 < i) (hy : b[i - 1]? = some y) (hyb : blankB y = false) (h0 : 0 ≤ z) (hz : z + 1 < (i : Int)) : Seg3 z b (i + 1) (out ++ [13, 10, x]) := by
  obtain ⟨segs, cur, rfl, h2, h3, h4, h5, h6, h7⟩ := h
  have hlast : cur.getLast? = some y := by
    have h8 : (b.take i).getLast? = some y := by
      rw [List.getLast?_take, if_neg (by omega), hy]
      rfl
    rw [← h2] at h8
    cases hq : cur.getLast? with
    | none => rw [List.getLast?_eq_none_iff] at hq; exact absurd hq h3
    | some s => rw [last_app hq] at h8; exact h8
  have hlen : (segs.flatten ++ cur).length = i := by
    rw [h2, List.length_take]
    have := (List.getElem?_eq_some_iff.1 hx).1
    omega
  have h2c : 2 ≤ cur.length := by
    rcases h5 with rfl | h5
    · simp at hlen
      omega
    · match cur, h3, h5, hlast with
      | [c], _, h5, hlast =>
        simp at hlast
        subst hlast
        rw [show blank1 [c] = blankB c from rfl, hyb] at h5
        cases h5
      | _ :: _ :: _, _, _, _ => simp
  refine ⟨segs ++ [cur], [x], by simp, by rw [List.flatten_append, List.flatten_singleton, h2, List.take_add_one, hx]; rfl, by simp, fun s hs => ?_, .inr hb, fun s hs => ?_, fun s r e => ?_⟩
  · rcases List.mem_append.1 hs with hs | hs
    · exact h4 s hs
    · obtain rfl : s = cur := by simpa using hs
      exact h2c
  · cases segs with
    | nil => simp at hs
    | cons a r =>
      simp only [List.cons_append, List.tail_cons, List.mem_append, List.mem_singleton] at hs
      rcases hs with hs | rfl
      · exact h6 s (by simpa using hs)
      · exact h5.resolve_left (by simp)
  · cases segs with
    | nil =>
      obtain ⟨rfl, rfl⟩ : cur = s ∧ [] = r := by simpa using e
      simp at hlen
      omega
    | cons a t =>
      obtain ⟨rfl, _⟩ : a = s ∧ t ++ [cur] = r := by simpa using e
      exact h7 a t rfl
theorem seg3_foldS (m z : Int) (b : List UInt8) : ∀ i, 0 < i → i ≤ b.length → Seg3 z b i (foldS m z b i).2 := by
  intro i
  induction i with
  | zero => intro h; omega
  | succ i ih =>
    intro _ hi
    obtain ⟨x, hx⟩ : ∃ x, b[i]? = some x := ⟨_, List.getElem?_eq_getElem (by omega)⟩
    have hg : b.getD i 0 = x := by rw [List.getD_eq_getElem?_getD, hx]; rfl
    by_cases h0 : i = 0
    · subst h0
      have hf : isFold z b 0 = false := by
        unfold isFold
        by_cases h1 : 0 ≤ z
        · have h2 : decide (z + 1 < ((0 : Nat) : Int)) = false := by rw [decide_eq_false_iff_not]; omega
          rw [h2, Bool.and_false]
          rfl
        · simp [h1]
      have e : (foldS m z b (0 + 1)).2 = [x] := by
        unfold foldS
        rw [hf, hg]
        rfl
      rw [e]
      exact ⟨[], [x], rfl, by simp only [List.flatten_nil, List.nil_append]; rw [List.take_add_one, hx]; rfl, by simp, fun s hs => by simp at hs, .inl rfl, fun s hs => by simp at hs, fun s r e => by cases e⟩
    · have ih := ih (by omega) (by omega)
      unfold foldS
      by_cases hf : isFold z b i = true
      · rw [if_pos hf]
        obtain ⟨y, hy⟩ : ∃ y, b[i - 1]? = some y := ⟨_, List.getElem?_eq_getElem (by omega)⟩
        have hgy : b.getD (i - 1) 0 = y := by rw [List.getD_eq_getElem?_getD, hy]; rfl
        unfold isFold at hf
        simp only [Bool.and_eq_true, decide_eq_true_eq, Bool.not_eq_true', hg, hgy] at hf
        by_cases hb : bitM m (foldS m z b i).1 = true
        · simp only [hb, if_true, hg]
          exact ih.fold hx hf.1.2 (by omega) hy hf.2 hf.1.1.1 hf.1.1.2
        · simp only [hb, hg]
          exact ih.more hx
      · rw [if_neg hf, hg]
        exact ih.more hx
theorem blank_head {s : List UInt8} (h : blank1 s = true) : ∃ c r, s = c :: r ∧ blk c = true := by
  cases s with
  | nil => cases h
  | cons c r => exact ⟨c, r, rfl, h⟩
theorem seg_flat_len (segs : List (List UInt8)) (h : ∀ s ∈ segs, 2 ≤ s.length) : 2 * segs.length ≤ segs.flatten.length := by
  induction segs with
  | nil => simp
  | cons s r ih =>
    have h1 := h s List.mem_cons_self
    have h2 := ih fun x hx => h x (List.mem_cons_of_mem _ hx)
    rw [List.flatten_cons, List.length_append, List.length_cons]
    omega
theorem last_eol {ss : List (List UInt8 × Bool)} {l0 : List UInt8} {e : Bool} (h0 : LnR (l0 ++ eol e) ∧ textL (l0 ++ eol e) = l0) (hs : ∀ p ∈ ss, textL (p.1 ++ eol p.2) = p.1) : ∃ q, lastT ((l0 ++ eol e) :: ss.map (fun p => p.1 ++ eol p.2)) = eol q := by
  rcases List.eq_nil_or_concat ss with rfl | ⟨a, p, rfl⟩
  · refine ⟨e, ?_⟩
    show (l0 ++ eol e).drop (textL (l0 ++ eol e)).length = _
    rw [h0.2, List.drop_left]
  · refine ⟨p.2, ?_⟩
    rw [List.concat_eq_append, List.map_append, ← List.cons_append]
    show lastT (_ ++ [p.1 ++ eol p.2]) = _
    rw [lastT_snoc, hs p (by simp), List.drop_left]
theorem segV_true (r : List (List UInt8)) (cur : List UInt8) (q : Bool) : segV (r.map (fun s => (s, true)) ++ [(cur, q)]) = r.flatten ++ cur := by
  induction r with
  | nil => simp [segV]
  | cons a r ih =>
    have e : segV ((a :: r).map (fun s => (s, true)) ++ [(cur, q)]) = a ++ segV (r.map (fun s => (s, true)) ++ [(cur, q)]) := by simp [segV]
    rw [e, ih, List.flatten_cons, List.append_assoc]
theorem segT_true (r : List (List UInt8)) (cur : List UInt8) (q : Bool) : segT (r.map (fun s => (s, true)) ++ [(cur, q)]) = (r.map (· ++ [13, 10])).flatten ++ cur ++ eol q := by
  induction r with
  | nil => simp [segT]
  | cons a r ih =>
    have e : segT ((a :: r).map (fun s => (s, true)) ++ [(cur, q)]) = a ++ [13, 10] ++ segT (r.map (fun s => (s, true)) ++ [(cur, q)]) := by simp [segT, eol]
    rw [e, ih]
    simp
/-- a right field that is folded anew -/
theorem H1.fold {f nm v : List UInt8} (m : Int) (h : H1 f nm v) : H1 (foldL m f) nm v ∧ tT (foldL m f) = tT f := by
  have hgf := h.gf
  have hfr := fold_right m hgf
  refine ⟨?_, by unfold tT; rw [hfr.2.1]⟩
  obtain ⟨s0, e, ss, rfl, hp, hs, hv, hn, hl, hg, hc⟩ := h
  obtain ⟨h1, h2, h3⟩ := h1_lines (e := e) hn hp hs
  obtain ⟨q, hq⟩ := last_eol (ss := ss) (line_of (plain_name hn hp) (by simp) e) fun p hm => by
    obtain ⟨k1, c, r, k2, _⟩ := hs p hm
    exact (line_of k1 (by rw [k2]; simp) p.2).2
  have e1 : foldL m (nm ++ 58 :: s0 ++ eol e ++ segT ss) = (foldS m (Lib.indexByte (nm ++ 58 :: s0 ++ segV ss) 58) (nm ++ 58 :: s0 ++ segV ss) (nm ++ 58 :: s0 ++ segV ss).length).2 ++ eol q := by
    unfold foldL
    rw [h1, h3, hq]
  have hz : Lib.indexByte (nm ++ 58 :: s0 ++ segV ss) 58 = (nm.length : Int) := by
    have e2 : nm ++ 58 :: s0 ++ segV ss = nm ++ 58 :: (s0 ++ segV ss) := by simp
    rw [e2]
    exact (cutAt_some (cutAt_of (nm_no58 hn))).2.2
  have hpl : plain (nm ++ 58 :: s0 ++ segV ss) := fun c hc => by
    rcases List.mem_append.1 hc with hc | hc
    · exact plain_name hn hp c hc
    · obtain ⟨p, hm, hcp⟩ := List.mem_flatMap.1 hc
      exact (hs p hm).1 c hcp
  rw [e1, hz]
  obtain ⟨segs, cur, k1, k2, k3, k4, k5, k6, k7⟩ := seg3_foldS m (nm.length : Int) (nm ++ 58 :: s0 ++ segV ss) (nm ++ 58 :: s0 ++ segV ss).length (by simp only [List.length_append, List.length_cons]; omega) (Nat.le_refl _)
  rw [List.take_length] at k2
  rw [k1]
  have hplS : ∀ s ∈ segs, plain s := fun s hm c hc => hpl c (by rw [← k2]; exact List.mem_append_left _ (List.mem_flatten.2 ⟨s, hm, hc⟩))
  have hplC : plain cur := fun c hc => hpl c (by rw [← k2]; exact List.mem_append_right _ hc)
  cases segs with
  | nil =>
    have k2' : cur = nm ++ 58 :: (s0 ++ segV ss) := by simpa using k2
    refine ⟨s0 ++ segV ss, q, [], by simp [k2', segT], fun c hc => hplC c (by rw [k2']; simp [hc]), fun p hm => by simp at hm, by simpa [segV] using hv, hn, hl, hg, by simp⟩
  | cons s r =>
    have k7' := k7 s r rfl
    have e2 : s ++ (r.flatten ++ cur) = nm ++ 58 :: (s0 ++ segV ss) := by
      have := k2
      simp only [List.flatten_cons, List.append_assoc, List.cons_append] at this
      rw [this]
    obtain ⟨s0', hs0'⟩ : ∃ s0', s = nm ++ 58 :: s0' := by
      have hlt : nm.length + 1 ≤ s.length := by omega
      have h8 := congrArg (List.take (nm.length + 1)) e2
      rw [List.take_append_of_le_length hlt] at h8
      have h9 : (nm ++ 58 :: (s0 ++ segV ss)).take (nm.length + 1) = nm ++ [58] := by
        rw [List.take_append, List.take_of_length_le (by omega)]
        simp
      rw [h9] at h8
      refine ⟨s.drop (nm.length + 1), ?_⟩
      conv => lhs; rw [← List.take_append_drop (nm.length + 1) s, h8]
      simp
    have e3 : s0' ++ (r.flatten ++ cur) = s0 ++ segV ss := by
      rw [hs0', List.append_assoc] at e2
      have := List.append_cancel_left e2
      simpa using this
    refine ⟨s0', true, r.map (fun s => (s, true)) ++ [(cur, q)], ?_, fun c hc => hplS s List.mem_cons_self c (by rw [hs0']; simp [hc]), fun p hm => ?_, by rw [segV_true, e3]; exact hv, hn, hl, hg, ?_⟩
    · rw [segT_true, hs0']
      simp [eol]
    · rcases List.mem_append.1 hm with hm | hm
      · obtain ⟨t, ht, rfl⟩ := List.mem_map.1 hm
        exact ⟨hplS t (List.mem_cons_of_mem _ ht), blank_head (k6 t ht)⟩
      · obtain rfl : p = (cur, q) := by simpa using hm
        exact ⟨hplC, blank_head (k5.resolve_left (by simp))⟩
    · rw [segV_true]
      have h8 := seg_flat_len (s :: r) k4
      have h9 : 1 ≤ cur.length := List.length_pos_iff.2 k3
      rw [hs0'] at h8
      simp only [List.flatten_cons, List.length_append, List.length_cons, List.length_map, List.length_nil] at h8 ⊢
      omega
end Go.Proofs.YtcagkoakbdbbaaaGreatDoor
