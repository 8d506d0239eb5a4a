/- The lines of a field, line by line: how long, where they could be folded: in plain words. Nothing of the program. -/
import Derived.Test.YtgohdohkikkeeaaDoorP13
namespace Go.Proofs.YtgohdohkikkeeaaDoor
set_option linter.unusedVariables false
set_option linter.unusedSimpArgs false

/-- the lines: what stands in hand, then the pieces -/
def wrapL (cur : List UInt8) (first : Bool) : List (List UInt8) → List (List UInt8)
  | [] => [cur]
  | p :: ps => if first = false ∧ 76 < cur.length + p.length then cur :: wrapL p false ps else wrapL (cur ++ p) false ps
/-- lines, each with its end -/
def linesT (ls : List (List UInt8)) : List UInt8 := ls.flatMap fun l => l ++ [13, 10]
theorem wrapL_text : ∀ (ps : List (List UInt8)) (cur : List UInt8) (first : Bool), cur ++ wrapGo cur.length first ps = linesT (wrapL cur first ps)
  | [], cur, first => by simp [wrapGo, wrapL, linesT]
  | p :: ps, cur, first => by
    by_cases h : first = false ∧ 76 < cur.length + p.length
    · rw [wrapL, if_pos h]
      obtain ⟨rfl, h⟩ := h
      rw [wrapGo_turn h]
      have ih := wrapL_text ps p false
      have : linesT (cur :: wrapL p false ps) = cur ++ [13, 10] ++ linesT (wrapL p false ps) := by simp [linesT]
      rw [this, ← ih]
      simp
    · rw [wrapL, if_neg h, wrapGo_go h]
      have ih := wrapL_text ps (cur ++ p) false
      rw [List.length_append] at ih
      rw [← ih]
      simp
/-- a place where a line could be folded: at a blank behind no blank -/
def foldAt (l : List UInt8) (k : Nat) : Prop := ∃ c p, 0 < k ∧ l[k]? = some c ∧ l[k - 1]? = some p ∧ blk c = true ∧ blk p = false
/-- no such place from place f on -/
def noFold (f : Nat) (l : List UInt8) : Prop := ∀ k, f < k → ¬ foldAt l k
theorem pcsGo_noFold : ∀ (r cur : List UInt8), noFold 0 cur → ∀ p ∈ pcsGo cur r, noFold 0 p
  | [], cur, h, p, hp => by
    simp [pcsGo] at hp
    rw [hp]
    exact h
  | c :: r, cur, h, p, hp => by
    unfold pcsGo at hp
    split at hp
    · rcases List.mem_cons.1 hp with rfl | hp
      · exact h
      · refine pcsGo_noFold r [c] ?_ p hp
        rintro k hk ⟨x, y, _, hx, _⟩
        have := lt_of_get hx
        simp at this
        omega
    · rename_i ht
      refine pcsGo_noFold r (cur ++ [c]) ?_ p hp
      rintro k hk ⟨x, y, h0, hx, hy, hb, hn⟩
      have hkl := lt_of_get hx
      simp at hkl
      by_cases hk2 : k < cur.length
      · rw [List.getElem?_append_left hk2] at hx
        rw [List.getElem?_append_left (by omega)] at hy
        exact h k hk ⟨x, y, h0, hx, hy, hb, hn⟩
      · have hke : k = cur.length := by omega
        subst hke
        rw [List.getElem?_append_right (Nat.le_refl _)] at hx
        rw [List.getElem?_append_left (by omega)] at hy
        simp at hx
        subst hx
        apply ht
        unfold turnAt
        rw [List.getLast?_eq_getElem?, hy, hb]
        simp [hn]
theorem pcs_noFold (v : List UInt8) : ∀ p ∈ pcs v, noFold 0 p := pcsGo_noFold v [] (by
  rintro k hk ⟨x, y, _, hx, _⟩
  simp at hx)
/-- it has a sign that is no blank -/
def hasWord (p : List UInt8) : Prop := ∃ c ∈ p, blk c = false
theorem pcsGo_word : ∀ (r cur : List UInt8), (∃ x, (cur ++ r).getLast? = some x ∧ blk x = false) → ∀ p ∈ pcsGo cur r, hasWord p
  | [], cur, ⟨x, hx, hb⟩, p, hp => by
    simp [pcsGo] at hp
    subst hp
    rw [List.append_nil] at hx
    exact ⟨x, List.mem_of_getLast? hx, hb⟩
  | c :: r, cur, ⟨x, hx, hb⟩, p, hp => by
    unfold pcsGo at hp
    split at hp
    · rename_i ht
      rcases List.mem_cons.1 hp with rfl | hp
      · unfold turnAt at ht
        rw [Bool.and_eq_true] at ht
        have h2 := ht.2
        split at h2
        · rename_i y hy
          exact ⟨y, List.mem_of_getLast? hy, by simpa using h2⟩
        · cases h2
      · refine pcsGo_word r [c] ⟨x, ?_, hb⟩ p hp
        have : ([c] ++ r).getLast? = (cur ++ c :: r).getLast? := by
          rw [List.getLast?_append, List.getLast?_append]
          cases r with
          | nil => rfl
          | cons y t => simp [List.getLast?_eq_getElem?]
        rw [this]
        exact hx
    · refine pcsGo_word r (cur ++ [c]) ⟨x, ?_, hb⟩ p hp
      rw [List.append_assoc]
      exact hx
/-- a line: not too long, or with no place to fold it -/
def lineOk (f : Nat) (l : List UInt8) : Prop := l.length ≤ 76 ∨ noFold f l
theorem wrapL_ok : ∀ (ps : List (List UInt8)) (f : Nat) (cur : List UInt8), lineOk f cur → (∀ p ∈ ps, noFold 0 p) → ∃ l ls, wrapL cur false ps = l :: ls ∧ lineOk f l ∧ ∀ x ∈ ls, lineOk 0 x
  | [], f, cur, h, _ => ⟨cur, [], rfl, h, by simp⟩
  | p :: ps, f, cur, h, hp => by
    have hps : ∀ q ∈ ps, noFold 0 q := fun q hq => hp q (List.mem_cons_of_mem _ hq)
    by_cases hw : 76 < cur.length + p.length
    · rw [wrapL, if_pos ⟨rfl, hw⟩]
      obtain ⟨l, ls, e, h1, h2⟩ := wrapL_ok ps 0 p (.inr (hp p List.mem_cons_self)) hps
      refine ⟨cur, _, rfl, h, ?_⟩
      rw [e]
      intro x hx
      rcases List.mem_cons.1 hx with rfl | hx
      · exact h1
      · exact h2 x hx
    · rw [wrapL, if_neg (fun k => hw k.2)]
      exact wrapL_ok ps f (cur ++ p) (.inl (by rw [List.length_append]; omega)) hps
/-- a further line: it begins with a blank, and has a word -/
def furtherL (p : List UInt8) : Prop := blankHead p ∧ hasWord p
theorem furtherL.app {p : List UInt8} (h : furtherL p) (q : List UInt8) : furtherL (p ++ q) := by
  obtain ⟨⟨c, r, rfl, hb⟩, x, hx, hn⟩ := h
  exact ⟨⟨c, r ++ q, rfl, hb⟩, x, List.mem_append_left _ hx, hn⟩
theorem wrapL_further : ∀ (ps : List (List UInt8)) (cur : List UInt8) (first : Bool), (∀ p ∈ ps.tail, furtherL p) → (first = false → ∀ p ∈ ps, furtherL p) → ∃ l ls, wrapL cur first ps = l :: ls ∧ (furtherL cur → furtherL l) ∧ ∀ x ∈ ls, furtherL x
  | [], cur, first, _, _ => ⟨cur, [], rfl, id, by simp⟩
  | p :: ps, cur, first, ht, hf => by
    have hps : ∀ q ∈ ps, furtherL q := ht
    by_cases hw : first = false ∧ 76 < cur.length + p.length
    · rw [wrapL, if_pos hw]
      obtain ⟨l, ls, e, h1, h2⟩ := wrapL_further ps p false (fun q hq => hps q (List.mem_of_mem_tail hq)) (fun _ => hps)
      refine ⟨cur, _, rfl, id, ?_⟩
      rw [e]
      intro x hx
      rcases List.mem_cons.1 hx with rfl | hx
      · exact h1 (hf hw.1 p List.mem_cons_self)
      · exact h2 x hx
    · rw [wrapL, if_neg hw]
      obtain ⟨l, ls, e, h1, h2⟩ := wrapL_further ps (cur ++ p) false (fun q hq => hps q (List.mem_of_mem_tail hq)) (fun _ => hps)
      exact ⟨l, ls, e, fun h => h1 (h.app p), h2⟩
theorem wrapL_mem : ∀ (ps : List (List UInt8)) (cur : List UInt8) (first : Bool) (P : UInt8 → Prop), (∀ c ∈ cur, P c) → (∀ p ∈ ps, ∀ c ∈ p, P c) → ∀ l ∈ wrapL cur first ps, ∀ c ∈ l, P c
  | [], cur, first, P, h, _, l, hl => by
    simp [wrapL] at hl
    rw [hl]
    exact h
  | p :: ps, cur, first, P, h, hp, l, hl => by
    have hps : ∀ q ∈ ps, ∀ c ∈ q, P c := fun q hq => hp q (List.mem_cons_of_mem _ hq)
    have hpp := hp p List.mem_cons_self
    rw [wrapL] at hl
    split at hl
    · rcases List.mem_cons.1 hl with rfl | hl
      · exact h
      · exact wrapL_mem ps p false P hpp hps l hl
    · refine wrapL_mem ps (cur ++ p) false P ?_ hps l hl
      intro c hc
      rcases List.mem_append.1 hc with hc | hc
      · exact h c hc
      · exact hpp c hc
/-- the lines of a field -/
def foldL (n v : List UInt8) : List (List UInt8) := wrapL (n ++ [58, 32]) true (pcs v)
theorem foldL_text (n v : List UInt8) : foldF n v = linesT (foldL n v) := by
  have := wrapL_text (pcs v) (n ++ [58, 32]) true
  unfold foldL
  rw [← this, List.length_append]
  rfl
theorem foldL_ok {n v : List UInt8} : ∃ l ls, foldL n v = l :: ls ∧ lineOk (n.length + 1) l ∧ ∀ x ∈ ls, lineOk 0 x := by
  have hnf := pcs_noFold v
  unfold foldL
  cases hp : pcs v with
  | nil =>
    refine ⟨_, [], rfl, .inr ?_, by simp⟩
    rintro k hk ⟨c, p, _, hc, _⟩
    have := lt_of_get hc
    simp at this
    omega
  | cons p ps =>
    rw [hp] at hnf
    rw [wrapL, if_neg (by simp)]
    refine wrapL_ok ps _ _ (.inr ?_) (fun q hq => hnf q (List.mem_cons_of_mem _ hq))
    rintro k hk ⟨c, q, _, hc, hq, hb, hnb⟩
    have hl : (n ++ [58, 32]).length = n.length + 2 := by simp
    rw [List.getElem?_append_right (by omega), hl] at hc
    by_cases hk2 : k = n.length + 2
    · subst hk2
      rw [List.getElem?_append_left (by omega)] at hq
      simp at hq
      subst hq
      revert hnb
      decide
    · rw [List.getElem?_append_right (by omega), hl] at hq
      exact hnf p List.mem_cons_self (k - (n.length + 2)) (by omega) ⟨c, q, by omega, hc, by rw [← hq]; congr 1; omega, hb, hnb⟩
theorem foldL_further {n v : List UInt8} (hv : vlOk v = true) : ∀ x ∈ (foldL n v).tail, furtherL x := by
  have : ∃ l ls, foldL n v = l :: ls ∧ (furtherL (n ++ [58, 32]) → furtherL l) ∧ ∀ x ∈ ls, furtherL x := by
    refine wrapL_further _ _ _ ?_ (by simp)
    intro p hp
    refine ⟨pcsGo_tail v [] p hp, ?_⟩
    cases v with
    | nil => simp [pcs, pcsGo] at hp
    | cons c r =>
      refine pcsGo_word (c :: r) [] ?_ p (List.mem_of_mem_tail hp)
      have he := (vl_edges hv).1
      rw [edges_iff, Bool.and_eq_true] at he
      obtain ⟨x, hx⟩ : ∃ x, (c :: r).getLast? = some x := ⟨_, List.getLast?_eq_some_getLast (by simp)⟩
      refine ⟨x, hx, ?_⟩
      have h2 := he.2
      rw [hx] at h2
      simpa using h2
  obtain ⟨l, ls, e, _, h⟩ := this
  rw [e]
  exact h
theorem foldL_plain {n v : List UInt8} (hn : nmOk n = true) (hv : vlOk v = true) : ∀ l ∈ foldL n v, plain l := by
  refine wrapL_mem _ _ _ _ ?_ ?_
  · intro c hc
    rcases List.mem_append.1 hc with hc | hc
    · exact nm_plain hn c hc
    · simp at hc
      rcases hc with rfl | rfl <;> decide
  · intro p hp c hc
    exact vl_plain hv c (piece_mem hp hc)
/-- at place i, where the line began at f -/
def LineAt (ls : List (List UInt8)) (i f : Nat) : Prop := ∃ pre post, ls = pre ++ post ∧ f = (linesT pre).length ∧ f ≤ i + 1 ∧ (post = [] → i ≤ f) ∧ ∀ l r, post = l :: r → i ≤ f + l.length
theorem linesT_app (a b : List (List UInt8)) : linesT (a ++ b) = linesT a ++ linesT b := by simp [linesT]
theorem linesT_cons (l : List UInt8) (b : List (List UInt8)) : linesT (l :: b) = l ++ [13, 10] ++ linesT b := by simp [linesT]
theorem LineAt.start (ls : List (List UInt8)) : LineAt ls 0 0 := ⟨[], ls, rfl, rfl, by omega, fun _ => by omega, fun _ _ _ => by omega⟩
theorem LineAt.stop {ls : List (List UInt8)} {f : Nat} (h : LineAt ls (linesT ls).length f) : f = (linesT ls).length := by
  obtain ⟨pre, post, rfl, rfl, h1, h2, h3⟩ := h
  cases post with
  | nil => simp
  | cons l r =>
    have := h3 l r rfl
    rw [linesT_app, linesT_cons] at this
    simp at this
    omega
theorem LineAt.on {ls : List (List UInt8)} {i f : Nat} {c : UInt8} (h : LineAt ls i f) (hc : (linesT ls)[i]? = some c) (h13 : c ≠ 13) : LineAt ls (i + 1) f := by
  obtain ⟨pre, post, rfl, rfl, h1, h2, h3⟩ := h
  have hi := lt_of_get hc
  rw [linesT_app] at hc hi
  refine ⟨pre, post, rfl, rfl, by omega, ?_, ?_⟩
  · rintro rfl
    simp [linesT] at hi
    have := h2 rfl
    simp [linesT] at this
    simp [linesT]
    omega
  · rintro l r rfl
    have := h3 l r rfl
    by_cases he : i = (linesT pre).length + l.length
    · exfalso
      apply h13
      rw [List.getElem?_append_right (by omega), he, linesT_cons] at hc
      simpa using hc.symm
    · omega
theorem LineAt.line {ls : List (List UInt8)} {i f : Nat} (h : LineAt ls i f) (hc : (linesT ls)[i]? = some 13) (hp : ∀ l ∈ ls, plain l) : ∃ l, (f = 0 → ls.head? = some l) ∧ (0 < f → l ∈ ls.tail) ∧ f ≤ i ∧ l = ((linesT ls).drop f).take (i - f) ∧ LineAt ls (i + 1) (i + 2) := by
  obtain ⟨pre, post, rfl, rfl, h1, h2, h3⟩ := h
  have hi := lt_of_get hc
  rw [linesT_app] at hc hi
  cases post with
  | nil =>
    have := h2 rfl
    rw [List.length_append] at hi
    simp [linesT] at hi
    simp [linesT] at h1 this
    have hz : (linesT ([] : List (List UInt8))).length = 0 := rfl
    rw [show linesT pre ++ linesT [] = linesT pre from by simp [linesT]] at hc
    have hi' := lt_of_get hc
    have hne : pre ≠ [] := by
      rintro rfl
      simp [linesT] at hi'
    obtain ⟨qs, q, rfl⟩ : ∃ qs q, pre = qs ++ [q] := ⟨pre.dropLast, pre.getLast hne, (List.dropLast_concat_getLast hne).symm⟩
    exfalso
    have he : i = (linesT qs).length + (q.length + 1) := by
      rw [linesT_app, List.length_append] at hi'
      have : (linesT (qs ++ [q])).length ≤ i + 1 := by simpa [linesT] using h1
      rw [linesT_app, List.length_append] at this
      simp [linesT_cons, linesT] at hi' this ⊢
      omega
    rw [linesT_app, he, List.getElem?_append_right (by omega), linesT_cons] at hc
    simp at hc
  | cons l r =>
    have h3' := h3 l r rfl
    by_cases hlt : (linesT pre).length ≤ i
    · have hei : i = (linesT pre).length + l.length := by
        by_cases he : i = (linesT pre).length + l.length
        · exact he
        exfalso
        rw [List.getElem?_append_right hlt, linesT_cons, List.append_assoc, List.getElem?_append_left (by omega)] at hc
        exact (hp l (by simp) 13 (List.mem_of_getElem? hc)).2 rfl
      refine ⟨l, ?_, ?_, hlt, ?_, ⟨pre ++ [l], r, by simp, ?_, by omega, ?_, ?_⟩⟩
      · intro h0
        cases pre with
        | nil => rfl
        | cons x t => simp [linesT] at h0
      · intro h0
        cases pre with
        | nil => simp [linesT] at h0
        | cons x t => simp
      · rw [linesT_app, List.drop_left, linesT_cons, hei]
        simp
      · rw [linesT_app, linesT_cons, hei]
        simp [linesT]
        omega
      · intro _
        omega
      · intro _ _ _
        omega
    · exfalso
      have he : i + 1 = (linesT pre).length := by omega
      rw [List.getElem?_append_left (by omega)] at hc
      have hne : pre ≠ [] := by
        rintro rfl
        simp [linesT] at he
      obtain ⟨qs, q, rfl⟩ : ∃ qs q, pre = qs ++ [q] := ⟨pre.dropLast, pre.getLast hne, (List.dropLast_concat_getLast hne).symm⟩
      have he2 : i = (linesT qs).length + (q.length + 1) := by
        rw [linesT_app, List.length_append] at he
        simp [linesT_cons, linesT] at he ⊢
        omega
      rw [linesT_app, he2, List.getElem?_append_right (by omega), linesT_cons] at hc
      simp at hc
/-- what the law's inner loop knows at place k of a line -/
def turnsAt (l : List UInt8) (f n k : Nat) (t : Nat) (wd : Bool) : Prop := t ≤ k ∧ (0 < t → ∃ j, foldAt l j ∧ (0 < f ∨ n + 1 < j)) ∧ (wd = false → ∀ c ∈ l.take k, blk c = true)
theorem turnsAt.start (l : List UInt8) (f n : Nat) : turnsAt l f n 0 0 false := ⟨by omega, fun h => by omega, fun _ => by simp⟩
theorem turnsAt.word {l : List UInt8} {f n k t : Nat} {wd : Bool} (h : turnsAt l f n k t wd) : turnsAt l f n (k + 1) t true := ⟨by have := h.1; omega, h.2.1, fun e => by cases e⟩
theorem turnsAt.blank {l : List UInt8} {f n k t : Nat} {wd : Bool} {c : UInt8} (h : turnsAt l f n k t wd) (hc : l[k]? = some c) (hb : blk c = true) : turnsAt l f n (k + 1) t wd := ⟨by have := h.1; omega, h.2.1, fun e => by
  intro x hx
  rw [List.take_add_one, hc] at hx
  rcases List.mem_append.1 hx with hx | hx
  · exact h.2.2 e x hx
  · simp at hx
    rw [hx]
    exact hb⟩
theorem turnsAt.turn {l : List UInt8} {f n k t : Nat} {c p : UInt8} (h : turnsAt l f n k t true) (hc : l[k]? = some c) (hb : blk c = true) (hk : 0 < k) (hp : l[k - 1]? = some p) (hn : blk p = false) (hf : 0 < f ∨ n + 1 < k) : turnsAt l f n (k + 1) (t + 1) true := ⟨by have := h.1; omega, fun _ => ⟨k, ⟨c, p, hk, hc, hp, hb, hn⟩, hf⟩, fun e => by cases e⟩
/-- what the law's test of a line asks -/
theorem turnsAt.fine {l : List UInt8} {f n t : Nat} {wd : Bool} (h : turnsAt l f n l.length t wd) (hok : lineOk (if f = 0 then n + 1 else 0) l) : ¬ (76 < l.length ∧ 0 < t) := by
  rintro ⟨h1, h2⟩
  obtain ⟨j, hj, hf⟩ := h.2.1 h2
  rcases hok with hok | hok
  · omega
  · refine hok j ?_ hj
    obtain ⟨_, _, h0, _⟩ := hj
    split <;> omega
theorem turnsAt.hasWord {l : List UInt8} {f n t : Nat} {wd : Bool} (h : turnsAt l f n l.length t wd) (hw : hasWord l) : wd = true := by
  cases wd with
  | true => rfl
  | false =>
    obtain ⟨c, hc, hb⟩ := hw
    have := h.2.2 rfl c (by rwa [List.take_length])
    rw [hb] at this
    cases this
end Go.Proofs.YtgohdohkikkeeaaDoor
