/- What is written as lines is read as that: lines with their ends, in plain words. Nothing of the program. · Lines' ends that change, and heads that are cut: in plain words. Nothing of the program. -/
import Derived.Test.YtkllecicddfjpaaGreatDoorJ18
import Derived.Test.YtkllecicddfjpaaGreatDoorJ16
namespace Go.Proofs.YtkllecicddfjpaaGreatDoor
namespace Fd
set_option linter.unusedVariables false
set_option linter.unusedSimpArgs false

/-- a line's end: whole, or LF alone -/
def eol (b : Bool) : List UInt8 := if b then [13, 10] else [10]
/-- no end of a line in it -/
def plain (s : List UInt8) : Prop := ∀ c ∈ s, c ≠ 10 ∧ c ≠ 13
/-- lines, each with its end -/
def segT (ss : List (List UInt8 × Bool)) : List UInt8 := ss.flatMap fun p => p.1 ++ eol p.2
/-- what the lines hold -/
def segV (ss : List (List UInt8 × Bool)) : List UInt8 := ss.flatMap fun p => p.1
/-- further lines: each begins with a blank -/
def further (ss : List (List UInt8 × Bool)) : Prop := ∀ p ∈ ss, plain p.1 ∧ ∃ c r, p.1 = c :: r ∧ blk c = true

theorem cutAt_of {s : UInt8} {a b : List UInt8} (h : s ∉ a) : cutAt s (a ++ s :: b) = some (a, b) := by
  induction a with
  | nil => simp [cutAt]
  | cons c r ih =>
    simp only [List.mem_cons, not_or] at h
    rw [List.cons_append, cutAt, if_neg (Ne.symm h.1), ih h.2]
    rfl
theorem cutAt_not {s : UInt8} {a : List UInt8} (h : s ∉ a) : cutAt s a = none := by
  induction a with
  | nil => rfl
  | cons c r ih =>
    simp only [List.mem_cons, not_or] at h
    rw [cutAt, if_neg (Ne.symm h.1), ih h.2]
    rfl
theorem deCr_plain {s : List UInt8} (h : plain s) : deCr s = s := by
  unfold deCr
  rw [if_neg]
  intro e
  have := List.mem_of_getLast? e
  exact (h 13 this).2 rfl
theorem deCr_cr (s : List UInt8) : deCr (s ++ [13]) = s := by
  unfold deCr
  rw [if_pos (by simp)]
  simp
theorem cut_eol {s : List UInt8} (h : plain s) (b : Bool) (more : List UInt8) : ∃ a, cutAt 10 (s ++ eol b ++ more) = some (a, more) ∧ deCr a = s := by
  cases b with
  | true =>
    refine ⟨s ++ [13], ?_, deCr_cr s⟩
    have : s ++ eol true ++ more = (s ++ [13]) ++ 10 :: more := by simp [eol]
    rw [this]
    exact cutAt_of (by
      intro hm
      rcases List.mem_append.1 hm with h1 | h1
      · exact (h 10 h1).1 rfl
      · simp at h1)
  | false =>
    refine ⟨s, ?_, deCr_plain h⟩
    have : s ++ eol false ++ more = s ++ 10 :: more := by simp [eol]
    rw [this]
    exact cutAt_of (fun hm => (h 10 hm).1 rfl)

/-- nothing behind that belongs to the value -/
def stops (rest : List UInt8) : Prop := rest = [] ∨ ∃ c r, rest = c :: r ∧ blk c = false
theorem valGo_stops {acc rest : List UInt8} (h : stops rest) : valGo acc rest = some (acc, rest) := by
  rcases h with rfl | ⟨c, r, rfl, hc⟩
  · exact valGo_nil acc
  · exact valGo_stop hc
theorem valGo_segs : ∀ (ss : List (List UInt8 × Bool)) (acc rest : List UInt8), further ss → stops rest → valGo acc (segT ss ++ rest) = some (acc ++ segV ss, rest)
  | [], acc, rest, _, hr => by
    simp only [segT, segV, List.flatMap_nil, List.nil_append, List.append_nil]
    exact valGo_stops hr
  | (s, b) :: ss, acc, rest, hs, hr => by
    obtain ⟨hp, c, r, hc, hb⟩ := hs (s, b) (by simp)
    have ih := valGo_segs ss (acc ++ s) rest (fun p hp => hs p (by simp [hp])) hr
    obtain ⟨a, ha, hd⟩ := cut_eol hp b (segT ss ++ rest)
    have e : segT ((s, b) :: ss) ++ rest = s ++ eol b ++ (segT ss ++ rest) := by simp [segT]
    rw [e]
    simp only at hc
    subst hc
    have e2 : c :: r ++ eol b ++ (segT ss ++ rest) = c :: (r ++ eol b ++ (segT ss ++ rest)) := rfl
    rw [e2] at ha ⊢
    rw [valGo_more hb ha, hd, ih]
    simp [segV]
theorem nm_no58 {nm : List UInt8} (h : nmOk nm = true) : 58 ∉ nm := by
  intro hm
  unfold nmOk at h
  rw [Bool.and_eq_true, List.all_eq_true] at h
  exact ((nmc_iff 58).1 (h.1 58 hm)).2.2 rfl
theorem field_read {k : Nat} {nm s0 v rest : List UInt8} {ss : List (List UInt8 × Bool)} (hk : k ≠ 200) (hn : nmOk nm = true) (hs : further ss) (hr : stops rest) (hv : trimB (s0 ++ segV ss) = v) (hl : v.length ≤ 8192) (hg : v.all sgc = true) :
    fieldP k (nm ++ 58 :: s0) (segT ss ++ rest) = .ok ((nm, v), rest) := by
  unfold fieldP
  rw [cutAt_of (nm_no58 hn)]
  simp only [hn, if_true, if_neg hk, valGo_segs ss s0 rest hs hr, hv]
  rw [if_neg (by omega), if_pos hg]

/-- the lines of fields, and the fields -/
inductive HeadT : List (List UInt8 × List UInt8) → List UInt8 → Prop
  | nil : HeadT [] []
  | cons (nm v s0 t : List UInt8) (e : Bool) (ss : List (List UInt8 × Bool)) (fs : List (List UInt8 × List UInt8)) (hn : nmOk nm = true) (hp : plain s0) (hs : further ss) (hv : trimB (s0 ++ segV ss) = v) (hl : v.length ≤ 8192) (hg : v.all sgc = true)
      (h : HeadT fs t) : HeadT ((nm, v) :: fs) (nm ++ 58 :: s0 ++ eol e ++ segT ss ++ t)
theorem HeadT.append {fs gs : List (List UInt8 × List UInt8)} {t u : List UInt8} (h : HeadT fs t) (k : HeadT gs u) : HeadT (fs ++ gs) (t ++ u) := by
  induction h with
  | nil => exact k
  | cons nm v s0 t e ss fs hn hp hs hv hl hg h ih =>
    have := HeadT.cons nm v s0 (t ++ u) e ss (fs ++ gs) hn hp hs hv hl hg ih
    rw [← List.append_assoc] at this
    exact this
theorem nm_plain {nm : List UInt8} (h : nmOk nm = true) : plain nm := by
  intro c hc
  unfold nmOk at h
  rw [Bool.and_eq_true, List.all_eq_true] at h
  have := (nmc_iff c).1 (h.1 c hc)
  constructor
  · rintro rfl
    simp at this
  · rintro rfl
    simp at this
theorem nm_head {nm : List UInt8} (h : nmOk nm = true) : ∃ c r, nm = c :: r ∧ blk c = false := by
  match nm, h with
  | c :: r, h =>
    refine ⟨c, r, rfl, ?_⟩
    unfold nmOk at h
    rw [Bool.and_eq_true, List.all_eq_true] at h
    have h1 := (nmc_iff c).1 (h.1 c (by simp))
    have h2 := blk_iff c
    cases hb : blk c with
    | false => rfl
    | true =>
      have := h2.1 hb
      omega
theorem HeadT.stops {fs : List (List UInt8 × List UInt8)} {t : List UInt8} (h : HeadT fs t) (e : Bool) (rest : List UInt8) : stops (t ++ eol e ++ rest) := by
  cases h with
  | nil =>
    cases e
    · exact .inr ⟨10, rest, rfl, by decide⟩
    · exact .inr ⟨13, 10 :: rest, rfl, by decide⟩
  | cons nm v s0 t e0 ss fs hn hp hs hv hl hg h =>
    obtain ⟨c, r, rfl, hb⟩ := nm_head hn
    exact .inr ⟨c, _, rfl, hb⟩
theorem readGo_head {fs : List (List UInt8 × List UInt8)} {t : List UInt8} (h : HeadT fs t) : ∀ (acc : List (List UInt8 × List UInt8)) (e : Bool) (rest : List UInt8), acc.length + fs.length ≤ 200 → readGo acc (t ++ eol e ++ rest) = .ok (acc ++ fs, rest) := by
  induction h with
  | nil =>
    intro acc e rest _
    obtain ⟨a, ha, hd⟩ := cut_eol (s := []) (by intro c hc; simp at hc) e rest
    rw [List.nil_append] at ha ⊢
    rw [readGo_end ha hd, List.append_nil]
  | cons nm v s0 t e0 ss fs hn hp hs hv hl hg h ih =>
    intro acc e rest hk
    have hpl : plain (nm ++ 58 :: s0) := by
      intro c hc
      rcases List.mem_append.1 hc with h1 | h1
      · exact nm_plain hn c h1
      · rcases List.mem_cons.1 h1 with rfl | h2
        · decide
        · exact hp c h2
    obtain ⟨a, ha, hd⟩ := cut_eol hpl e0 (segT ss ++ (t ++ eol e ++ rest))
    have e1 : nm ++ 58 :: s0 ++ eol e0 ++ segT ss ++ t ++ eol e ++ rest = nm ++ 58 :: s0 ++ eol e0 ++ (segT ss ++ (t ++ eol e ++ rest)) := by simp
    have hne : deCr a ≠ [] := by rw [hd]; simp
    have hf := field_read (k := acc.length) (rest := t ++ eol e ++ rest) (by simp at hk; omega) hn hs (h.stops e rest) hv hl hg
    rw [e1, readGo_ok ha hne (by rw [hd]; exact hf), ih (acc ++ [(nm, v)]) e rest (by simp at hk ⊢; omega)]
    simp

theorem edges_iff (c : UInt8) (r : List UInt8) : edges (c :: r) = (!blk c && (c :: r).getLast?.all fun x => !blk x) := rfl
theorem contains_blk (c : UInt8) : ([32, 9] : List UInt8).contains c = blk c := by
  unfold blk
  simp [List.contains, List.elem]
  cases c == 32 <;> cases c == 9 <;> rfl
theorem trimB_pad {v : List UInt8} (h : edges v = true) : trimB (32 :: v) = v := by
  match v with
  | [] => decide
  | c :: r =>
    rw [edges_iff, Bool.and_eq_true] at h
    unfold trimB Lib.trimS Lib.trimLeftS Lib.trimRightS
    simp only [contains_blk]
    have hrev : (32 :: c :: r).reverse.dropWhile blk = (32 :: c :: r).reverse := by
      obtain ⟨x, hx⟩ : ∃ x, (c :: r).getLast? = some x := ⟨_, List.getLast?_eq_some_getLast (by simp)⟩
      rw [hx] at h
      have h2 : blk x = false := by simpa using h.2
      obtain ⟨t, ht⟩ := List.getLast?_eq_some_iff.1 hx
      have : (32 :: c :: r).reverse = x :: (32 :: t).reverse := by rw [ht]; simp
      rw [this, List.dropWhile_cons_of_neg (by simp [h2])]
    rw [hrev, List.reverse_reverse, List.dropWhile_cons_of_pos (by decide), List.dropWhile_cons_of_neg (by simpa using h.1)]

/-- it begins with a blank -/
def blankHead (p : List UInt8) : Prop := ∃ c r, p = c :: r ∧ blk c = true
theorem pcsGo_tail : ∀ (r cur : List UInt8), ∀ p ∈ (pcsGo cur r).tail, blankHead p
  | [], cur => by simp [pcsGo]
  | c :: r, cur => by
    unfold pcsGo
    split
    · rename_i ht
      have hb : blk c = true := by
        unfold turnAt at ht
        rw [Bool.and_eq_true] at ht
        exact ht.1
      intro p hp
      rw [List.tail_cons] at hp
      obtain ⟨x, ps, h⟩ := pcsGo_cur r [c]
      rw [h] at hp
      rcases List.mem_cons.1 hp with rfl | h2
      · exact ⟨c, x, rfl, hb⟩
      · exact pcsGo_tail r [c] p (by rw [h]; exact h2)
    · exact pcsGo_tail r (cur ++ [c])
theorem wrap_segs : ∀ (ps : List (List UInt8)) (line : Nat) (first : Bool), (∀ p ∈ ps, plain p) → (∀ p ∈ ps.tail, blankHead p) → (first = false → ∀ p ∈ ps, blankHead p) →
    ∃ s0 ss, wrapGo line first ps = s0 ++ eol true ++ segT ss ∧ plain s0 ∧ further ss ∧ s0 ++ segV ss = ps.flatten
  | [], line, first, _, _, _ => ⟨[], [], rfl, (fun c hc => by simp at hc), (fun p hp => by simp at hp), rfl⟩
  | p :: ps, line, first, hp, ht, hf => by
    have hps : ∀ q ∈ ps, blankHead q := ht
    have hpp := hp p (by simp)
    by_cases h : first = false ∧ 76 < line + p.length
    · obtain ⟨s0, ss, h1, h2, h3, h4⟩ := wrap_segs ps p.length false (fun q hq => hp q (by simp [hq])) (fun q hq => hps q (List.mem_of_mem_tail hq)) (fun _ => hps)
      obtain ⟨c, r, hc, hb⟩ := hf h.1 p (by simp)
      refine ⟨[], (p ++ s0, true) :: ss, ?_, (fun c hc => by simp at hc), ?_, ?_⟩
      · obtain ⟨rfl, hlt⟩ := h
        rw [wrapGo_turn hlt, h1]
        simp [segT, eol]
      · intro q hq
        rcases List.mem_cons.1 hq with rfl | hq
        · refine ⟨fun x hx => ?_, c, r ++ s0, by rw [hc]; rfl, hb⟩
          rcases List.mem_append.1 hx with h5 | h5
          · exact hpp x h5
          · exact h2 x h5
        · exact h3 q hq
      · rw [List.flatten_cons, ← h4]
        simp [segV]
    · obtain ⟨s0, ss, h1, h2, h3, h4⟩ := wrap_segs ps (line + p.length) false (fun q hq => hp q (by simp [hq])) (fun q hq => hps q (List.mem_of_mem_tail hq)) (fun _ => hps)
      refine ⟨p ++ s0, ss, ?_, ?_, h3, ?_⟩
      · rw [wrapGo_go h, h1]
        simp
      · intro x hx
        rcases List.mem_append.1 hx with h5 | h5
        · exact hpp x h5
        · exact h2 x h5
      · rw [List.flatten_cons, ← h4]
        simp
theorem vl_plain {v : List UInt8} (h : vlOk v = true) : plain v := by
  intro c hc
  unfold vlOk at h
  rw [Bool.and_eq_true, Bool.and_eq_true, List.all_eq_true] at h
  have := (sgc_iff c).1 (h.1.1 c hc)
  constructor
  · rintro rfl
    simp at this
  · rintro rfl
    simp at this
theorem piece_mem {v p : List UInt8} (h : p ∈ pcs v) {c : UInt8} (hc : c ∈ p) : c ∈ v := by
  have h1 : c ∈ (pcs v).flatten := List.mem_flatten.2 ⟨p, h, hc⟩
  rwa [pcs_flat] at h1
/-- what is written is the lines of the field -/
theorem fold_head {n v : List UInt8} (hn : nmOk n = true) (hv : vlOk v = true) : HeadT [(n, v)] (foldF n v) := by
  obtain ⟨s0, ss, h1, h2, h3, h4⟩ := wrap_segs (pcs v) (n.length + 2) true (fun p hp c hc => vl_plain hv c (piece_mem hp hc)) (pcsGo_tail v []) (fun h => by cases h)
  rw [pcs_flat] at h4
  have hpl : plain (32 :: s0) := by
    intro c hc
    rcases List.mem_cons.1 hc with rfl | h
    · decide
    · exact h2 c h
  have hvl := hv
  unfold vlOk at hvl
  rw [Bool.and_eq_true, Bool.and_eq_true, decide_eq_true_iff] at hvl
  have ht : trimB ((32 :: s0) ++ segV ss) = v := by
    rw [List.cons_append, h4]
    exact trimB_pad hvl.2
  have := HeadT.cons n v (32 :: s0) [] true ss [] hn hpl h3 ht hvl.1.2 hvl.1.1 HeadT.nil
  have e : foldF n v = n ++ 58 :: (32 :: s0) ++ eol true ++ segT ss ++ [] := by
    unfold foldF
    rw [h1]
    simp
  rw [e]
  exact this
end Fd
end Go.Proofs.YtkllecicddfjpaaGreatDoor

namespace Go.Proofs.YtkllecicddfjpaaGreatDoor
namespace Fd
set_option linter.unusedVariables false
set_option linter.unusedSimpArgs false

/-- all ends whole -/
def whole (ss : List (List UInt8 × Bool)) : Prop := ∀ p ∈ ss, p.2 = true
/-- the lines of fields, as they are written -/
inductive HeadW : List (List UInt8 × List UInt8) → List UInt8 → Prop
  | nil : HeadW [] []
  | cons (nm v s0 t : List UInt8) (ss : List (List UInt8 × Bool)) (fs : List (List UInt8 × List UInt8)) (hn : nmOk nm = true) (hp : plain s0) (hs : further ss) (hw : whole ss) (hv : s0 ++ segV ss = 32 :: v) (hl : vlOk v = true)
      (h : HeadW fs t) : HeadW ((nm, v) :: fs) (nm ++ 58 :: s0 ++ eol true ++ segT ss ++ t)
theorem vl_edges {v : List UInt8} (h : vlOk v = true) : edges v = true ∧ v.length ≤ 8192 ∧ v.all sgc = true := by
  unfold vlOk at h
  rw [Bool.and_eq_true, Bool.and_eq_true, decide_eq_true_iff] at h
  exact ⟨h.2, h.1.2, h.1.1⟩
theorem HeadW.toT {fs : List (List UInt8 × List UInt8)} {t : List UInt8} (h : HeadW fs t) : HeadT fs t := by
  induction h with
  | nil => exact .nil
  | cons nm v s0 t ss fs hn hp hs hw hv hl h ih =>
    obtain ⟨h1, h2, h3⟩ := vl_edges hl
    exact HeadT.cons nm v s0 t true ss fs hn hp hs (by rw [hv]; exact trimB_pad h1) h2 h3 ih
theorem HeadW.append {fs gs : List (List UInt8 × List UInt8)} {t u : List UInt8} (h : HeadW fs t) (k : HeadW gs u) : HeadW (fs ++ gs) (t ++ u) := by
  induction h with
  | nil => exact k
  | cons nm v s0 t ss fs hn hp hs hw hv hl h ih =>
    have := HeadW.cons nm v s0 (t ++ u) ss (fs ++ gs) hn hp hs hw hv hl ih
    rw [← List.append_assoc] at this
    exact this
theorem wrap_whole : ∀ (ps : List (List UInt8)) (line : Nat) (first : Bool), (∀ p ∈ ps, plain p) → (∀ p ∈ ps.tail, blankHead p) → (first = false → ∀ p ∈ ps, blankHead p) →
    ∃ s0 ss, wrapGo line first ps = s0 ++ eol true ++ segT ss ∧ plain s0 ∧ further ss ∧ whole ss ∧ s0 ++ segV ss = ps.flatten
  | [], line, first, _, _, _ => ⟨[], [], rfl, (fun c hc => by simp at hc), (fun p hp => by simp at hp), (fun p hp => by simp at hp), rfl⟩
  | p :: ps, line, first, hp, ht, hf => by
    have hps : ∀ q ∈ ps, blankHead q := ht
    have hpp := hp p (by simp)
    by_cases h : first = false ∧ 76 < line + p.length
    · obtain ⟨s0, ss, h1, h2, h3, hw, h4⟩ := wrap_whole ps p.length false (fun q hq => hp q (by simp [hq])) (fun q hq => hps q (List.mem_of_mem_tail hq)) (fun _ => hps)
      obtain ⟨c, r, hc, hb⟩ := hf h.1 p (by simp)
      refine ⟨[], (p ++ s0, true) :: ss, ?_, (fun c hc => by simp at hc), ?_, ?_, ?_⟩
      · obtain ⟨rfl, hlt⟩ := h
        rw [wrapGo_turn hlt, h1]
        simp [segT, eol]
      · intro q hq
        rcases List.mem_cons.1 hq with rfl | hq
        · refine ⟨fun x hx => ?_, c, r ++ s0, by rw [hc]; rfl, hb⟩
          rcases List.mem_append.1 hx with h5 | h5
          · exact hpp x h5
          · exact h2 x h5
        · exact h3 q hq
      · intro q hq
        rcases List.mem_cons.1 hq with rfl | hq
        · rfl
        · exact hw q hq
      · rw [List.flatten_cons, ← h4]
        simp [segV]
    · obtain ⟨s0, ss, h1, h2, h3, hw, h4⟩ := wrap_whole ps (line + p.length) false (fun q hq => hp q (by simp [hq])) (fun q hq => hps q (List.mem_of_mem_tail hq)) (fun _ => hps)
      refine ⟨p ++ s0, ss, ?_, ?_, h3, hw, ?_⟩
      · rw [wrapGo_go h, h1]
        simp
      · intro x hx
        rcases List.mem_append.1 hx with h5 | h5
        · exact hpp x h5
        · exact h2 x h5
      · rw [List.flatten_cons, ← h4]
        simp
theorem fold_whole {n v : List UInt8} (hn : nmOk n = true) (hv : vlOk v = true) : HeadW [(n, v)] (foldF n v) := by
  obtain ⟨s0, ss, h1, h2, h3, hw, h4⟩ := wrap_whole (pcs v) (n.length + 2) true (fun p hp c hc => vl_plain hv c (piece_mem hp hc)) (pcsGo_tail v []) (fun h => by cases h)
  rw [pcs_flat] at h4
  have hpl : plain (32 :: s0) := by
    intro c hc
    rcases List.mem_cons.1 hc with rfl | h
    · decide
    · exact h2 c h
  have := HeadW.cons n v (32 :: s0) [] ss [] hn hpl h3 hw (by rw [List.cons_append, h4]) hv HeadW.nil
  have e : foldF n v = n ++ 58 :: (32 :: s0) ++ eol true ++ segT ss ++ [] := by
    unfold foldF
    rw [h1]
    simp
  rw [e]
  exact this

/-- some CR go, some blanks get a line's end ahead -/
inductive Lo : UInt8 → List UInt8 → List UInt8 → Prop
  | nil (p : UInt8) : Lo p [] []
  | drop (p : UInt8) (r t : List UInt8) (h : Lo 13 r t) : Lo p (13 :: r) t
  | keep (p c : UInt8) (r t : List UInt8) (h : Lo c r t) : Lo p (c :: r) (c :: t)
  | put (p c : UInt8) (r t : List UInt8) (hb : blk c = true) (h1 : p ≠ 10) (h2 : p ≠ 58) (h : Lo c r t) : Lo p (c :: r) (13 :: 10 :: c :: t)
theorem lo_lf {p : UInt8} {more o : List UInt8} (h : Lo p (10 :: more) o) : ∃ o', o = 10 :: o' ∧ Lo 10 more o' := by
  generalize hl : 10 :: more = l at h
  cases h with
  | nil => cases hl
  | drop p r t h => cases hl
  | keep p c r t h => cases hl; exact ⟨_, rfl, h⟩
  | put p c r t hb h1 h2 h => cases hl; exact absurd hb (by decide)
theorem lo_seg : ∀ (s : List UInt8) (p : UInt8) (more o : List UInt8), plain s → Lo p (s ++ 13 :: 10 :: more) o →
    ∃ t0 e0 ts o', o = t0 ++ eol e0 ++ segT ts ++ o' ∧ plain t0 ∧ further ts ∧ t0 ++ segV ts = s ∧ Lo 10 more o' ∧ (p = 10 ∨ p = 58 → ∀ c r, s = c :: r → ∃ r', t0 = c :: r')
  | [], p, more, o, _, h => by
    rw [List.nil_append] at h
    generalize hl : 13 :: 10 :: more = l at h
    cases h with
    | nil => cases hl
    | drop p r t h =>
      cases hl
      obtain ⟨o', rfl, h'⟩ := lo_lf h
      exact ⟨[], false, [], o', rfl, (fun c hc => by simp at hc), (fun p hp => by simp at hp), rfl, h', fun _ c r e => by cases e⟩
    | keep p c r t h =>
      cases hl
      obtain ⟨o', rfl, h'⟩ := lo_lf h
      exact ⟨[], true, [], o', rfl, (fun c hc => by simp at hc), (fun p hp => by simp at hp), rfl, h', fun _ c r e => by cases e⟩
    | put p c r t hb h1 h2 h => cases hl; exact absurd hb (by decide)
  | c :: s, p, more, o, hpl, h => by
    have hpl' : plain s := fun x hx => hpl x (by simp [hx])
    have hc := hpl c (by simp)
    rw [List.cons_append] at h
    generalize hl : c :: (s ++ 13 :: 10 :: more) = l at h
    cases h with
    | nil => cases hl
    | drop p r t h => cases hl; exact absurd rfl hc.2
    | keep p c' r t h =>
      cases hl
      obtain ⟨t0, e0, ts, o', rfl, h1, h2, h3, h4, _⟩ := lo_seg s c more t hpl' h
      refine ⟨c :: t0, e0, ts, o', rfl, ?_, h2, by rw [List.cons_append, h3], h4, fun _ c' r e => by cases e; exact ⟨t0, rfl⟩⟩
      intro x hx
      rcases List.mem_cons.1 hx with rfl | hx
      · exact hc
      · exact h1 x hx
    | put p c' r t hb hp1 hp2 h =>
      cases hl
      obtain ⟨t0, e0, ts, o', rfl, h1, h2, h3, h4, _⟩ := lo_seg s c more t hpl' h
      refine ⟨[], true, (c :: t0, e0) :: ts, o', by simp [segT, eol], (fun c hc => by simp at hc), ?_, ?_, h4, fun h => by rcases h with h | h; exact absurd h hp1; exact absurd h hp2⟩
      · intro q hq
        rcases List.mem_cons.1 hq with rfl | hq
        · refine ⟨fun x hx => ?_, c, t0, rfl, hb⟩
          rcases List.mem_cons.1 hx with rfl | hx
          · exact hc
          · exact h1 x hx
        · exact h2 q hq
      · rw [← h3]
        simp [segV]
theorem lo_segs : ∀ (ss : List (List UInt8 × Bool)) (more o : List UInt8), further ss → whole ss → Lo 10 (segT ss ++ more) o → ∃ ts o', o = segT ts ++ o' ∧ further ts ∧ segV ts = segV ss ∧ Lo 10 more o'
  | [], more, o, _, _, h => ⟨[], o, rfl, (fun p hp => by simp at hp), rfl, h⟩
  | (s, b) :: ss, more, o, hf, hw, h => by
    obtain ⟨hp, c, r, hc, hb⟩ := hf (s, b) (by simp)
    have hb2 : b = true := hw (s, b) (by simp)
    subst hb2
    have e : segT ((s, true) :: ss) ++ more = s ++ 13 :: 10 :: (segT ss ++ more) := by simp [segT, eol]
    rw [e] at h
    obtain ⟨t0, e0, ts, o', rfl, h1, h2, h3, h4, h5⟩ := lo_seg s 10 _ o hp h
    obtain ⟨r', rfl⟩ := h5 (.inl rfl) c r hc
    obtain ⟨us, o2, rfl, k1, k2, k3⟩ := lo_segs ss more o' (fun p hp => hf p (by simp [hp])) (fun p hp => hw p (by simp [hp])) h4
    refine ⟨(c :: r', e0) :: (ts ++ us), o2, by simp [segT], ?_, ?_, k3⟩
    · intro q hq
      rcases List.mem_cons.1 hq with rfl | hq
      · exact ⟨h1, c, r', rfl, hb⟩
      · rcases List.mem_append.1 hq with hq | hq
        · exact h2 q hq
        · exact k1 q hq
    · have : segV ((s, true) :: ss) = s ++ segV ss := rfl
      rw [this, ← h3, ← k2]
      simp [segV]
theorem lo_name : ∀ (nm : List UInt8) (p : UInt8) (more o : List UInt8), (∀ c ∈ nm, c ≠ 13 ∧ blk c = false) → Lo p (nm ++ 58 :: more) o → ∃ o', o = nm ++ 58 :: o' ∧ Lo 58 more o'
  | [], p, more, o, _, h => by
    rw [List.nil_append] at h
    generalize hl : 58 :: more = l at h
    cases h with
    | nil => cases hl
    | drop p r t h => cases hl
    | keep p c r t h => cases hl; exact ⟨_, rfl, h⟩
    | put p c r t hb h1 h2 h => cases hl; exact absurd hb (by decide)
  | c :: nm, p, more, o, hn, h => by
    have hc := hn c (by simp)
    rw [List.cons_append] at h
    generalize hl : c :: (nm ++ 58 :: more) = l at h
    cases h with
    | nil => cases hl
    | drop p r t h => cases hl; exact absurd rfl hc.1
    | keep p c' r t h =>
      cases hl
      obtain ⟨o', rfl, h'⟩ := lo_name nm c more t (fun x hx => hn x (by simp [hx])) h
      exact ⟨o', rfl, h'⟩
    | put p c' r t hb h1 h2 h => cases hl; rw [hc.2] at hb; cases hb
theorem nm_lo {nm : List UInt8} (h : nmOk nm = true) : ∀ c ∈ nm, c ≠ 13 ∧ blk c = false := by
  intro c hc
  refine ⟨(nm_plain h c hc).2, ?_⟩
  unfold nmOk at h
  rw [Bool.and_eq_true, List.all_eq_true] at h
  have h1 := (nmc_iff c).1 (h.1 c hc)
  have h2 := blk_iff c
  cases hb : blk c with
  | false => rfl
  | true =>
    have := h2.1 hb
    omega
/-- the fields stay -/
theorem lo_head {fs : List (List UInt8 × List UInt8)} {t : List UInt8} (h : HeadW fs t) : ∀ o, Lo 10 t o → HeadT fs o := by
  induction h with
  | nil =>
    intro o h
    generalize hl : ([] : List UInt8) = l at h
    cases h with
    | nil => exact .nil
    | drop p r t h => cases hl
    | keep p c r t h => cases hl
    | put p c r t hb h1 h2 h => cases hl
  | cons nm v s0 t ss fs hn hp hs hw hv hl h ih =>
    intro o ho
    have e : nm ++ 58 :: s0 ++ eol true ++ segT ss ++ t = nm ++ 58 :: (s0 ++ 13 :: 10 :: (segT ss ++ t)) := by simp [eol]
    rw [e] at ho
    obtain ⟨o1, rfl, h1⟩ := lo_name nm 10 _ o (nm_lo hn) ho
    obtain ⟨t0, e0, ts, o2, rfl, k1, k2, k3, k4, _⟩ := lo_seg s0 58 _ o1 hp h1
    obtain ⟨us, o3, rfl, j1, j2, j3⟩ := lo_segs ss t o2 hs hw k4
    obtain ⟨g1, g2, g3⟩ := vl_edges hl
    have hfur : further (ts ++ us) := by
      intro q hq
      rcases List.mem_append.1 hq with hq | hq
      · exact k2 q hq
      · exact j1 q hq
    have hval : trimB (t0 ++ segV (ts ++ us)) = v := by
      have : t0 ++ segV (ts ++ us) = 32 :: v := by
        rw [← hv, ← k3, ← j2]
        simp [segV]
      rw [this]
      exact trimB_pad g1
    have := HeadT.cons nm v t0 o3 e0 (ts ++ us) fs hn k1 hfur hval g2 g3 (ih o3 j3)
    have e2 : nm ++ 58 :: (t0 ++ eol e0 ++ segT ts ++ (segT us ++ o3)) = nm ++ 58 :: t0 ++ eol e0 ++ segT (ts ++ us) ++ o3 := by simp [segT]
    rw [e2]
    exact this
end Fd
end Go.Proofs.YtkllecicddfjpaaGreatDoor
