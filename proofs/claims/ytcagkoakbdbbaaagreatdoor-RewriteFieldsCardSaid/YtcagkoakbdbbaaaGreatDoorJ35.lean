/- A field as lines, in plain words: by pieces, and place by place: one. Nothing of the program. · What is written as lines is read as that: lines with their ends, in plain words. Nothing of the program. -/
import Derived.Test.YtcagkoakbdbbaaaGreatDoorJ05
import Derived.Test.YtcagkoakbdbbaaaGreatDoorJ34
import Derived.Test.YtcagkoakbdbbaaaGreatDoorJ17
namespace Go.Proofs.YtcagkoakbdbbaaaGreatDoor
set_option linter.unusedVariables false
set_option linter.unusedSimpArgs false

/-- does a piece begin at c, behind cur? -/
def turnAt (cur : List UInt8) (c : UInt8) : Bool := blk c && (match cur.getLast? with | some p => !blk p | none => false)
/-- the pieces: what stands in hand, and the rest -/
def pcsGo (cur : List UInt8) : List UInt8 → List (List UInt8)
  | [] => [cur]
  | c :: r => if turnAt cur c then cur :: pcsGo [c] r else pcsGo (cur ++ [c]) r
def pcs (v : List UInt8) : List (List UInt8) := pcsGo [] v
/-- the lines: at so many bytes in the line, and whether it is the first piece -/
def wrapGo (line : Nat) (first : Bool) : List (List UInt8) → List UInt8
  | [] => [13, 10]
  | p :: ps => if first = false ∧ 76 < line + p.length then [13, 10] ++ p ++ wrapGo p.length false ps else p ++ wrapGo (line + p.length) false ps
def foldF (n v : List UInt8) : List UInt8 := n ++ [58, 32] ++ wrapGo (n.length + 2) true (pcs v)

theorem pcsGo_flat : ∀ (r cur : List UInt8), (pcsGo cur r).flatten = cur ++ r
  | [], cur => by simp [pcsGo]
  | c :: r, cur => by
    unfold pcsGo
    split
    · rw [List.flatten_cons, pcsGo_flat r [c]]
      rfl
    · rw [pcsGo_flat r (cur ++ [c])]
      simp
theorem pcs_flat (v : List UInt8) : (pcs v).flatten = v := by rw [pcs, pcsGo_flat]; rfl

/-- place by place -/
def refGo (line : Nat) (prev : UInt8) : List UInt8 → List UInt8
  | [] => [13, 10]
  | c :: r => if blk c = true ∧ blk prev = false ∧ 76 < line + ((pcsGo [c] r).headD []).length then [13, 10, c] ++ refGo 1 c r else c :: refGo (line + 1) c r

theorem refGo_turn {line : Nat} {prev c : UInt8} {r : List UInt8} (h : blk c = true ∧ blk prev = false ∧ 76 < line + ((pcsGo [c] r).headD []).length) : refGo line prev (c :: r) = [13, 10, c] ++ refGo 1 c r := by rw [refGo, if_pos h]
theorem refGo_on {line : Nat} {prev c : UInt8} {r : List UInt8} (h : ¬ (blk c = true ∧ blk prev = false ∧ 76 < line + ((pcsGo [c] r).headD []).length)) : refGo line prev (c :: r) = c :: refGo (line + 1) c r := by rw [refGo, if_neg h]
theorem wrapGo_turn {line : Nat} {p : List UInt8} {ps : List (List UInt8)} (h : 76 < line + p.length) : wrapGo line false (p :: ps) = [13, 10] ++ p ++ wrapGo p.length false ps := by rw [wrapGo, if_pos ⟨rfl, h⟩]
theorem wrapGo_go {line : Nat} {first : Bool} {p : List UInt8} {ps : List (List UInt8)} (h : ¬ (first = false ∧ 76 < line + p.length)) : wrapGo line first (p :: ps) = p ++ wrapGo (line + p.length) false ps := by rw [wrapGo, if_neg h]

theorem pcsGo_cur : ∀ (r cur : List UInt8), ∃ x ps, pcsGo cur r = (cur ++ x) :: ps
  | [], cur => ⟨[], [], by simp [pcsGo]⟩
  | c :: r, cur => by
    unfold pcsGo
    split
    · exact ⟨[], _, by rw [List.append_nil]⟩
    · obtain ⟨x, ps, h⟩ := pcsGo_cur r (cur ++ [c])
      exact ⟨c :: x, ps, by rw [h]; simp⟩

theorem refGo_eq : ∀ (r cur : List UInt8) (p : UInt8) (line : Nat) (x : List UInt8) (ps : List (List UInt8)), cur.getLast? = some p → pcsGo cur r = (cur ++ x) :: ps → refGo line p r = x ++ wrapGo (line + x.length) false ps
  | [], cur, p, line, x, ps, hp, h => by
    simp only [pcsGo, List.cons.injEq, List.self_eq_append_right] at h
    obtain ⟨rfl, rfl⟩ := h
    rfl
  | c :: r, cur, p, line, x, ps, hp, h => by
    have ht : turnAt cur c = (blk c && !blk p) := by unfold turnAt; rw [hp]
    unfold pcsGo at h
    rw [ht] at h
    by_cases hb : blk c = true ∧ blk p = false
    · rw [if_pos (by simp [hb])] at h
      simp only [List.cons.injEq, List.self_eq_append_right] at h
      obtain ⟨rfl, rfl⟩ := h
      obtain ⟨x', ps', h'⟩ := pcsGo_cur r [c]
      have hh : (pcsGo [c] r).headD [] = [c] ++ x' := by rw [h']; rfl
      have ih := fun line => refGo_eq r [c] c line x' ps' rfl h'
      by_cases hw : 76 < line + ([c] ++ x').length
      · rw [refGo_turn ⟨hb.1, hb.2, by rw [hh]; exact hw⟩, h', List.length_nil, Nat.add_zero, wrapGo_turn hw, ih 1]
        simp [Nat.add_comm]
      · rw [refGo_on (fun k => hw (by have := k.2.2; rwa [hh] at this)), h']
        show _ = wrapGo line false _
        rw [wrapGo_go (fun k => hw k.2), ih (line + 1)]
        simp [Nat.add_comm, Nat.add_left_comm]
    · rw [if_neg (by simp only [Bool.and_eq_true, Bool.not_eq_true', not_and, Bool.not_eq_false]; intro h1; by_cases h2 : blk p = false; exact absurd ⟨h1, h2⟩ hb; simpa using h2)] at h
      obtain ⟨x', ps', h'⟩ := pcsGo_cur r (cur ++ [c])
      rw [h'] at h
      simp only [List.append_assoc, List.cons.injEq, List.append_cancel_left_eq] at h
      obtain ⟨hx, rfl⟩ := h
      have ih := refGo_eq r (cur ++ [c]) c (line + 1) x' ps' (by simp) h'
      rw [refGo_on (fun k => hb ⟨k.1, k.2.1⟩), ih, ← hx]
      simp [Nat.add_comm, Nat.add_left_comm]
/-- the lines, place by place -/
theorem foldF_ref (n v : List UInt8) : foldF n v = n ++ [58, 32] ++ match v with
    | [] => [13, 10]
    | c :: r => c :: refGo (n.length + 3) c r := by
  unfold foldF pcs
  congr 1
  match v with
  | [] => rfl
  | c :: r =>
    have h0 : pcsGo [] (c :: r) = pcsGo [c] r := by
      rw [pcsGo]
      have : turnAt [] c = false := by unfold turnAt; simp
      rw [this]
      rfl
    obtain ⟨x, ps, h⟩ := pcsGo_cur r [c]
    rw [h0, h]
    rw [wrapGo_go (by simp)]
    show _ = c :: refGo _ c r
    rw [refGo_eq r [c] c _ x ps rfl h]
    simp [Nat.add_comm, Nat.add_left_comm]
end Go.Proofs.YtcagkoakbdbbaaaGreatDoor

namespace Go.Proofs.YtcagkoakbdbbaaaGreatDoor
set_option linter.unusedVariables false
set_option linter.unusedSimpArgs false

/-- a line's end: whole, or LF alone -/
def eol (b : Bool) : List UInt8 := if b then [13, 10] else [10]
/-- no end of a line in it -/
def plain (s : List UInt8) : Prop := ∀ c ∈ s, c ≠ 10 ∧ c ≠ 13
/-- lines, each with its end -/
def segT (ss : List (List UInt8 × Bool)) : List UInt8 := ss.flatMap fun p => p.1 ++ eol p.2
/-- what the lines hold -/
def segV (ss : List (List UInt8 × Bool)) : List UInt8 := ss.flatMap fun p => p.1
/-- further lines: each begins with a blank -/
def further (ss : List (List UInt8 × Bool)) : Prop := ∀ p ∈ ss, plain p.1 ∧ ∃ c r, p.1 = c :: r ∧ blk c = true

theorem cutAt_of {s : UInt8} {a b : List UInt8} (h : s ∉ a) : cutAt s (a ++ s :: b) = some (a, b) := by
  induction a with
  | nil => simp [cutAt]
  | cons c r ih =>
    simp only [List.mem_cons, not_or] at h
    rw [List.cons_append, cutAt, if_neg (Ne.symm h.1), ih h.2]
    rfl
theorem cutAt_not {s : UInt8} {a : List UInt8} (h : s ∉ a) : cutAt s a = none := by
  induction a with
  | nil => rfl
  | cons c r ih =>
    simp only [List.mem_cons, not_or] at h
    rw [cutAt, if_neg (Ne.symm h.1), ih h.2]
    rfl
theorem deCr_plain {s : List UInt8} (h : plain s) : deCr s = s := by
  unfold deCr
  rw [if_neg]
  intro e
  have := List.mem_of_getLast? e
  exact (h 13 this).2 rfl
theorem deCr_cr (s : List UInt8) : deCr (s ++ [13]) = s := by
  unfold deCr
  rw [if_pos (by simp)]
  simp
theorem cut_eol {s : List UInt8} (h : plain s) (b : Bool) (more : List UInt8) : ∃ a, cutAt 10 (s ++ eol b ++ more) = some (a, more) ∧ deCr a = s := by
  cases b with
  | true =>
    refine ⟨s ++ [13], ?_, deCr_cr s⟩
    have : s ++ eol true ++ more = (s ++ [13]) ++ 10 :: more := by simp [eol]
    rw [this]
    exact cutAt_of (by
      intro hm
      rcases List.mem_append.1 hm with h1 | h1
      · exact (h 10 h1).1 rfl
      · simp at h1)
  | false =>
    refine ⟨s, ?_, deCr_plain h⟩
    have : s ++ eol false ++ more = s ++ 10 :: more := by simp [eol]
    rw [this]
    exact cutAt_of (fun hm => (h 10 hm).1 rfl)

/-- nothing behind that belongs to the value -/
def stops (rest : List UInt8) : Prop := rest = [] ∨ ∃ c r, rest = c :: r ∧ blk c = false
theorem valGo_stops {acc rest : List UInt8} (h : stops rest) : valGo acc rest = some (acc, rest) := by
  rcases h with rfl | ⟨c, r, rfl, hc⟩
  · exact valGo_nil acc
  · exact valGo_stop hc
theorem valGo_segs : ∀ (ss : List (List UInt8 × Bool)) (acc rest : List UInt8), further ss → stops rest → valGo acc (segT ss ++ rest) = some (acc ++ segV ss, rest)
  | [], acc, rest, _, hr => by
    simp only [segT, segV, List.flatMap_nil, List.nil_append, List.append_nil]
    exact valGo_stops hr
  | (s, b) :: ss, acc, rest, hs, hr => by
    obtain ⟨hp, c, r, hc, hb⟩ := hs (s, b) (by simp)
    have ih := valGo_segs ss (acc ++ s) rest (fun p hp => hs p (by simp [hp])) hr
    obtain ⟨a, ha, hd⟩ := cut_eol hp b (segT ss ++ rest)
    have e : segT ((s, b) :: ss) ++ rest = s ++ eol b ++ (segT ss ++ rest) := by simp [segT]
    rw [e]
    simp only at hc
    subst hc
    have e2 : c :: r ++ eol b ++ (segT ss ++ rest) = c :: (r ++ eol b ++ (segT ss ++ rest)) := rfl
    rw [e2] at ha ⊢
    rw [valGo_more hb ha, hd, ih]
    simp [segV]
theorem nm_no58 {nm : List UInt8} (h : nmOk nm = true) : 58 ∉ nm := by
  intro hm
  unfold nmOk at h
  rw [Bool.and_eq_true, List.all_eq_true] at h
  exact ((nmc_iff 58).1 (h.1 58 hm)).2.2 rfl
theorem field_read {k : Nat} {nm s0 v rest : List UInt8} {ss : List (List UInt8 × Bool)} (hk : k ≠ 200) (hn : nmOk nm = true) (hs : further ss) (hr : stops rest) (hv : trimB (s0 ++ segV ss) = v) (hl : v.length ≤ 8192) (hg : v.all sgc = true) :
    fieldP k (nm ++ 58 :: s0) (segT ss ++ rest) = .ok ((nm, v), rest) := by
  unfold fieldP
  rw [cutAt_of (nm_no58 hn)]
  simp only [hn, if_true, if_neg hk, valGo_segs ss s0 rest hs hr, hv]
  rw [if_neg (by omega), if_pos hg]

/-- the lines of fields, and the fields -/
inductive HeadT : List (List UInt8 × List UInt8) → List UInt8 → Prop
  | nil : HeadT [] []
  | cons (nm v s0 t : List UInt8) (e : Bool) (ss : List (List UInt8 × Bool)) (fs : List (List UInt8 × List UInt8)) (hn : nmOk nm = true) (hp : plain s0) (hs : further ss) (hv : trimB (s0 ++ segV ss) = v) (hl : v.length ≤ 8192) (hg : v.all sgc = true)
      (h : HeadT fs t) : HeadT ((nm, v) :: fs) (nm ++ 58 :: s0 ++ eol e ++ segT ss ++ t)
theorem HeadT.append {fs gs : List (List UInt8 × List UInt8)} {t u : List UInt8} (h : HeadT fs t) (k : HeadT gs u) : HeadT (fs ++ gs) (t ++ u) := by
  induction h with
  | nil => exact k
  | cons nm v s0 t e ss fs hn hp hs hv hl hg h ih =>
    have := HeadT.cons nm v s0 (t ++ u) e ss (fs ++ gs) hn hp hs hv hl hg ih
    rw [← List.append_assoc] at this
    exact this
theorem nm_plain {nm : List UInt8} (h : nmOk nm = true) : plain nm := by
  intro c hc
  unfold nmOk at h
  rw [Bool.and_eq_true, List.all_eq_true] at h
  have := (nmc_iff c).1 (h.1 c hc)
  constructor
  · rintro rfl
    simp at this
  · rintro rfl
    simp at this
theorem nm_head {nm : List UInt8} (h : nmOk nm = true) : ∃ c r, nm = c :: r ∧ blk c = false := by
  match nm, h with
  | c :: r, h =>
    refine ⟨c, r, rfl, ?_⟩
    unfold nmOk at h
    rw [Bool.and_eq_true, List.all_eq_true] at h
    have h1 := (nmc_iff c).1 (h.1 c (by simp))
    have h2 := blk_iff c
    cases hb : blk c with
    | false => rfl
    | true =>
      have := h2.1 hb
      omega
theorem HeadT.stops {fs : List (List UInt8 × List UInt8)} {t : List UInt8} (h : HeadT fs t) (e : Bool) (rest : List UInt8) : stops (t ++ eol e ++ rest) := by
  cases h with
  | nil =>
    cases e
    · exact .inr ⟨10, rest, rfl, by decide⟩
    · exact .inr ⟨13, 10 :: rest, rfl, by decide⟩
  | cons nm v s0 t e0 ss fs hn hp hs hv hl hg h =>
    obtain ⟨c, r, rfl, hb⟩ := nm_head hn
    exact .inr ⟨c, _, rfl, hb⟩
theorem readGo_head {fs : List (List UInt8 × List UInt8)} {t : List UInt8} (h : HeadT fs t) : ∀ (acc : List (List UInt8 × List UInt8)) (e : Bool) (rest : List UInt8), acc.length + fs.length ≤ 200 → readGo acc (t ++ eol e ++ rest) = .ok (acc ++ fs, rest) := by
  induction h with
  | nil =>
    intro acc e rest _
    obtain ⟨a, ha, hd⟩ := cut_eol (s := []) (by intro c hc; simp at hc) e rest
    rw [List.nil_append] at ha ⊢
    rw [readGo_end ha hd, List.append_nil]
  | cons nm v s0 t e0 ss fs hn hp hs hv hl hg h ih =>
    intro acc e rest hk
    have hpl : plain (nm ++ 58 :: s0) := by
      intro c hc
      rcases List.mem_append.1 hc with h1 | h1
      · exact nm_plain hn c h1
      · rcases List.mem_cons.1 h1 with rfl | h2
        · decide
        · exact hp c h2
    obtain ⟨a, ha, hd⟩ := cut_eol hpl e0 (segT ss ++ (t ++ eol e ++ rest))
    have e1 : nm ++ 58 :: s0 ++ eol e0 ++ segT ss ++ t ++ eol e ++ rest = nm ++ 58 :: s0 ++ eol e0 ++ (segT ss ++ (t ++ eol e ++ rest)) := by simp
    have hne : deCr a ≠ [] := by rw [hd]; simp
    have hf := field_read (k := acc.length) (rest := t ++ eol e ++ rest) (by simp at hk; omega) hn hs (h.stops e rest) hv hl hg
    rw [e1, readGo_ok ha hne (by rw [hd]; exact hf), ih (acc ++ [(nm, v)]) e rest (by simp at hk ⊢; omega)]
    simp

theorem edges_iff (c : UInt8) (r : List UInt8) : edges (c :: r) = (!blk c && (c :: r).getLast?.all fun x => !blk x) := rfl
theorem contains_blk (c : UInt8) : ([32, 9] : List UInt8).contains c = blk c := by
  unfold blk
  simp [List.contains, List.elem]
  cases c == 32 <;> cases c == 9 <;> rfl
theorem trimB_pad {v : List UInt8} (h : edges v = true) : trimB (32 :: v) = v := by
  match v with
  | [] => decide
  | c :: r =>
    rw [edges_iff, Bool.and_eq_true] at h
    unfold trimB Lib.trimS Lib.trimLeftS Lib.trimRightS
    simp only [contains_blk]
    have hrev : (32 :: c :: r).reverse.dropWhile blk = (32 :: c :: r).reverse := by
      obtain ⟨x, hx⟩ : ∃ x, (c :: r).getLast? = some x := ⟨_, List.getLast?_eq_some_getLast (by simp)⟩
      rw [hx] at h
      have h2 : blk x = false := by simpa using h.2
      obtain ⟨t, ht⟩ := List.getLast?_eq_some_iff.1 hx
      have : (32 :: c :: r).reverse = x :: (32 :: t).reverse := by rw [ht]; simp
      rw [this, List.dropWhile_cons_of_neg (by simp [h2])]
    rw [hrev, List.reverse_reverse, List.dropWhile_cons_of_pos (by decide), List.dropWhile_cons_of_neg (by simpa using h.1)]

/-- it begins with a blank -/
def blankHead (p : List UInt8) : Prop := ∃ c r, p = c :: r ∧ blk c = true
theorem pcsGo_tail : ∀ (r cur : List UInt8), ∀ p ∈ (pcsGo cur r).tail, blankHead p
  | [], cur => by simp [pcsGo]
  | c :: r, cur => by
    unfold pcsGo
    split
    · rename_i ht
      have hb : blk c = true := by
        unfold turnAt at ht
        rw [Bool.and_eq_true] at ht
        exact ht.1
      intro p hp
      rw [List.tail_cons] at hp
      obtain ⟨x, ps, h⟩ := pcsGo_cur r [c]
      rw [h] at hp
      rcases List.mem_cons.1 hp with rfl | h2
      · exact ⟨c, x, rfl, hb⟩
      · exact pcsGo_tail r [c] p (by rw [h]; exact h2)
    · exact pcsGo_tail r (cur ++ [c])
theorem wrap_segs : ∀ (ps : List (List UInt8)) (line : Nat) (first : Bool), (∀ p ∈ ps, plain p) → (∀ p ∈ ps.tail, blankHead p) → (first = false → ∀ p ∈ ps, blankHead p) →
    ∃ s0 ss, wrapGo line first ps = s0 ++ eol true ++ segT ss ∧ plain s0 ∧ further ss ∧ s0 ++ segV ss = ps.flatten
  | [], line, first, _, _, _ => ⟨[], [], rfl, (fun c hc => by simp at hc), (fun p hp => by simp at hp), rfl⟩
  | p :: ps, line, first, hp, ht, hf => by
    have hps : ∀ q ∈ ps, blankHead q := ht
    have hpp := hp p (by simp)
    by_cases h : first = false ∧ 76 < line + p.length
    · obtain ⟨s0, ss, h1, h2, h3, h4⟩ := wrap_segs ps p.length false (fun q hq => hp q (by simp [hq])) (fun q hq => hps q (List.mem_of_mem_tail hq)) (fun _ => hps)
      obtain ⟨c, r, hc, hb⟩ := hf h.1 p (by simp)
      refine ⟨[], (p ++ s0, true) :: ss, ?_, (fun c hc => by simp at hc), ?_, ?_⟩
      · obtain ⟨rfl, hlt⟩ := h
        rw [wrapGo_turn hlt, h1]
        simp [segT, eol]
      · intro q hq
        rcases List.mem_cons.1 hq with rfl | hq
        · refine ⟨fun x hx => ?_, c, r ++ s0, by rw [hc]; rfl, hb⟩
          rcases List.mem_append.1 hx with h5 | h5
          · exact hpp x h5
          · exact h2 x h5
        · exact h3 q hq
      · rw [List.flatten_cons, ← h4]
        simp [segV]
    · obtain ⟨s0, ss, h1, h2, h3, h4⟩ := wrap_segs ps (line + p.length) false (fun q hq => hp q (by simp [hq])) (fun q hq => hps q (List.mem_of_mem_tail hq)) (fun _ => hps)
      refine ⟨p ++ s0, ss, ?_, ?_, h3, ?_⟩
      · rw [wrapGo_go h, h1]
        simp
      · intro x hx
        rcases List.mem_append.1 hx with h5 | h5
        · exact hpp x h5
        · exact h2 x h5
      · rw [List.flatten_cons, ← h4]
        simp
theorem vl_plain {v : List UInt8} (h : vlOk v = true) : plain v := by
  intro c hc
  unfold vlOk at h
  rw [Bool.and_eq_true, Bool.and_eq_true, List.all_eq_true] at h
  have := (sgc_iff c).1 (h.1.1 c hc)
  constructor
  · rintro rfl
    simp at this
  · rintro rfl
    simp at this
theorem piece_mem {v p : List UInt8} (h : p ∈ pcs v) {c : UInt8} (hc : c ∈ p) : c ∈ v := by
  have h1 : c ∈ (pcs v).flatten := List.mem_flatten.2 ⟨p, h, hc⟩
  rwa [pcs_flat] at h1
/-- what is written is the lines of the field -/
theorem fold_head {n v : List UInt8} (hn : nmOk n = true) (hv : vlOk v = true) : HeadT [(n, v)] (foldF n v) := by
  obtain ⟨s0, ss, h1, h2, h3, h4⟩ := wrap_segs (pcs v) (n.length + 2) true (fun p hp c hc => vl_plain hv c (piece_mem hp hc)) (pcsGo_tail v []) (fun h => by cases h)
  rw [pcs_flat] at h4
  have hpl : plain (32 :: s0) := by
    intro c hc
    rcases List.mem_cons.1 hc with rfl | h
    · decide
    · exact h2 c h
  have hvl := hv
  unfold vlOk at hvl
  rw [Bool.and_eq_true, Bool.and_eq_true, decide_eq_true_iff] at hvl
  have ht : trimB ((32 :: s0) ++ segV ss) = v := by
    rw [List.cons_append, h4]
    exact trimB_pad hvl.2
  have := HeadT.cons n v (32 :: s0) [] true ss [] hn hpl h3 ht hvl.1.2 hvl.1.1 HeadT.nil
  have e : foldF n v = n ++ 58 :: (32 :: s0) ++ eol true ++ segT ss ++ [] := by
    unfold foldF
    rw [h1]
    simp
  rw [e]
  exact this
end Go.Proofs.YtcagkoakbdbbaaaGreatDoor
