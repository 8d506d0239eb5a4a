/- Lines' ends that change, and heads that are cut: in plain words. Nothing of the program. -/
import Derived.Test.YtcagkoakbdbbaaaGreatDoorJ35
namespace Go.Proofs.YtcagkoakbdbbaaaGreatDoor
set_option linter.unusedVariables false
set_option linter.unusedSimpArgs false

/-- all ends whole -/
def whole (ss : List (List UInt8 × Bool)) : Prop := ∀ p ∈ ss, p.2 = true
/-- the lines of fields, as they are written -/
inductive HeadW : List (List UInt8 × List UInt8) → List UInt8 → Prop
  | nil : HeadW [] []
  | cons (nm v s0 t : List UInt8) (ss : List (List UInt8 × Bool)) (fs : List (List UInt8 × List UInt8)) (hn : nmOk nm = true) (hp : plain s0) (hs : further ss) (hw : whole ss) (hv : s0 ++ segV ss = 32 :: v) (hl : vlOk v = true)
      (h : HeadW fs t) : HeadW ((nm, v) :: fs) (nm ++ 58 :: s0 ++ eol true ++ segT ss ++ t)
theorem vl_edges {v : List UInt8} (h : vlOk v = true) : edges v = true ∧ v.length ≤ 8192 ∧ v.all sgc = true := by
  unfold vlOk at h
  rw [Bool.and_eq_true, Bool.and_eq_true, decide_eq_true_iff] at h
  exact ⟨h.2, h.1.2, h.1.1⟩
theorem HeadW.toT {fs : List (List UInt8 × List UInt8)} {t : List UInt8} (h : HeadW fs t) : HeadT fs t := by
  induction h with
  | nil => exact .nil
  | cons nm v s0 t ss fs hn hp hs hw hv hl h ih =>
    obtain ⟨h1, h2, h3⟩ := vl_edges hl
    exact HeadT.cons nm v s0 t true ss fs hn hp hs (by rw [hv]; exact trimB_pad h1) h2 h3 ih
theorem HeadW.append {fs gs : List (List UInt8 × List UInt8)} {t u : List UInt8} (h : HeadW fs t) (k : HeadW gs u) : HeadW (fs ++ gs) (t ++ u) := by
  induction h with
  | nil => exact k
  | cons nm v s0 t ss fs hn hp hs hw hv hl h ih =>
    have := HeadW.cons nm v s0 (t ++ u) ss (fs ++ gs) hn hp hs hw hv hl ih
    rw [← List.append_assoc] at this
    exact this
theorem wrap_whole : ∀ (ps : List (List UInt8)) (line : Nat) (first : Bool), (∀ p ∈ ps, plain p) → (∀ p ∈ ps.tail, blankHead p) → (first = false → ∀ p ∈ ps, blankHead p) →
    ∃ s0 ss, wrapGo line first ps = s0 ++ eol true ++ segT ss ∧ plain s0 ∧ further ss ∧ whole ss ∧ s0 ++ segV ss = ps.flatten
  | [], line, first, _, _, _ => ⟨[], [], rfl, (fun c hc => by simp at hc), (fun p hp => by simp at hp), (fun p hp => by simp at hp), rfl⟩
  | p :: ps, line, first, hp, ht, hf => by
    have hps : ∀ q ∈ ps, blankHead q := ht
    have hpp := hp p (by simp)
    by_cases h : first = false ∧ 76 < line + p.length
    · obtain ⟨s0, ss, h1, h2, h3, hw, h4⟩ := wrap_whole ps p.length false (fun q hq => hp q (by simp [hq])) (fun q hq => hps q (List.mem_of_mem_tail hq)) (fun _ => hps)
      obtain ⟨c, r, hc, hb⟩ := hf h.1 p (by simp)
      refine ⟨[], (p ++ s0, true) :: ss, ?_, (fun c hc => by simp at hc), ?_, ?_, ?_⟩
      · obtain ⟨rfl, hlt⟩ := h
        rw [wrapGo_turn hlt, h1]
        simp [segT, eol]
      · intro q hq
        rcases List.mem_cons.1 hq with rfl | hq
        · refine ⟨fun x hx => ?_, c, r ++ s0, by rw [hc]; rfl, hb⟩
          rcases List.mem_append.1 hx with h5 | h5
          · exact hpp x h5
          · exact h2 x h5
        · exact h3 q hq
      · intro q hq
        rcases List.mem_cons.1 hq with rfl | hq
        · rfl
        · exact hw q hq
      · rw [List.flatten_cons, ← h4]
        simp [segV]
    · obtain ⟨s0, ss, h1, h2, h3, hw, h4⟩ := wrap_whole ps (line + p.length) false (fun q hq => hp q (by simp [hq])) (fun q hq => hps q (List.mem_of_mem_tail hq)) (fun _ => hps)
      refine ⟨p ++ s0, ss, ?_, ?_, h3, hw, ?_⟩
      · rw [wrapGo_go h, h1]
        simp
      · intro x hx
        rcases List.mem_append.1 hx with h5 | h5
        · exact hpp x h5
        · exact h2 x h5
      · rw [List.flatten_cons, ← h4]
        simp
theorem fold_whole {n v : List UInt8} (hn : nmOk n = true) (hv : vlOk v = true) : HeadW [(n, v)] (foldF n v) := by
  obtain ⟨s0, ss, h1, h2, h3, hw, h4⟩ := wrap_whole (pcs v) (n.length + 2) true (fun p hp c hc => vl_plain hv c (piece_mem hp hc)) (pcsGo_tail v []) (fun h => by cases h)
  rw [pcs_flat] at h4
  have hpl : plain (32 :: s0) := by
    intro c hc
    rcases List.mem_cons.1 hc with rfl | h
    · decide
    · exact h2 c h
  have := HeadW.cons n v (32 :: s0) [] ss [] hn hpl h3 hw (by rw [List.cons_append, h4]) hv HeadW.nil
  have e : foldF n v = n ++ 58 :: (32 :: s0) ++ eol true ++ segT ss ++ [] := by
    unfold foldF
    rw [h1]
    simp
  rw [e]
  exact this

/-- some CR go, some blanks get a line's end ahead -/
inductive Lo : UInt8 → List UInt8 → List UInt8 → Prop
  | nil (p : UInt8) : Lo p [] []
  | drop (p : UInt8) (r t : List UInt8) (h : Lo 13 r t) : Lo p (13 :: r) t
  | keep (p c : UInt8) (r t : List UInt8) (h : Lo c r t) : Lo p (c :: r) (c :: t)
  | put (p c : UInt8) (r t : List UInt8) (hb : blk c = true) (h1 : p ≠ 10) (h2 : p ≠ 58) (h : Lo c r t) : Lo p (c :: r) (13 :: 10 :: c :: t)
theorem lo_lf {p : UInt8} {more o : List UInt8} (h : Lo p (10 :: more) o) : ∃ o', o = 10 :: o' ∧ Lo 10 more o' := by
  generalize hl : 10 :: more = l at h
  cases h with
  | nil => cases hl
  | drop p r t h => cases hl
  | keep p c r t h => cases hl; exact ⟨_, rfl, h⟩
  | put p c r t hb h1 h2 h => cases hl; exact absurd hb (by decide)
theorem lo_seg : ∀ (s : List UInt8) (p : UInt8) (more o : List UInt8), plain s → Lo p (s ++ 13 :: 10 :: more) o →
    ∃ t0 e0 ts o', o = t0 ++ eol e0 ++ segT ts ++ o' ∧ plain t0 ∧ further ts ∧ t0 ++ segV ts = s ∧ Lo 10 more o' ∧ (p = 10 ∨ p = 58 → ∀ c r, s = c :: r → ∃ r', t0 = c :: r')
  | [], p, more, o, _, h => by
    rw [List.nil_append] at h
    generalize hl : 13 :: 10 :: more = l at h
    cases h with
    | nil => cases hl
    | drop p r t h =>
      cases hl
      obtain ⟨o', rfl, h'⟩ := lo_lf h
      exact ⟨[], false, [], o', rfl, (fun c hc => by simp at hc), (fun p hp => by simp at hp), rfl, h', fun _ c r e => by cases e⟩
    | keep p c r t h =>
      cases hl
      obtain ⟨o', rfl, h'⟩ := lo_lf h
      exact ⟨[], true, [], o', rfl, (fun c hc => by simp at hc), (fun p hp => by simp at hp), rfl, h', fun _ c r e => by cases e⟩
    | put p c r t hb h1 h2 h => cases hl; exact absurd hb (by decide)
  | c :: s, p, more, o, hpl, h => by
    have hpl' : plain s := fun x hx => hpl x (by simp [hx])
    have hc := hpl c (by simp)
    rw [List.cons_append] at h
    generalize hl : c :: (s ++ 13 :: 10 :: more) = l at h
    cases h with
    | nil => cases hl
    | drop p r t h => cases hl; exact absurd rfl hc.2
    | keep p c' r t h =>
      cases hl
      obtain ⟨t0, e0, ts, o', rfl, h1, h2, h3, h4, _⟩ := lo_seg s c more t hpl' h
      refine ⟨c :: t0, e0, ts, o', rfl, ?_, h2, by rw [List.cons_append, h3], h4, fun _ c' r e => by cases e; exact ⟨t0, rfl⟩⟩
      intro x hx
      rcases List.mem_cons.1 hx with rfl | hx
      · exact hc
      · exact h1 x hx
    | put p c' r t hb hp1 hp2 h =>
      cases hl
      obtain ⟨t0, e0, ts, o', rfl, h1, h2, h3, h4, _⟩ := lo_seg s c more t hpl' h
      refine ⟨[], true, (c :: t0, e0) :: ts, o', by simp [segT, eol], (fun c hc => by simp at hc), ?_, ?_, h4, fun h => by rcases h with h | h; exact absurd h hp1; exact absurd h hp2⟩
      · intro q hq
        rcases List.mem_cons.1 hq with rfl | hq
        · refine ⟨fun x hx => ?_, c, t0, rfl, hb⟩
          rcases List.mem_cons.1 hx with rfl | hx
          · exact hc
          · exact h1 x hx
        · exact h2 q hq
      · rw [← h3]
        simp [segV]
theorem lo_segs : ∀ (ss : List (List UInt8 × Bool)) (more o : List UInt8), further ss → whole ss → Lo 10 (segT ss ++ more) o → ∃ ts o', o = segT ts ++ o' ∧ further ts ∧ segV ts = segV ss ∧ Lo 10 more o'
  | [], more, o, _, _, h => ⟨[], o, rfl, (fun p hp => by simp at hp), rfl, h⟩
  | (s, b) :: ss, more, o, hf, hw, h => by
    obtain ⟨hp, c, r, hc, hb⟩ := hf (s, b) (by simp)
    have hb2 : b = true := hw (s, b) (by simp)
    subst hb2
    have e : segT ((s, true) :: ss) ++ more = s ++ 13 :: 10 :: (segT ss ++ more) := by simp [segT, eol]
    rw [e] at h
    obtain ⟨t0, e0, ts, o', rfl, h1, h2, h3, h4, h5⟩ := lo_seg s 10 _ o hp h
    obtain ⟨r', rfl⟩ := h5 (.inl rfl) c r hc
    obtain ⟨us, o2, rfl, k1, k2, k3⟩ := lo_segs ss more o' (fun p hp => hf p (by simp [hp])) (fun p hp => hw p (by simp [hp])) h4
    refine ⟨(c :: r', e0) :: (ts ++ us), o2, by simp [segT], ?_, ?_, k3⟩
    · intro q hq
      rcases List.mem_cons.1 hq with rfl | hq
      · exact ⟨h1, c, r', rfl, hb⟩
      · rcases List.mem_append.1 hq with hq | hq
        · exact h2 q hq
        · exact k1 q hq
    · have : segV ((s, true) :: ss) = s ++ segV ss := rfl
      rw [this, ← h3, ← k2]
      simp [segV]
theorem lo_name : ∀ (nm : List UInt8) (p : UInt8) (more o : List UInt8), (∀ c ∈ nm, c ≠ 13 ∧ blk c = false) → Lo p (nm ++ 58 :: more) o → ∃ o', o = nm ++ 58 :: o' ∧ Lo 58 more o'
  | [], p, more, o, _, h => by
    rw [List.nil_append] at h
    generalize hl : 58 :: more = l at h
    cases h with
    | nil => cases hl
    | drop p r t h => cases hl
    | keep p c r t h => cases hl; exact ⟨_, rfl, h⟩
    | put p c r t hb h1 h2 h => cases hl; exact absurd hb (by decide)
  | c :: nm, p, more, o, hn, h => by
    have hc := hn c (by simp)
    rw [List.cons_append] at h
    generalize hl : c :: (nm ++ 58 :: more) = l at h
    cases h with
    | nil => cases hl
    | drop p r t h => cases hl; exact absurd rfl hc.1
    | keep p c' r t h =>
      cases hl
      obtain ⟨o', rfl, h'⟩ := lo_name nm c more t (fun x hx => hn x (by simp [hx])) h
      exact ⟨o', rfl, h'⟩
    | put p c' r t hb h1 h2 h => cases hl; rw [hc.2] at hb; cases hb
theorem nm_lo {nm : List UInt8} (h : nmOk nm = true) : ∀ c ∈ nm, c ≠ 13 ∧ blk c = false := by
  intro c hc
  refine ⟨(nm_plain h c hc).2, ?_⟩
  unfold nmOk at h
  rw [Bool.and_eq_true, List.all_eq_true] at h
  have h1 := (nmc_iff c).1 (h.1 c hc)
  have h2 := blk_iff c
  cases hb : blk c with
  | false => rfl
  | true =>
    have := h2.1 hb
    omega
/-- the fields stay -/
theorem lo_head {fs : List (List UInt8 × List UInt8)} {t : List UInt8} (h : HeadW fs t) : ∀ o, Lo 10 t o → HeadT fs o := by
  induction h with
  | nil =>
    intro o h
    generalize hl : ([] : List UInt8) = l at h
    cases h with
    | nil => exact .nil
    | drop p r t h => cases hl
    | keep p c r t h => cases hl
    | put p c r t hb h1 h2 h => cases hl
  | cons nm v s0 t ss fs hn hp hs hw hv hl h ih =>
    intro o ho
    have e : nm ++ 58 :: s0 ++ eol true ++ segT ss ++ t = nm ++ 58 :: (s0 ++ 13 :: 10 :: (segT ss ++ t)) := by simp [eol]
    rw [e] at ho
    obtain ⟨o1, rfl, h1⟩ := lo_name nm 10 _ o (nm_lo hn) ho
    obtain ⟨t0, e0, ts, o2, rfl, k1, k2, k3, k4, _⟩ := lo_seg s0 58 _ o1 hp h1
    obtain ⟨us, o3, rfl, j1, j2, j3⟩ := lo_segs ss t o2 hs hw k4
    obtain ⟨g1, g2, g3⟩ := vl_edges hl
    have hfur : further (ts ++ us) := by
      intro q hq
      rcases List.mem_append.1 hq with hq | hq
      · exact k2 q hq
      · exact j1 q hq
    have hval : trimB (t0 ++ segV (ts ++ us)) = v := by
      have : t0 ++ segV (ts ++ us) = 32 :: v := by
        rw [← hv, ← k3, ← j2]
        simp [segV]
      rw [this]
      exact trimB_pad g1
    have := HeadT.cons nm v t0 o3 e0 (ts ++ us) fs hn k1 hfur hval g2 g3 (ih o3 j3)
    have e2 : nm ++ 58 :: (t0 ++ eol e0 ++ segT ts ++ (segT us ++ o3)) = nm ++ 58 :: t0 ++ eol e0 ++ segT (ts ++ us) ++ o3 := by simp [segT]
    rw [e2]
    exact this
end Go.Proofs.YtcagkoakbdbbaaaGreatDoor
