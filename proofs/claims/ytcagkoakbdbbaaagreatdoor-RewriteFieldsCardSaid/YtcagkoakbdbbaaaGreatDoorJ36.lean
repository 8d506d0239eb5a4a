/- Plain: a right field as lines, whatever its lines' ends and folds; what relays do to it. -/
import Derived.Test.YtcagkoakbdbbaaaGreatDoorJ34
import Derived.Test.YtcagkoakbdbbaaaGreatDoorJ35
namespace Go.Proofs.YtcagkoakbdbbaaaGreatDoor
set_option linter.unusedVariables false
set_option linter.unusedSimpArgs false
open Go.RowKit

/-- a field's lines: its name and value, however folded; not more lines than there may be -/
def H1 (f nm v : List UInt8) : Prop := ∃ (s0 : List UInt8) (e : Bool) (ss : List (List UInt8 × Bool)), f = nm ++ 58 :: s0 ++ eol e ++ segT ss ∧ plain s0 ∧ further ss ∧ trimB (s0 ++ segV ss) = v ∧ nmOk nm = true ∧ v.length ≤ 8192 ∧ v.all sgc = true ∧ 2 * ss.length ≤ (nm ++ 58 :: s0 ++ segV ss).length
theorem H1.head {f nm v : List UInt8} (h : H1 f nm v) : HeadT [(nm, v)] f := by
  obtain ⟨s0, e, ss, rfl, hp, hs, hv, hn, hl, hg, _⟩ := h
  have := HeadT.cons nm v s0 [] e ss [] hn hp hs hv hl hg HeadT.nil
  rwa [List.append_nil] at this
theorem eol_or (e : Bool) : eol e = [10] ∨ eol e = [13, 10] := by cases e <;> simp [eol]
theorem plain_last {s : List UInt8} (h : plain s) : s.getLast? ≠ some 13 := fun e => (h 13 (List.mem_of_getLast? e)).2 rfl
theorem line_of {s : List UInt8} (h : plain s) (h0 : s ≠ []) (e : Bool) : LnR (s ++ eol e) ∧ textL (s ++ eol e) = s := by
  refine LnR.of h0 (fun x hx => (h x hx).1) ?_
  cases e
  · exact .inl ⟨rfl, plain_last h⟩
  · exact .inr rfl
theorem plain_name {nm s0 : List UInt8} (hn : nmOk nm = true) (h : plain s0) : plain (nm ++ 58 :: s0) := fun c hc => by
  rcases List.mem_append.1 hc with hc | hc
  · exact nm_plain hn c hc
  · rcases List.mem_cons.1 hc with rfl | hc
    · exact ⟨by decide, by decide⟩
    · exact h c hc
/-- the lines of a field -/
theorem h1_lines {nm s0 : List UInt8} {e : Bool} {ss : List (List UInt8 × Bool)} (hn : nmOk nm = true) (hp : plain s0) (hs : further ss) :
    fl (nm ++ 58 :: s0 ++ eol e ++ segT ss) = (nm ++ 58 :: s0 ++ eol e) :: ss.map (fun p => p.1 ++ eol p.2) ∧ (∀ x ∈ (nm ++ 58 :: s0 ++ eol e) :: ss.map (fun p => p.1 ++ eol p.2), LnR x) ∧
    flatT ((nm ++ 58 :: s0 ++ eol e) :: ss.map (fun p => p.1 ++ eol p.2)) = nm ++ 58 :: s0 ++ segV ss := by
  have h1 := line_of (plain_name hn hp) (by simp) e
  have h2 : ∀ p ∈ ss, LnR (p.1 ++ eol p.2) ∧ textL (p.1 ++ eol p.2) = p.1 := fun p hm => by
    obtain ⟨h3, c, r, h4, _⟩ := hs p hm
    exact line_of h3 (by rw [h4]; simp) p.2
  have hall : ∀ x ∈ (nm ++ 58 :: s0 ++ eol e) :: ss.map (fun p => p.1 ++ eol p.2), LnR x := fun x hx => by
    rcases List.mem_cons.1 hx with rfl | hx
    · exact h1.1
    · obtain ⟨p, hm, rfl⟩ := List.mem_map.1 hx
      exact (h2 p hm).1
  have e1 : nm ++ 58 :: s0 ++ eol e ++ segT ss = ((nm ++ 58 :: s0 ++ eol e) :: ss.map (fun p => p.1 ++ eol p.2)).flatten := by
    rw [List.flatten_cons, segT, List.flatMap_def]
  refine ⟨by rw [e1]; exact fl_of _ fun x hx => (hall x hx).1, hall, ?_⟩
  unfold flatT
  rw [List.map_cons, List.flatten_cons, h1.2, List.map_map, segV, List.flatMap_def]
  congr 2
  exact List.map_congr_left fun p hm => (h2 p hm).2
theorem H1.gf {f nm v : List UInt8} (h : H1 f nm v) : GF f := by
  obtain ⟨s0, e, ss, rfl, hp, hs, hv, hn, hl, hg, _⟩ := h
  obtain ⟨h1, h2, h3⟩ := h1_lines (e := e) hn hp hs
  obtain ⟨c, r, rfl, hc⟩ := nm_head hn
  refine ⟨⟨_, _, h1, fun x hx => ?_, h2⟩, ?_⟩
  · obtain ⟨p, hm, rfl⟩ := List.mem_map.1 hx
    obtain ⟨_, c, r, h4, h5⟩ := hs p hm
    rw [h4]
    exact h5
  · exact hc
theorem H1.name {f nm v : List UInt8} (h : H1 f nm v) : nameL f = nm := by
  obtain ⟨s0, e, ss, rfl, hp, hs, hv, hn, hl, hg, _⟩ := h
  obtain ⟨h1, h2, h3⟩ := h1_lines (e := e) hn hp hs
  unfold nameL
  rw [h1]
  show (match cutAt 58 (textL (nm ++ 58 :: s0 ++ eol e)) with | some p => p.1 | none => []) = nm
  rw [(line_of (plain_name hn hp) (by simp) e).2, cutAt_of (nm_no58 hn)]
theorem segT_len (ss : List (List UInt8 × Bool)) : (segT ss).length ≤ (segV ss).length + 2 * ss.length := by
  induction ss with
  | nil => simp [segT, segV]
  | cons p r ih =>
    have e1 : segT (p :: r) = p.1 ++ eol p.2 ++ segT r := by simp [segT]
    have e2 : segV (p :: r) = p.1 ++ segV r := by simp [segV]
    have e3 : (eol p.2).length ≤ 2 := by cases p.2 <;> simp [eol]
    rw [e1, e2]
    simp only [List.length_append, List.length_cons]
    omega
/-- how much a field's text is -/
def tT (f : List UInt8) : Nat := (flatT (fl f)).length
theorem H1.len {f nm v : List UInt8} (h : H1 f nm v) : f.length ≤ 2 * tT f + 2 := by
  obtain ⟨s0, e, ss, rfl, hp, hs, hv, hn, hl, hg, hc⟩ := h
  obtain ⟨h1, h2, h3⟩ := h1_lines (e := e) hn hp hs
  unfold tT
  rw [h1, h3]
  have h4 := segT_len ss
  have e3 : (eol e).length ≤ 2 := by cases e <;> simp [eol]
  simp only [List.length_append, List.length_cons] at *
  omega

/-- lines' ends of another make -/
theorem H1.ends {nm v s0 : List UInt8} {e : Bool} {ss : List (List UInt8 × Bool)} (q : Bool) (h : H1 (nm ++ 58 :: s0 ++ eol e ++ segT ss) nm v) (hp : plain s0) (hs : further ss) (hv : trimB (s0 ++ segV ss) = v) (hc : 2 * ss.length ≤ (nm ++ 58 :: s0 ++ segV ss).length) :
    H1 (nm ++ 58 :: s0 ++ eol q ++ segT (ss.map fun p => (p.1, q))) nm v ∧ tT (nm ++ 58 :: s0 ++ eol q ++ segT (ss.map fun p => (p.1, q))) = tT (nm ++ 58 :: s0 ++ eol e ++ segT ss) := by
  obtain ⟨_, _, _, _, _, _, _, hn, hl, hg, _⟩ := h
  have hs' : further (ss.map fun p => (p.1, q)) := fun p hm => by
    obtain ⟨p', hm', rfl⟩ := List.mem_map.1 hm
    exact hs p' hm'
  have ev : segV (ss.map fun p => (p.1, q)) = segV ss := by simp [segV, List.flatMap_map]
  refine ⟨⟨s0, q, _, rfl, hp, hs', by rw [ev]; exact hv, hn, hl, hg, by rw [List.length_map, ev]; exact hc⟩, ?_⟩
  obtain ⟨h1, h2, h3⟩ := h1_lines (e := e) hn hp hs
  obtain ⟨k1, k2, k3⟩ := h1_lines (e := q) hn hp hs'
  unfold tT
  rw [h1, h3, k1, k3, ev]
theorem bare_plain {s : List UInt8} (h : plain s) (e : Bool) (r : List UInt8) : bareL (s ++ eol e ++ r) = s ++ 10 :: bareL r := by
  induction s with
  | nil =>
    cases e
    · exact bare_cons (by decide) r
    · exact bare_crlf r
  | cons c s ih =>
    rw [List.cons_append, List.cons_append, bare_cons (h c List.mem_cons_self).2, ih fun x hx => h x (List.mem_cons_of_mem _ hx)]
    rfl
theorem full_plain {s : List UInt8} (h : plain s) (e : Bool) (r : List UInt8) : ∀ p, p ≠ 13 → fullL p (s ++ eol e ++ r) = s ++ 13 :: 10 :: fullL 10 r := by
  induction s with
  | nil =>
    intro p hp
    cases e
    · show fullL p (10 :: r) = _
      rw [fullL, if_pos ⟨rfl, hp⟩]
      rfl
    · show fullL p (13 :: 10 :: r) = _
      rw [fullL, if_neg (by rintro ⟨a, _⟩; exact absurd a (by decide)), fullL, if_neg (by rintro ⟨_, a⟩; exact a rfl)]
      rfl
  | cons c s ih =>
    intro p hp
    rw [List.cons_append, List.cons_append, fullL, if_neg (by rintro ⟨a, _⟩; exact (h c List.mem_cons_self).1 a), ih (fun x hx => h x (List.mem_cons_of_mem _ hx)) c (h c List.mem_cons_self).2]
    rfl
theorem bare_segs (ss : List (List UInt8 × Bool)) (hs : further ss) (r : List UInt8) : bareL (segT ss ++ r) = segT (ss.map fun p => (p.1, false)) ++ bareL r := by
  induction ss with
  | nil => rfl
  | cons p t ih =>
    have e1 : segT (p :: t) ++ r = p.1 ++ eol p.2 ++ (segT t ++ r) := by simp [segT]
    rw [e1, bare_plain (hs p List.mem_cons_self).1, ih fun x hx => hs x (List.mem_cons_of_mem _ hx)]
    simp [segT, eol]
theorem full_segs (ss : List (List UInt8 × Bool)) (hs : further ss) (r : List UInt8) : fullL 10 (segT ss ++ r) = segT (ss.map fun p => (p.1, true)) ++ fullL 10 r := by
  induction ss with
  | nil => rfl
  | cons p t ih =>
    have e1 : segT (p :: t) ++ r = p.1 ++ eol p.2 ++ (segT t ++ r) := by simp [segT]
    rw [e1, full_plain (hs p List.mem_cons_self).1 _ _ 10 (by decide), ih fun x hx => hs x (List.mem_cons_of_mem _ hx)]
    simp [segT, eol]
/-- a field whose lines end anew, and what is behind it -/
theorem H1.bare {f nm v : List UInt8} (h : H1 f nm v) : ∃ g, H1 g nm v ∧ tT g = tT f ∧ ∀ r, bareL (f ++ r) = g ++ bareL r := by
  have h0 := h
  obtain ⟨s0, e, ss, rfl, hp, hs, hv, hn, hl, hg, hc⟩ := h
  obtain ⟨k1, k2⟩ := H1.ends false h0 hp hs hv hc
  refine ⟨_, k1, k2, fun r => ?_⟩
  rw [List.append_assoc, bare_plain (plain_name hn hp), bare_segs ss hs]
  simp [eol]
theorem H1.full {f nm v : List UInt8} (h : H1 f nm v) : ∃ g, H1 g nm v ∧ tT g = tT f ∧ ∀ r p, p ≠ 13 → fullL p (f ++ r) = g ++ fullL 10 r := by
  have h0 := h
  obtain ⟨s0, e, ss, rfl, hp, hs, hv, hn, hl, hg, hc⟩ := h
  obtain ⟨k1, k2⟩ := H1.ends true h0 hp hs hv hc
  refine ⟨_, k1, k2, fun r p hp13 => ?_⟩
  rw [List.append_assoc, full_plain (plain_name hn hp) _ _ p hp13, full_segs ss hs]
  simp [eol]

/-- letters of a name -/
theorem cap_nmc (bit : Bool) (c : UInt8) : nmc (capB bit c) = nmc c ∧ small (capB bit c) = small c := by
  have key : ∀ (n : Fin 256), (nmc (capB bit (UInt8.ofNat n.1)) == nmc (UInt8.ofNat n.1)) && (small (capB bit (UInt8.ofNat n.1)) == small (UInt8.ofNat n.1)) = true := by
    cases bit <;> decide +kernel
  have h := key ⟨c.toNat, c.toNat_lt⟩
  simp only [UInt8.ofNat_toNat, Bool.and_eq_true, beq_iff_eq] at h
  exact ⟨h.1, by simpa using h.2⟩
theorem letters_app (m : Int) (nm r : List UInt8) : ∃ nm', lettersG m nm.length (nm ++ r) = nm' ++ r ∧ nm'.length = nm.length ∧ nm'.all nmc = nm.all nmc ∧ nm'.map small = nm.map small := by
  refine ⟨lettersG m nm.length nm, ?_, lg_len m _ nm, ?_, ?_⟩
  · apply List.ext_getElem?
    intro j
    rw [lg_get]
    by_cases hj : j < nm.length
    · rw [List.getElem?_append_left hj, List.getElem?_append_left (by rw [lg_len]; exact hj), lg_get]
    · rw [List.getElem?_append_right (by omega), List.getElem?_append_right (by rw [lg_len]; omega), lg_len]
      cases r[j - nm.length]? with
      | none => rfl
      | some c => simp [hj]
  · rw [Bool.eq_iff_iff, List.all_eq_true, List.all_eq_true]
    constructor
    · intro h c hc
      obtain ⟨j, hj⟩ := List.getElem?_of_mem hc
      have h1 : (lettersG m nm.length nm)[j]? = some (capB (bitM m j) c) := by
        rw [lg_get, hj]
        simp [(List.getElem?_eq_some_iff.1 hj).1]
      have h2 := h _ (List.mem_of_getElem? h1)
      rw [(cap_nmc _ c).1] at h2
      exact h2
    · intro h c hc
      obtain ⟨j, hj⟩ := List.getElem?_of_mem hc
      rw [lg_get] at hj
      cases hn : nm[j]? with
      | none => rw [hn] at hj; cases hj
      | some d =>
        rw [hn] at hj
        have hl := (List.getElem?_eq_some_iff.1 hn).1
        simp only [Option.map_some, hl, if_true, Option.some.injEq] at hj
        rw [← hj, (cap_nmc _ d).1]
        exact h d (List.mem_of_getElem? hn)
  · apply List.ext_getElem?
    intro j
    rw [List.getElem?_map, List.getElem?_map, lg_get]
    cases nm[j]? with
    | none => rfl
    | some c =>
      simp only [Option.map_some]
      split
      · rw [(cap_nmc _ c).2]
      · rfl
theorem H1.letters {f nm v : List UInt8} (m : Int) (h : H1 f nm v) : ∃ nm', H1 (lettersL m f) nm' v ∧ sameN nm' nm = true ∧ tT (lettersL m f) = tT f := by
  have hnm := h.name
  obtain ⟨s0, e, ss, rfl, hp, hs, hv, hn, hl, hg, hc⟩ := h
  have e0 : nm ++ 58 :: s0 ++ eol e ++ segT ss = nm ++ (58 :: s0 ++ eol e ++ segT ss) := by simp
  obtain ⟨nm', k1, k2, k3, k4⟩ := letters_app m nm (58 :: s0 ++ eol e ++ segT ss)
  have e1 : lettersL m (nm ++ 58 :: s0 ++ eol e ++ segT ss) = nm' ++ 58 :: s0 ++ eol e ++ segT ss := by
    unfold lettersL
    rw [hnm, e0, k1]
    simp
  have hn' : nmOk nm' = true := by
    unfold nmOk at *
    rw [k3, k2]
    exact hn
  rw [e1]
  refine ⟨nm', ⟨s0, e, ss, rfl, hp, hs, hv, hn', hl, hg, ?_⟩, by unfold sameN; rw [k4]; simp, ?_⟩
  · simp only [List.length_append] at *
    omega
  · unfold tT
    obtain ⟨h1, h2, h3⟩ := h1_lines (e := e) hn hp hs
    obtain ⟨j1, j2, j3⟩ := h1_lines (e := e) hn' hp hs
    rw [h1, h3, j1, j3]
    simp only [List.length_append]
    omega
end Go.Proofs.YtcagkoakbdbbaaaGreatDoor
