/- No beginning of a head is a head: in plain words. Nothing of the program. -/
import Derived.Test.YtgohdohkikkeeaaDoorP13
namespace Go.Proofs.YtgohdohkikkeeaaDoor
set_option linter.unusedVariables false
set_option linter.unusedSimpArgs false

theorem plain_no10 {s : List UInt8} (h : plain s) : 10 ∉ s := fun hm => (h 10 hm).1 rfl
/-- a part of a line has no end -/
theorem line_part {s p q : List UInt8} (h : plain s) (e : p ++ q = s ++ [13, 10]) (hq : q ≠ []) : cutAt 10 p = none := by
  apply cutAt_not
  intro hm
  obtain ⟨q', x, rfl⟩ : ∃ q' x, q = q' ++ [x] := ⟨q.dropLast, q.getLast hq, (List.dropLast_concat_getLast hq).symm⟩
  have e2 : (p ++ q') ++ [x] = (s ++ [13]) ++ [10] := by simpa using e
  obtain ⟨e3, _⟩ := List.append_inj' e2 rfl
  have : 10 ∈ s ++ [13] := by rw [← e3]; exact List.mem_append_left _ hm
  rcases List.mem_append.1 this with h1 | h1
  · exact plain_no10 h h1
  · simp at h1
/-- a part of a text that begins with a line: a part of the line, or more -/
theorem parts {L more p q : List UInt8} (e : p ++ q = L ++ more) : (∃ q', q' ≠ [] ∧ p ++ q' = L) ∨ ∃ p', p = L ++ p' ∧ p' ++ q = more := by
  rcases List.append_eq_append_iff.1 e with ⟨a, h1, h2⟩ | ⟨a, h1, h2⟩
  · by_cases ha : a = []
    · subst ha
      right
      exact ⟨[], by simpa using h1.symm, by simpa using h2⟩
    · exact .inl ⟨a, ha, h1.symm⟩
  · exact .inr ⟨a, h1, h2.symm⟩
theorem val_part : ∀ (ss : List (List UInt8 × Bool)) (acc more p q : List UInt8), further ss → whole ss → stops more → p ++ q = segT ss ++ more →
    valGo acc p = none ∨ (∃ v, valGo acc p = some (acc ++ v, []) ∧ ∃ u, v ++ u = segV ss) ∨ ∃ p', p' ++ q = more ∧ valGo acc p = some (acc ++ segV ss, p')
  | [], acc, more, p, q, _, _, hm, e => by
    right; right
    have e' : p ++ q = more := e
    refine ⟨p, e', ?_⟩
    have hst : stops p := by
      match p, e' with
      | [], _ => exact .inl rfl
      | c :: r, e' =>
        rcases hm with h | ⟨c', r', h, hb⟩
        · rw [h] at e'; cases e'
        · rw [h] at e'
          cases e'
          exact .inr ⟨c, r, rfl, hb⟩
    rw [valGo_stops hst]
    simp [segV]
  | (s, b) :: ss, acc, more, p, q, hf, hw, hm, e => by
    obtain ⟨hp, c, r, hc, hb⟩ := hf (s, b) (by simp)
    have hb2 : b = true := hw (s, b) (by simp)
    subst hb2
    change s = c :: r at hc
    change plain s at hp
    have e1 : p ++ q = (s ++ [13, 10]) ++ (segT ss ++ more) := by rw [e]; simp [segT, eol]
    rcases parts e1 with ⟨q', hq', h1⟩ | ⟨p', rfl, h1⟩
    · have hcut := line_part hp h1 hq'
      match p, h1, hcut with
      | [], _, _ =>
        right; left
        exact ⟨[], by rw [valGo_nil]; simp, _, rfl⟩
      | x :: p1, h1, hcut =>
        left
        have hx : x = c := by
          rw [hc] at h1
          exact (List.cons.inj h1).1
        subst hx
        exact valGo_none hb hcut
    · have hcut : cutAt 10 ((s ++ [13, 10]) ++ p') = some (s ++ [13], p') := by
        have : (s ++ [13, 10]) ++ p' = (s ++ [13]) ++ 10 :: p' := by simp
        rw [this]
        exact cutAt_of (by
          intro hm
          rcases List.mem_append.1 hm with h1 | h1
          · exact plain_no10 hp h1
          · simp at h1)
      have hgo : valGo acc ((s ++ [13, 10]) ++ p') = valGo (acc ++ s) p' := by
        rw [hc] at hcut ⊢
        have := valGo_more (acc := acc) hb hcut
        rw [deCr_cr] at this
        exact this
      rw [hgo]
      rcases val_part ss (acc ++ s) more p' q (fun p hp => hf p (by simp [hp])) (fun p hp => hw p (by simp [hp])) hm h1 with h | ⟨v, h, u, hu⟩ | ⟨p2, h2, h⟩
      · exact .inl h
      · right; left
        exact ⟨s ++ v, by rw [h, List.append_assoc], u, by rw [List.append_assoc, hu]; rfl⟩
      · right; right
        exact ⟨p2, h2, by rw [h]; simp [segV]⟩
theorem trimB_sub (l : List UInt8) : ∀ c ∈ trimB l, c ∈ l := by
  intro c hc
  unfold trimB Lib.trimS Lib.trimLeftS Lib.trimRightS at hc
  have h1 := (List.dropWhile_sublist _).subset hc
  rw [List.mem_reverse] at h1
  have h2 := (List.dropWhile_sublist _).subset h1
  rwa [List.mem_reverse] at h2
theorem trimB_front (r : List UInt8) : (trimB (32 :: r)).length ≤ r.length := by
  have h1 := trimB_len (32 :: r)
  by_cases h : (trimB (32 :: r)).length = r.length + 1
  · exfalso
    have hs : trimB (32 :: r) = 32 :: r := by
      have hsub : (trimB (32 :: r)).Sublist (32 :: r) := by
        unfold trimB Lib.trimS Lib.trimLeftS Lib.trimRightS
        have a1 := List.dropWhile_sublist (l := ((32 :: r).reverse.dropWhile (([32, 9] : List UInt8).contains ·)).reverse) (([32, 9] : List UInt8).contains ·)
        have a2 := (List.dropWhile_sublist (l := (32 :: r).reverse) (([32, 9] : List UInt8).contains ·)).reverse
        rw [List.reverse_reverse] at a2
        exact a1.trans a2
      exact hsub.eq_of_length (by rw [h]; rfl)
    have he := (trimB_edges (32 :: r)).1 hs
    rw [edges_iff, Bool.and_eq_true] at he
    have : blk 32 = true := by decide
    rw [this] at he
    exact absurd he.1 (by decide)
  · simp at h1
    omega
/-- a part of a head is none -/
theorem front_none {fs : List (List UInt8 × List UInt8)} {t : List UInt8} (h : HeadW fs t) : ∀ (acc : List (List UInt8 × List UInt8)) (p q : List UInt8), acc.length + fs.length ≤ 200 → q ≠ [] → p ++ q = t ++ [13, 10] → readGo acc p = .error 3 := by
  induction h with
  | nil =>
    intro acc p q _ hq e
    exact readGo_none (line_part (s := []) (fun c hc => by simp at hc) e hq)
  | cons nm v s0 t ss fs hn hp hs hw hv hl h ih =>
    intro acc p q hk hq e
    have hpl : plain (nm ++ 58 :: s0) := by
      intro c hc
      rcases List.mem_append.1 hc with h1 | h1
      · exact nm_plain hn c h1
      · rcases List.mem_cons.1 h1 with rfl | h2
        · decide
        · exact hp c h2
    have e1 : p ++ q = (nm ++ 58 :: s0 ++ [13, 10]) ++ (segT ss ++ (t ++ [13, 10])) := by rw [e]; simp [eol]
    rcases parts e1 with ⟨q', hq', h1⟩ | ⟨p', rfl, h1⟩
    · exact readGo_none (line_part hpl h1 hq')
    · have hcut : cutAt 10 ((nm ++ 58 :: s0 ++ [13, 10]) ++ p') = some (nm ++ 58 :: s0 ++ [13], p') := by
        have : (nm ++ 58 :: s0 ++ [13, 10]) ++ p' = (nm ++ 58 :: s0 ++ [13]) ++ 10 :: p' := by simp
        rw [this]
        exact cutAt_of (by
          intro hm
          rcases List.mem_append.1 hm with h1 | h1
          · exact plain_no10 hpl h1
          · simp at h1)
      have hde : deCr (nm ++ 58 :: s0 ++ [13]) = nm ++ 58 :: s0 := deCr_cr _
      have hne : deCr (nm ++ 58 :: s0 ++ [13]) ≠ [] := by rw [hde]; simp
      obtain ⟨g1, g2, g3⟩ := vl_edges hl
      have hst : stops (t ++ [13, 10]) := by
        have := h.toT.stops true []
        simpa [eol] using this
      have hf : fieldP acc.length (nm ++ 58 :: s0) p' = match valGo s0 p' with
          | none => .error 3
          | some (v, b) => if 8192 < (trimB v).length then .error 4 else if (trimB v).all sgc then .ok ((nm, trimB v), b) else .error 3 := by
        unfold fieldP
        rw [cutAt_of (nm_no58 hn)]
        simp only [hn, if_true]
        rw [if_neg (by simp at hk; omega)]
        rfl
      rcases val_part ss s0 (t ++ [13, 10]) p' q hs hw hst h1 with h2 | ⟨v', h2, u, hu⟩ | ⟨p2, h3, h2⟩
      · rw [h2] at hf
        exact readGo_err hcut hne (by rw [hde]; exact hf)
      · rw [h2] at hf
        have hpre : (s0 ++ v') ++ u = 32 :: v := by rw [← hv, List.append_assoc, hu]
        have hall : ∀ c ∈ trimB (s0 ++ v'), sgc c = true := by
          intro c hc
          have h5 : c ∈ (32 :: v : List UInt8) := by rw [← hpre]; exact List.mem_append_left _ (trimB_sub _ c hc)
          rcases List.mem_cons.1 h5 with rfl | h6
          · decide
          · exact List.all_eq_true.1 g3 c h6
        have hlen : (trimB (s0 ++ v')).length ≤ 8192 := by
          match hs0 : s0 ++ v', hpre with
          | [], _ => decide
          | x :: r, hpre =>
            have hx : x = 32 ∧ r ++ u = v := by
              rw [List.cons_append] at hpre
              exact ⟨(List.cons.inj hpre).1, (List.cons.inj hpre).2⟩
            rw [hx.1]
            have h7 := trimB_front r
            have h8 : r.length ≤ v.length := by rw [← hx.2]; simp
            omega
        have hok : fieldP acc.length (nm ++ 58 :: s0) p' = .ok ((nm, trimB (s0 ++ v')), []) := by
          rw [hf]
          simp only
          rw [if_neg (by omega), if_pos (List.all_eq_true.2 hall)]
        rw [readGo_ok hcut hne (by rw [hde]; exact hok)]
        exact readGo_none (by rfl)
      · have hok : fieldP acc.length (nm ++ 58 :: s0) p' = .ok ((nm, v), p2) := by
          rw [hf, h2, hv]
          simp only
          rw [trimB_pad g1, if_neg (by omega), if_pos g3]
        rw [readGo_ok hcut hne (by rw [hde]; exact hok)]
        exact ih (acc ++ [(nm, v)]) p2 q (by simp at hk ⊢; omega) hq h3
end Go.Proofs.YtgohdohkikkeeaaDoor
