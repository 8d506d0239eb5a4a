/- Cut at the ; outside of quotations; what a quotation tells; a kind: the program's split, text, kindly. -/
import Derived.Test.YtddjabjloplhiaaGreatDoorU6
import Derived.Test.YtddjabjloplhiaaGreatDoorP23
import Derived.Test.YtddjabjloplhiaaGreatDoorE1
import Derived.Deep.RegionHeld3
namespace Go.Proofs.YtddjabjloplhiaaGreatDoor
set_option linter.unusedVariables false
set_option linter.unusedSimpArgs false
open Go.RowKit

theorem infoStr : (Tryz.prog.info? 9).map (fun i => (i.zero, i.size, i.bytes)) = some (some (.string ⟨#[]⟩), 1, 16) := by kernel_rfl
theorem TStr : ElT Tryz.prog 30 9 1 16 := ElT.mk' (z := .string ⟨#[]⟩) Tryz.underlying30 (by omega) (by omega) rfl infoStr

/-- so much is cut, this piece has begun at f, and q comes next -/
def SemAt (l : List UInt8) (ps out : List (List UInt8)) (f q : Nat) : Prop := ∃ rest, semP (l.drop q) = some rest ∧ ps = out ++ pre ((l.drop f).take (q - f)) rest
theorem SemAt.start {l : List UInt8} {ps : List (List UInt8)} (h : semP l = some ps) : SemAt l ps [] 0 0 := ⟨ps, h, by simp [pre_nil (semP_ne h)]⟩
theorem cur_more {l : List UInt8} {f q n : Nat} (hf : f ≤ q) : (l.drop f).take (q + n - f) = (l.drop f).take (q - f) ++ (l.drop q).take n := by
  rw [show q + n - f = (q - f) + n by omega, List.take_add, List.drop_drop, show f + (q - f) = q by omega]
theorem cur_snoc {l : List UInt8} {f q : Nat} {c : UInt8} (hf : f ≤ q) (hc : l[q]? = some c) : (l.drop f).take (q + 1 - f) = (l.drop f).take (q - f) ++ [c] := by
  rw [show q + 1 - f = q - f + 1 by omega]
  exact take_succ_of (by rw [List.getElem?_drop, show f + (q - f) = q by omega]; exact hc)
theorem SemAt.quo {l : List UInt8} {ps out : List (List UInt8)} {f q : Nat} {c : UInt8} (h : SemAt l ps out f q) (hf : f ≤ q) (hc : l[q]? = some c) (h3 : c = 34) :
    ∃ n, quoAt (l.drop q) 1 = some n ∧ 2 ≤ n ∧ q + n ≤ l.length ∧ SemAt l ps out f (q + n) := by
  obtain ⟨rest, h1, h2⟩ := h
  have hd := drop_at hc
  have hq := lt_of_get hc
  have h1' := h1
  rw [hd, semP_cons, if_pos h3] at h1
  cases hg : qGo (l.drop (q + 1)) with
  | none => rw [hg] at h1; cases h1
  | some p =>
    obtain ⟨a, t⟩ := p
    rw [hg] at h1
    simp only at h1
    rw [Option.map_eq_some_iff] at h1
    obtain ⟨r', hr', rfl⟩ := h1
    obtain ⟨hu, ha⟩ := qGo_len _ _ _ _ (Nat.le_refl _) hg
    have e2 : a.length + t.length = l.length - (q + 1) := by
      have := congrArg List.length hu
      rw [List.length_drop, List.length_append] at this
      omega
    have ht : l.drop (q + (1 + a.length)) = t := by
      have e1 : l.drop (q + (1 + a.length)) = (l.drop (q + 1)).drop a.length := by rw [List.drop_drop]; congr 1; omega
      rw [e1, hu, List.drop_left' rfl]
    have hn : quoAt (l.drop q) 1 = some (1 + a.length) := by
      unfold quoAt
      rw [hd]
      simp only [List.drop_succ_cons, List.drop_zero]
      rw [hg]
      rfl
    refine ⟨1 + a.length, hn, by omega, by omega, r', by rw [ht]; exact hr', ?_⟩
    rw [h2, cur_more hf, pre_pre, hd, Nat.add_comm 1, List.take_succ_cons, hu, List.take_left' rfl, h3]
theorem SemAt.cut {l : List UInt8} {ps out : List (List UInt8)} {f q : Nat} {c : UInt8} (h : SemAt l ps out f q) (hf : f ≤ q) (hc : l[q]? = some c) (h5 : c = 59) :
    SemAt l ps (out ++ [(l.drop f).take (q - f)]) (q + 1) (q + 1) := by
  obtain ⟨rest, h1, h2⟩ := h
  rw [drop_at hc, semP_cons, if_neg (by rw [h5]; decide), if_pos h5, Option.map_eq_some_iff] at h1
  obtain ⟨r', hr', rfl⟩ := h1
  refine ⟨r', hr', ?_⟩
  rw [h2, Nat.sub_self, List.take_zero, pre_nil (semP_ne hr')]
  simp [pre]
theorem SemAt.more {l : List UInt8} {ps out : List (List UInt8)} {f q : Nat} {c : UInt8} (h : SemAt l ps out f q) (hf : f ≤ q) (hc : l[q]? = some c) (h3 : c ≠ 34) (h5 : c ≠ 59) :
    SemAt l ps out f (q + 1) := by
  obtain ⟨rest, h1, h2⟩ := h
  rw [drop_at hc, semP_cons, if_neg h3, if_neg h5, Option.map_eq_some_iff] at h1
  obtain ⟨r', hr', rfl⟩ := h1
  refine ⟨r', hr', ?_⟩
  rw [h2, cur_snoc hf hc, pre_pre]
theorem SemAt.last {l : List UInt8} {ps out : List (List UInt8)} {f q : Nat} (h : SemAt l ps out f q) (hf : f ≤ q) (hq : l.length ≤ q) : ps = out ++ [(l.drop f).take (l.length - f)] := by
  obtain ⟨rest, h1, h2⟩ := h
  rw [List.drop_of_length_le hq] at h1
  have : rest = [[]] := by simpa [semP, semN, eq_comm] using h1
  rw [h2, this]
  simp only [pre, List.append_nil]
  rw [List.take_of_length_le (by rw [List.length_drop]; omega), List.take_of_length_le (by rw [List.length_drop]; omega)]


/-- from place q on it is the rest of a quotation, to the end -/
def QAt (v : List UInt8) (q : Nat) : Prop := qGo (v.drop q) = some (v.drop q, [])
theorem QAt.step {v : List UInt8} {q : Nat} {c : UInt8} (h : QAt v q) (hc : v[q]? = some c) : (c = 34 ∧ q + 1 = v.length) ∨
    (c = 92 ∧ c ≠ 34 ∧ q + 2 < v.length ∧ ∃ x, v[q + 1]? = some x ∧ QAt v (q + 2) ∧ unq (v.drop q) = x :: unq (v.drop (q + 2))) ∨
    (c ≠ 34 ∧ c ≠ 92 ∧ q + 1 < v.length ∧ QAt v (q + 1) ∧ unq (v.drop q) = c :: unq (v.drop (q + 1))) := by
  have hq := lt_of_get hc
  unfold QAt at *
  rw [drop_at hc] at h ⊢
  rw [qGo.eq_def] at h
  simp only at h
  by_cases h9 : c = 92
  · rw [if_pos h9] at h
    right; left
    cases hd : v.drop (q + 1) with
    | nil => rw [hd] at h; cases h
    | cons x r =>
      rw [hd] at h
      simp only at h
      rw [Option.map_eq_some_iff] at h
      obtain ⟨⟨a, t⟩, h1, h2⟩ := h
      have hx : v[q + 1]? = some x := by
        have := congrArg (·[0]?) hd
        simpa [List.getElem?_drop] using this
      have hr : v.drop (q + 2) = r := by
        have := drop_at hx
        rw [hd] at this
        injection this with _ e
        exact e.symm
      rw [hr]
      simp only [Prod.mk.injEq, List.cons.injEq] at h2
      obtain ⟨⟨_, _, rfl⟩, rfl⟩ := h2
      have hpos := (qGo_len _ _ _ _ (Nat.le_refl _) h1).2
      have hl := congrArg List.length hr
      rw [List.length_drop] at hl
      refine ⟨h9, by rw [h9]; decide, by omega, x, hx, h1, ?_⟩
      rw [unq.eq_def]
      simp only
      rw [if_neg (by rw [h9]; decide), if_pos h9]
  · rw [if_neg h9] at h
    by_cases h3 : c = 34
    · rw [if_pos h3] at h
      left
      refine ⟨h3, ?_⟩
      simp only [Option.some.injEq, Prod.mk.injEq] at h
      have := congrArg List.length h.2
      rw [List.length_drop] at this
      simp at this
      omega
    · rw [if_neg h3, Option.map_eq_some_iff] at h
      obtain ⟨⟨a, t⟩, h1, h2⟩ := h
      simp only [Prod.mk.injEq, List.cons.injEq] at h2
      obtain ⟨⟨_, rfl⟩, rfl⟩ := h2
      have hpos := (qGo_len _ _ _ _ (Nat.le_refl _) h1).2
      rw [List.length_drop] at hpos
      right; right
      refine ⟨h3, h9, by omega, h1, ?_⟩
      rw [unq.eq_def]
      simp only
      rw [if_neg h3, if_neg h9]
theorem QAt.lt {v : List UInt8} {q : Nat} (h : QAt v q) : q < v.length := by
  have := (qGo_len _ _ _ _ (Nat.le_refl _) h).2
  rw [List.length_drop] at this
  omega
theorem unq_one : unq [34] = [] := by simp [unq]



end Go.Proofs.YtddjabjloplhiaaGreatDoor
