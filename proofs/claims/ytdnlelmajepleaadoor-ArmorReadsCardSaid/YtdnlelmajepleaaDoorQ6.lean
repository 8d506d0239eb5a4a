/- Lines of signs, in plain words: no line is longer than 76 signs. Nothing of the program. -/
import Derived.Test.YtdnlelmajepleaaDoorP6
namespace Go.Proofs.YtdnlelmajepleaaDoor

/-- how many bytes since the last line's end -/
def cnt (l : List UInt8) : Nat := l.foldl (fun n c => if c = 10 then 0 else n + 1) 0
theorem cnt_snoc (l : List UInt8) (c : UInt8) : cnt (l ++ [c]) = if c = 10 then 0 else cnt l + 1 := by simp [cnt]
theorem cnt_plain (L s : List UInt8) (h : ∀ c ∈ s, c ≠ 10) : cnt (L ++ s) = cnt L + s.length := by
  induction s generalizing L with
  | nil => simp
  | cons c s ih =>
    have e : L ++ c :: s = (L ++ [c]) ++ s := by simp
    rw [e, ih (L ++ [c]) (fun x hx => h x (by simp [hx])), cnt_snoc, if_neg (h c (by simp)), List.length_cons]
    omega
/-- no line is too long -/
def Short (L : List UInt8) : Prop := (∀ k, cnt (L.take k) ≤ 77) ∧ cnt L = 0
theorem Short.nil : Short [] := ⟨fun k => by simp [cnt], rfl⟩
theorem Short.line {L s : List UInt8} (h : Short L) (hs : ∀ c ∈ s, c ≠ 10) (hl : s.length ≤ 76) : Short (L ++ (s ++ [13, 10])) := by
  have h13 : ∀ t : List UInt8, (∀ c ∈ t, c ≠ 10) → cnt (L ++ t) = t.length := fun t ht => by rw [cnt_plain L t ht, h.2]; omega
  have hend : cnt (L ++ (s ++ [13, 10])) = 0 := by
    have e : L ++ (s ++ [13, 10]) = (L ++ (s ++ [13])) ++ [10] := by simp
    rw [e, cnt_snoc, if_pos rfl]
  refine ⟨fun k => ?_, hend⟩
  by_cases h1 : k ≤ L.length
  · rw [List.take_append_of_le_length h1]
    exact h.1 k
  · obtain ⟨q, rfl⟩ : ∃ q, k = L.length + q := ⟨k - L.length, by omega⟩
    rw [List.take_length_add_append]
    by_cases h2 : q ≤ s.length + 1
    · have e : (s ++ [13, 10]).take q = (s ++ [13]).take q := by
        have : s ++ [13, 10] = (s ++ [13]) ++ [10] := by simp
        rw [this, List.take_append_of_le_length (by simp; omega)]
      rw [e, h13 _ (fun c hc => by
        have := List.mem_of_mem_take hc
        rcases List.mem_append.1 this with h' | h'
        · exact hs c h'
        · simp at h'
          subst h'
          decide)]
      simp
      omega
    · rw [List.take_of_length_le (by simp; omega), hend]
      omega
theorem sgs_10 : ∀ c ∈ sgs, c ≠ 10 := by decide
theorem gsign_10 (ys : List UInt8) (i : Nat) : gsign ys i ≠ 10 := by
  unfold gsign
  split
  · decide
  · have hT : gnum ys 3 / 2 ^ (18 - 6 * i) % 64 < 64 := Nat.mod_lt _ (by omega)
    generalize gnum ys 3 / 2 ^ (18 - 6 * i) % 64 = T at *
    have hl : T < sgs.length := hT
    rw [List.getD_eq_getElem?_getD, List.getElem?_eq_getElem hl]
    exact sgs_10 _ (List.getElem_mem hl)
theorem enc_10 (xs : List UInt8) : ∀ c ∈ enc xs, c ≠ 10 := by
  intro c hc
  unfold enc at hc
  obtain ⟨j, _, h⟩ := List.mem_flatMap.1 hc
  unfold enc3 at h
  split at h
  · simp at h
  · obtain ⟨i, _, rfl⟩ := List.mem_map.1 h
    exact gsign_10 _ _
theorem lin_short (l : List UInt8) (h : ∀ c ∈ l, c ≠ 10) : Short (lin l) := by
  unfold lin
  generalize (l.length + 75) / 76 = m
  induction m with
  | zero => exact Short.nil
  | succ m ih =>
    rw [List.range_succ, List.flatMap_append]
    simp only [List.flatMap_cons, List.flatMap_nil, List.append_nil]
    exact ih.line (fun c hc => h c (List.mem_of_mem_drop (List.mem_of_mem_take hc))) (by unfold chk; simp; omega)
theorem lin_len (l : List UInt8) : (lin l).length ≤ 78 * ((l.length + 75) / 76) := by
  unfold lin
  generalize (l.length + 75) / 76 = m
  induction m with
  | zero => simp
  | succ m ih =>
    have hc : (chk l 76 m).length ≤ 76 := by unfold chk; simp; omega
    rw [List.range_succ, List.flatMap_append, List.length_append]
    simp only [List.flatMap_cons, List.flatMap_nil, List.append_nil, List.length_append, List.length_cons, List.length_nil]
    omega
theorem enc_inj (a b : List UInt8) (h : enc a = enc b) : a = b := by
  generalize hn : a.length = n
  induction n using Nat.strongRecOn generalizing a b with
  | _ n ih =>
    have hl := congrArg List.length h
    rw [enc_length, enc_length] at hl
    by_cases ha : a = []
    · subst ha
      have : b.length = 0 := by simp at hl; omega
      exact (List.eq_nil_of_length_eq_zero this).symm
    · by_cases hb : b = []
      · subst hb
        have : a.length = 0 := by simp at hl; omega
        exact List.eq_nil_of_length_eq_zero this
      · have ta : 1 ≤ (a.take 3).length := by
          rcases a with _ | ⟨x, r⟩
          · exact absurd rfl ha
          · simp
        have tb : 1 ≤ (b.take 3).length := by
          rcases b with _ | ⟨x, r⟩
          · exact absurd rfl hb
          · simp
        have ta3 : (a.take 3).length ≤ 3 := by simp; omega
        have tb3 : (b.take 3).length ≤ 3 := by simp; omega
        have na : a.take 3 ≠ [] := by intro e; rw [e] at ta; simp at ta
        have nb : b.take 3 ≠ [] := by intro e; rw [e] at tb; simp at tb
        rw [enc_cons a ha, enc_cons b hb] at h
        obtain ⟨e1, e2⟩ := List.append_inj h (by rw [enc3_len _ na, enc3_len _ nb])
        have e3 := enc3_inj ta ta3 tb tb3 e1
        have e4 := ih (a.length - 3) (by simp at ta; omega) (a.drop 3) (b.drop 3) e2 (by simp)
        rw [← List.take_append_drop 3 a, ← List.take_append_drop 3 b, e3, e4]
end Go.Proofs.YtdnlelmajepleaaDoor
