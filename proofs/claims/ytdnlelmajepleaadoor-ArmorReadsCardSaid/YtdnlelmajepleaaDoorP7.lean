/- Bytes without blanks, in plain words: what one step of the decoder of runes takes. Nothing of the program. -/
import Derived.Test.YtdnlelmajepleaaDoorK
namespace Go.Proofs.YtdnlelmajepleaaDoor

/-- a blank -/
def isb (n : Nat) : Bool := n == 32 || n == 9 || n == 13 || n == 10
/-- the bytes without blanks -/
def nob (l : List UInt8) : List UInt8 := l.filter fun c => !isb c.toNat
theorem nob_append (l m : List UInt8) : nob (l ++ m) = nob l ++ nob m := by simp [nob]
theorem nob_all {l : List UInt8} (h : ∀ c ∈ l, isb c.toNat = false) : nob l = l := by
  unfold nob
  rw [List.filter_eq_self]
  intro c hc
  rw [h c hc]
  rfl
theorem nob_one {c : UInt8} (h : isb c.toNat = true) : nob [c] = [] := by simp [nob, h]

theorem bs_get (l : List UInt8) (k : Nat) : (bs l).get! k = l.getD k 0 := by
  unfold bs ByteArray.get!
  simp [List.getD, Array.getElem!_eq_getD]
  rfl

/-- one step of the decoder -/
theorem dec_step (l : List UInt8) (h : 0 < l.length) (R K : Nat) (hd : Utf8.decode (bs l) 0 = (R, K)) :
    1 ≤ K ∧ K ≤ l.length ∧ R < 2147483648 ∧ (isb R = true → nob (l.take K) = []) ∧ (isb R = false → nob (l.take K) = l.take K) := by
  have hb : ∀ k, isb k = true → k < 128 := by intro k hk; simp [isb] at hk; omega
  have hnb : ∀ k, 128 ≤ k → isb k = false := by
    intro k hk
    cases e : isb k
    · rfl
    · have := hb k e; omega
  have get : ∀ k, k < l.length → l.getD k 0 = l[k]?.getD 0 := fun k _ => by simp [List.getD]
  have pre : ∀ K, K ≤ l.length → (∀ k, k < K → 128 ≤ (l.getD k 0).toNat) → nob (l.take K) = l.take K := by
    intro K hK hall
    apply nob_all
    intro c hc
    obtain ⟨k, hk, rfl⟩ := List.getElem_of_mem hc
    simp only [List.length_take] at hk
    have := hall k (by omega)
    rw [List.getElem_take]
    have e : l.getD k 0 = l[k]'(by omega) := by simp [List.getD, List.getElem?_eq_getElem (show k < l.length by omega)]
    rw [e] at this
    exact hnb _ this
  have one : l.take 1 = [l.getD 0 0] := by
    rcases l with _ | ⟨a, r⟩
    · simp at h
    · simp
  unfold Utf8.decode at hd
  simp only [Nat.zero_add, bs_get, bs_size] at hd
  generalize h0 : (l.getD 0 0).toNat = b0 at *
  have hb0 : b0 < 256 := by rw [← h0]; exact UInt8.toNat_lt _
  by_cases c1 : b0 < 128
  · rw [if_pos c1] at hd
    cases hd
    refine ⟨by omega, h, by omega, fun hi => ?_, fun hi => ?_⟩
    · rw [one]; exact nob_one (by rw [h0]; exact hi)
    · rw [one]; exact nob_all (by intro c hc; simp at hc; subst hc; simpa [List.getD] using (by rw [h0]; exact hi : isb (l.getD 0 0).toNat = false))
  · rw [if_neg c1] at hd
    have err : (R, K) = (Utf8.runeError, 1) → 1 ≤ K ∧ K ≤ l.length ∧ R < 2147483648 ∧ (isb R = true → nob (l.take K) = []) ∧ (isb R = false → nob (l.take K) = l.take K) := by
      intro e
      cases e
      refine ⟨by omega, h, by decide, fun hi => absurd hi (by decide), fun _ => ?_⟩
      exact pre 1 h (fun k hk => by obtain rfl : k = 0 := (by omega); rw [h0]; omega)
    have good : ∀ c q, (R, K) = (c, q) → 1 ≤ q → q ≤ l.length → 128 ≤ c → c < 2147483648 → (∀ k, k < q → 128 ≤ (l.getD k 0).toNat) → 1 ≤ K ∧ K ≤ l.length ∧ R < 2147483648 ∧ (isb R = true → nob (l.take K) = []) ∧ (isb R = false → nob (l.take K) = l.take K) := by
      intro c q e q1 q2 hc hc2 hall
      cases e
      exact ⟨q1, q2, hc2, fun hi => (by rw [hnb _ hc] at hi; cases hi), fun _ => pre _ q2 hall⟩
    split at hd
    · rename_i g
      simp only [Bool.and_eq_true, beq_iff_eq, decide_eq_true_eq] at g
      split at hd
      · rename_i g2
        refine good _ _ hd.symm (by omega) (by omega) g2 (by omega) (fun k hk => ?_)
        rcases (by omega : k = 0 ∨ k = 1) with rfl | rfl <;> omega
      · exact err hd.symm
    · split at hd
      · rename_i g
        simp only [Bool.and_eq_true, beq_iff_eq, decide_eq_true_eq] at g
        split at hd
        · rename_i g2
          simp only [Bool.and_eq_true, decide_eq_true_eq] at g2
          refine good _ _ hd.symm (by omega) (by omega) (by omega) (by omega) (fun k hk => ?_)
          rcases (by omega : k = 0 ∨ k = 1 ∨ k = 2) with rfl | rfl | rfl <;> omega
        · exact err hd.symm
      · split at hd
        · rename_i g
          simp only [Bool.and_eq_true, beq_iff_eq, decide_eq_true_eq] at g
          split at hd
          · rename_i g2
            simp only [Bool.and_eq_true, decide_eq_true_eq] at g2
            refine good _ _ hd.symm (by omega) (by omega) (by omega) (by omega) (fun k hk => ?_)
            rcases (by omega : k = 0 ∨ k = 1 ∨ k = 2 ∨ k = 3) with rfl | rfl | rfl | rfl <;> omega
          · exact err hd.symm
        · exact err hd.symm
end Go.Proofs.YtdnlelmajepleaaDoor
