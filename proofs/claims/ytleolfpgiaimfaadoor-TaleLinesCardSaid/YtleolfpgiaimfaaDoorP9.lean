/- Names, values, in plain words. Nothing of the program. -/
import Derived.Test.YtleolfpgiaimfaaDoorK2
namespace Go.Proofs.YtleolfpgiaimfaaDoor
set_option linter.unusedVariables false
set_option linter.unusedSimpArgs false

/-- a blank -/
def blk (c : UInt8) : Bool := c == 32 || c == 9
/-- a sign of a name -/
def nmc (c : UInt8) : Bool := decide (33 ≤ c.toNat) && decide (c.toNat ≤ 126) && c != 58
/-- may it be a name? -/
def nmOk (l : List UInt8) : Bool := l.all nmc && decide (1 ≤ l.length ∧ l.length ≤ 64)
/-- a sign of a value -/
def sgc (c : UInt8) : Bool := c == 9 || (decide (32 ≤ c.toNat) && decide (c.toNat ≤ 126))
/-- no blank at the ends -/
def edges (l : List UInt8) : Bool := l.head?.all (fun c => !blk c) && l.getLast?.all (fun c => !blk c)
/-- may it be a value? -/
def vlOk (l : List UInt8) : Bool := l.all sgc && decide (l.length ≤ 8192) && edges l
/-- a small letter -/
def small (c : UInt8) : UInt8 := if 65 ≤ c.toNat ∧ c.toNat ≤ 90 then c + 32 else c
/-- are two names one? -/
def sameN (a b : List UInt8) : Bool := decide (a.map small = b.map small)

theorem blk_cases (c : UInt8) : (blk c = true ∧ ((c.toNat : Int) = 32 ∨ ((c.toNat : Int) ≠ 32 ∧ (c.toNat : Int) = 9))) ∨ (blk c = false ∧ (c.toNat : Int) ≠ 32 ∧ (c.toNat : Int) ≠ 9) := by
  have e : blk c = (decide (c.toNat = 32) || decide (c.toNat = 9)) := by
    unfold blk
    rw [Bool.eq_iff_iff]
    simp [← UInt8.toNat_inj]
  rw [e]
  by_cases h1 : c.toNat = 32 <;> by_cases h2 : c.toNat = 9 <;> simp [h1, h2] <;> omega
theorem blk_iff (c : UInt8) : blk c = true ↔ c.toNat = 32 ∨ c.toNat = 9 := by
  unfold blk
  simp [← UInt8.toNat_inj]
theorem nmc_iff (c : UInt8) : nmc c = true ↔ 33 ≤ c.toNat ∧ c.toNat ≤ 126 ∧ c.toNat ≠ 58 := by
  unfold nmc
  simp [← UInt8.toNat_inj, and_assoc]
theorem sgc_iff (c : UInt8) : sgc c = true ↔ c.toNat = 9 ∨ (32 ≤ c.toNat ∧ c.toNat ≤ 126) := by
  unfold sgc
  simp [← UInt8.toNat_inj]
theorem small_nat (c : UInt8) : (small c).toNat = if 65 ≤ c.toNat ∧ c.toNat ≤ 90 then c.toNat + 32 else c.toNat := by
  unfold small
  split
  · rw [UInt8.toNat_add]
    simp
    omega
  · rfl
theorem all_take {α : Type} (p : α → Bool) (l : List α) {q : Nat} {x : α} (h : l[q]? = some x) : (l.take (q + 1)).all p = ((l.take q).all p && p x) := by
  rw [take_succ_of h, List.all_append]
  simp
theorem all_hit {α : Type} (p : α → Bool) {l : List α} {q : Nat} {x : α} (h : l[q]? = some x) (hp : p x = false) : l.all p = false := by
  rw [List.all_eq_false]
  exact ⟨x, List.mem_of_getElem? h, by simp [hp]⟩
theorem nmOk_len {l : List UInt8} (h : nmOk l = true) : 1 ≤ l.length ∧ l.length ≤ 64 := by
  unfold nmOk at h
  rw [Bool.and_eq_true, decide_eq_true_iff] at h
  exact h.2
theorem vlOk_len {l : List UInt8} (h : vlOk l = true) : l.length ≤ 8192 := by
  unfold vlOk at h
  rw [Bool.and_eq_true, Bool.and_eq_true, decide_eq_true_iff] at h
  exact h.1.2
end Go.Proofs.YtleolfpgiaimfaaDoor
