/- A part of a slice: s[k:], s[:k], told once, wherever the slice lies. Nothing of the program. -/
import Derived.Test.YtcagkoakbdbbaaaGreatDoorK2
namespace Go.Proofs.YtcagkoakbdbbaaaGreatDoor
set_option linter.unusedVariables false
set_option linter.unusedSimpArgs false
open Go.RowKit

theorem elem_of {P : Program} {t e : TypeId} (ht : P.underlying t = some (.slice e)) : P.underlying t = some (.slice (P.elem t)) := by
  simp [Program.elem, ht]
theorem elem_eq {P : Program} {t e : TypeId} (ht : P.underlying t = some (.slice e)) : P.elem t = e := by
  simp [Program.elem, ht]
theorem slice_from {P : Program} {t e : TypeId} {s : Nat} (ht : P.underlying t = some (.slice e)) (hsz : ∀ w, (sizeOf e).run P w = .ok s w) (A : Option Addr) (n c k : Nat) (hk : k ≤ n) (hnc : n ≤ c) :
    ∃ A', (∀ K w, (Instr.slice t (.slice A n c) (some (.int K (k : Int))) none none).run P w = .ok (.slice A' (n - k) (c - k)) w) ∧ (∀ w xs, xs.length = n * s → Rv w A xs → Rv w A' (xs.drop (k * s))) ∧ (A = none → A' = none) ∧ (∀ b o, A = some ⟨b, o, none⟩ → ∃ o', A' = some ⟨b, o', none⟩) ∧ (A' = A ∨ A' = A.map (·.add (k * s))) := by
  refine ⟨if c = k then A else A.map (·.add (k * s)), fun K w => ?_, fun w xs hl h => ?_, ?_, ?_, ?_⟩
  · rw [run_slice_l w t A n c (elem_of ht) K (k : Int) (by omega) (by omega), elem_eq ht, hsz]
    simp [Result.andThen, sliced]
  · by_cases hc : c = k
    · have e : xs.drop (k * s) = [] := List.drop_eq_nil_of_le (by rw [hl]; exact Nat.mul_le_mul_right _ (by omega))
      rw [e]
      exact Rv.nil _ _
    · rw [if_neg hc]
      intro hp
      have hp' : 0 < xs.length := by simp at hp; omega
      obtain ⟨b, o, rfl, hcell⟩ := h hp'
      have hd := Rv.drop (b := b) (o := o) (xs := xs) (w := w) (fun _ => ⟨b, o, rfl, hcell⟩) (k * s)
      have e : Option.map (fun x : Addr => x.add (k * s)) (some ⟨b, o, none⟩) = some ⟨b, o + k * s, none⟩ := by
        rw [Option.map_some]
        congr 1
        unfold Addr.add
        split <;> simp_all
      rw [e]
      exact hd hp
  · rintro rfl
    split <;> rfl
  · rintro b o rfl
    split
    · exact ⟨o, rfl⟩
    · refine ⟨o + k * s, ?_⟩
      rw [Option.map_some]
      congr 1
      unfold Addr.add
      split <;> simp_all
  · split
    · exact .inl rfl
    · exact .inr rfl
theorem add_zero (a : Addr) : a.add 0 = a := by unfold Addr.add; simp
theorem slice_to {P : Program} {t e : TypeId} {s : Nat} (ht : P.underlying t = some (.slice e)) (hsz : ∀ w, (sizeOf e).run P w = .ok s w) (A : Option Addr) (n c k : Nat) (hk : k ≤ c) :
    ∀ K w, (Instr.slice t (.slice A n c) none (some (.int K (k : Int))) none).run P w = .ok (.slice A k c) w := by
  intro K w
  rw [run_slice_h w t A n c (elem_of ht) K (k : Int) (by omega) (by omega), elem_eq ht, hsz]
  have e : A.map (fun x => x.add 0) = A := by cases A <;> simp [add_zero]
  simp [Result.andThen, sliced, e]
end Go.Proofs.YtcagkoakbdbbaaaGreatDoor
