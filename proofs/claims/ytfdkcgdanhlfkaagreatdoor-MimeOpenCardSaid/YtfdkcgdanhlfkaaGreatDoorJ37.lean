/- Bytes without blanks, in plain words: what one step of the decoder of runes takes. Nothing of the program. · The library's bytes.FieldsFunc at armor's blanks: the pieces between blanks. -/
import Derived.Test.YtfdkcgdanhlfkaaGreatDoorJ02
import Derived.Test.YtfdkcgdanhlfkaaGreatDoorJ05
import Derived.Test.YtfdkcgdanhlfkaaGreatDoorShelf
import Derived.Shelf.Spec.DecodeRune
namespace Go.Proofs.YtfdkcgdanhlfkaaGreatDoor
namespace Ar
set_option linter.unusedVariables false
set_option linter.unusedSimpArgs false

/-- a blank -/
def isb (n : Nat) : Bool := n == 32 || n == 9 || n == 13 || n == 10
/-- the bytes without blanks -/
def nob (l : List UInt8) : List UInt8 := l.filter fun c => !isb c.toNat
theorem nob_append (l m : List UInt8) : nob (l ++ m) = nob l ++ nob m := by simp [nob]
theorem nob_all {l : List UInt8} (h : ∀ c ∈ l, isb c.toNat = false) : nob l = l := by
  unfold nob
  rw [List.filter_eq_self]
  intro c hc
  rw [h c hc]
  rfl
theorem nob_one {c : UInt8} (h : isb c.toNat = true) : nob [c] = [] := by simp [nob, h]

theorem bs_get (l : List UInt8) (k : Nat) : (bs l).get! k = l.getD k 0 := by
  unfold bs ByteArray.get!
  simp [List.getD, Array.getElem!_eq_getD]
  rfl

/-- one step of the decoder -/
theorem dec_step (l : List UInt8) (h : 0 < l.length) (R K : Nat) (hd : Utf8.decode (bs l) 0 = (R, K)) :
    1 ≤ K ∧ K ≤ l.length ∧ R < 2147483648 ∧ (isb R = true → nob (l.take K) = []) ∧ (isb R = false → nob (l.take K) = l.take K) := by
  have hb : ∀ k, isb k = true → k < 128 := by intro k hk; simp [isb] at hk; omega
  have hnb : ∀ k, 128 ≤ k → isb k = false := by
    intro k hk
    cases e : isb k
    · rfl
    · have := hb k e; omega
  have get : ∀ k, k < l.length → l.getD k 0 = l[k]?.getD 0 := fun k _ => by simp [List.getD]
  have pre : ∀ K, K ≤ l.length → (∀ k, k < K → 128 ≤ (l.getD k 0).toNat) → nob (l.take K) = l.take K := by
    intro K hK hall
    apply nob_all
    intro c hc
    obtain ⟨k, hk, rfl⟩ := List.getElem_of_mem hc
    simp only [List.length_take] at hk
    have := hall k (by omega)
    rw [List.getElem_take]
    have e : l.getD k 0 = l[k]'(by omega) := by simp [List.getD, List.getElem?_eq_getElem (show k < l.length by omega)]
    rw [e] at this
    exact hnb _ this
  have one : l.take 1 = [l.getD 0 0] := by
    rcases l with _ | ⟨a, r⟩
    · simp at h
    · simp
  unfold Utf8.decode at hd
  simp only [Nat.zero_add, bs_get, bs_size] at hd
  generalize h0 : (l.getD 0 0).toNat = b0 at *
  have hb0 : b0 < 256 := by rw [← h0]; exact UInt8.toNat_lt _
  by_cases c1 : b0 < 128
  · rw [if_pos c1] at hd
    cases hd
    refine ⟨by omega, h, by omega, fun hi => ?_, fun hi => ?_⟩
    · rw [one]; exact nob_one (by rw [h0]; exact hi)
    · rw [one]; exact nob_all (by intro c hc; simp at hc; subst hc; simpa [List.getD] using (by rw [h0]; exact hi : isb (l.getD 0 0).toNat = false))
  · rw [if_neg c1] at hd
    have err : (R, K) = (Utf8.runeError, 1) → 1 ≤ K ∧ K ≤ l.length ∧ R < 2147483648 ∧ (isb R = true → nob (l.take K) = []) ∧ (isb R = false → nob (l.take K) = l.take K) := by
      intro e
      cases e
      refine ⟨by omega, h, by decide, fun hi => absurd hi (by decide), fun _ => ?_⟩
      exact pre 1 h (fun k hk => by obtain rfl : k = 0 := (by omega); rw [h0]; omega)
    have good : ∀ c q, (R, K) = (c, q) → 1 ≤ q → q ≤ l.length → 128 ≤ c → c < 2147483648 → (∀ k, k < q → 128 ≤ (l.getD k 0).toNat) → 1 ≤ K ∧ K ≤ l.length ∧ R < 2147483648 ∧ (isb R = true → nob (l.take K) = []) ∧ (isb R = false → nob (l.take K) = l.take K) := by
      intro c q e q1 q2 hc hc2 hall
      cases e
      exact ⟨q1, q2, hc2, fun hi => (by rw [hnb _ hc] at hi; cases hi), fun _ => pre _ q2 hall⟩
    split at hd
    · rename_i g
      simp only [Bool.and_eq_true, beq_iff_eq, decide_eq_true_eq] at g
      split at hd
      · rename_i g2
        refine good _ _ hd.symm (by omega) (by omega) g2 (by omega) (fun k hk => ?_)
        rcases (by omega : k = 0 ∨ k = 1) with rfl | rfl <;> omega
      · exact err hd.symm
    · split at hd
      · rename_i g
        simp only [Bool.and_eq_true, beq_iff_eq, decide_eq_true_eq] at g
        split at hd
        · rename_i g2
          simp only [Bool.and_eq_true, decide_eq_true_eq] at g2
          refine good _ _ hd.symm (by omega) (by omega) (by omega) (by omega) (fun k hk => ?_)
          rcases (by omega : k = 0 ∨ k = 1 ∨ k = 2) with rfl | rfl | rfl <;> omega
        · exact err hd.symm
      · split at hd
        · rename_i g
          simp only [Bool.and_eq_true, beq_iff_eq, decide_eq_true_eq] at g
          split at hd
          · rename_i g2
            simp only [Bool.and_eq_true, decide_eq_true_eq] at g2
            refine good _ _ hd.symm (by omega) (by omega) (by omega) (by omega) (fun k hk => ?_)
            rcases (by omega : k = 0 ∨ k = 1 ∨ k = 2 ∨ k = 3) with rfl | rfl | rfl | rfl <;> omega
          · exact err hd.symm
        · exact err hd.symm
end Ar
end Go.Proofs.YtfdkcgdanhlfkaaGreatDoor

namespace Go.Proofs.YtfdkcgdanhlfkaaGreatDoor
namespace Ar
set_option linter.unusedVariables false
set_option linter.unusedSimpArgs false
open Go.RowKit

theorem rune_any (b o c : Nat) (l : List UInt8) (n : Nat) (w : World) (hT : Lib.Utf8Tabs 2 3 w) (hn : l.length = n) (h0 : 0 < n) (hr : Rb w (some ⟨b, o, none⟩) l) :
    Calls Tryz.prog 84 #[.slice (some ⟨b, o, none⟩) n c] w fun e w' => (∃ R K : Nat, e = .returned (.tuple #[.int .i32 R, .int .i64 K]) ∧
      1 ≤ K ∧ K ≤ n ∧ R < 2147483648 ∧ (isb R = true → nob (l.take K) = []) ∧ (isb R = false → nob (l.take K) = l.take K)) ∧ Below w.heap.size w w' := by
  subst hn
  have h := Any7.utf8_DecodeRune Tryz.lays7n32 (bs l) b o c w hT (fun j hj => by
    rw [bs_size] at hj
    obtain ⟨b', o', x, e, hx, hc⟩ := hr.one hj
    cases e
    rw [hc, bs_get]
    simp [List.getD, hx.out])
  rw [bs_size] at h
  refine h.mono ?_
  rintro e w' ⟨rfl, hb⟩
  have hd : Lib.decodeGo (bs l) = Utf8.decode (bs l) 0 := by unfold Lib.decodeGo; rw [if_neg (by rw [bs_size]; omega)]
  rw [hd]
  generalize hq : Utf8.decode (bs l) 0 = q
  obtain ⟨R, K⟩ := q
  obtain ⟨s1, s2, s3, s4, s5⟩ := dec_step l h0 R K hq
  exact ⟨⟨R, K, rfl, s1, s2, s3, s4, s5⟩, hb⟩

set_option maxHeartbeats 400000 in
theorem blank_any (R : Nat) (w : World) (hR : R < 2147483648) :
    Calls Tryz.prog 105 #[.int .i32 R] w fun e w' => e = .returned (.bool (isb R)) ∧ w = w' := by
  have h1 : ((R : Int) == 32) = (R == 32) := by rw [Bool.eq_iff_iff]; simp; omega
  have h2 : ((R : Int) == 9) = (R == 9) := by rw [Bool.eq_iff_iff]; simp; omega
  have h3 : ((R : Int) == 13) = (R == 13) := by rw [Bool.eq_iff_iff]; simp; omega
  have h4 : ((R : Int) == 10) = (R == 10) := by rw [Bool.eq_iff_iff]; simp; omega
  have e : isb R = (((R : Int) == 32) || ((R : Int) == 9) || ((R : Int) == 13) || ((R : Int) == 10)) := by rw [h1, h2, h3, h4]; rfl
  rw [e]
  clear e h1 h2 h3 h4
  rcases Bool.eq_false_or_eq_true ((R : Int) == 32) with h | h
  · go_enter Tryz.func105, Tryz.ntmps105
    go_wp2
    all_goals (go_ret; exact ⟨ret_bool (by rw [h]; rfl), rfl⟩)
  rcases Bool.eq_false_or_eq_true ((R : Int) == 9) with h' | h'
  · go_enter Tryz.func105, Tryz.ntmps105
    go_wp2
    all_goals (go_ret; exact ⟨ret_bool (by rw [h, h']; rfl), rfl⟩)
  rcases Bool.eq_false_or_eq_true ((R : Int) == 13) with h2 | h2
  · go_enter Tryz.func105, Tryz.ntmps105
    go_wp2
    all_goals (go_ret; exact ⟨ret_bool (by rw [h, h', h2]; rfl), rfl⟩)
  · go_enter Tryz.func105, Tryz.ntmps105
    go_wp2
    all_goals (go_ret; exact ⟨ret_bool (by rw [h, h', h2]; rfl), rfl⟩)

end Ar
end Go.Proofs.YtfdkcgdanhlfkaaGreatDoor
