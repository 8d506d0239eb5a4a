/- Lines and Decode, in one form. -/
import Derived.Test.YtdnlelmajepleaaDoorA6
import Derived.Test.YtdnlelmajepleaaDoorQ6
namespace Go.Proofs.YtdnlelmajepleaaDoor
open Go.RowKit

theorem lines_any (A : Option Addr) (xs : List UInt8) (n c : Nat) (w : World) (hn : xs.length = n) (hA : Rb w A xs) (hnc : n ≤ c) (hc : n ≤ 1000000000) :
    Calls Tryd.prog 12 #[.slice A n c] w fun e w' => (∃ v, e = .returned v ∧ w'.ownsRow w.heap.size 5 1 v (lin (enc xs)).length ((lin (enc xs)).map bv)) ∧ Below w.heap.size w w' :=
  callsIn_wide.1 (lines_in 5 (by omega) A xs n c w hn hA hnc hc)

/-- what Decode answers, in one form -/
theorem dec_form {l : List UInt8} {w w' : World} {e : Ending} (h : DecOut l w e w') : ∃ A n c a k, e = .returned (.tuple #[.slice A n c, .int .i64 k]) ∧ a.length = n ∧ n ≤ c ∧ n ≤ l.length ∧ Rb w' A a ∧
    ((k = 0 ∧ enc a = l) ∨ (k = 3 ∧ ∀ a, enc a ≠ l)) ∧ Below w.heap.size w w' := by
  obtain ⟨⟨A, n, c, a, rfl, h1, hc, h2, h3, h4⟩ | ⟨rfl, h1⟩, hb⟩ := h
  · exact ⟨A, n, c, a, 0, rfl, h1, hc, h2, h3, .inl ⟨rfl, h4⟩, hb⟩
  · exact ⟨none, 0, 0, [], 3, rfl, rfl, Nat.le_refl _, by omega, Rb.nil _ _, .inr ⟨rfl, h1⟩, hb⟩
end Go.Proofs.YtdnlelmajepleaaDoor
