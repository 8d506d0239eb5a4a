/- The statement FieldNames: the walk of the law. -/
import Derived.Test.YtgohdohkikkeeaaDoorL9
import Derived.Test.YtgohdohkikkeeaaDoorN4
namespace Go.Proofs.YtgohdohkikkeeaaDoor
open Go.RowKit

theorem sameN_self (a : List UInt8) : sameN a a = true := by simp [sameN]
theorem sameN_comm (a b : List UInt8) : sameN a b = sameN b a := by
  unfold sameN
  rw [Bool.eq_iff_iff, decide_eq_true_iff, decide_eq_true_iff]
  exact eq_comm
theorem sameN_trans {a b c : List UInt8} (h : sameN a b = true) (k : sameN b c = true) : sameN a c = true := by
  unfold sameN at *
  rw [decide_eq_true_iff] at *
  exact h.trans k
theorem nmc_small (c : UInt8) : nmc (small c) = nmc c := by
  have key : ∀ n : Fin 256, nmc (small (UInt8.ofNat n.1)) = nmc (UInt8.ofNat n.1) := by decide +kernel
  have := key ⟨c.toNat, c.toNat_lt⟩
  simpa using this
theorem nmOk_small (l : List UInt8) : nmOk (l.map small) = nmOk l := by
  unfold nmOk
  rw [List.all_map, List.length_map]
  congr 2
  funext c
  exact nmc_small c
theorem sameN_name {a b : List UInt8} (h : sameN a b = true) : nmOk a = nmOk b ∧ a.length = b.length := by
  unfold sameN at h
  rw [decide_eq_true_iff] at h
  exact ⟨by rw [← nmOk_small a, ← nmOk_small b, h], by simpa using congrArg List.length h⟩

set_option maxRecDepth 100000 in
set_option maxHeartbeats 2000000 in
theorem names_any (a b c : List UInt8) (w : World) (hT : Lib.Utf8Tabs 1 2 w) :
    Calls Tryd.prog 8 #[.string (bs a), .string (bs b), .string (bs c)] w fun e w' => e = .returned (.bool true) ∧ Below w.heap.size w w' := by
  go_enter Tryd.func8, Tryd.ntmps8
  go_wp2_with fail
  refine (speaks9_any w).mono ?_
  rintro e w1 ⟨rfl, hB1⟩
  by_cases ha : 300 < a.length
  · go_wp2_with fail
    go_ret
    exact ⟨rfl, hB1⟩
  by_cases hb : 300 < b.length
  · go_wp2_with fail
    go_ret
    exact ⟨rfl, hB1⟩
  by_cases hc : 300 < c.length
  · go_wp2_with fail
    go_ret
    exact ⟨rfl, hB1⟩
  have hsame : ∀ (W : World) (x y : List UInt8), Below w.heap.size w W → x.length ≤ 1000000000 → y.length ≤ 1000000000 → Calls Tryd.prog 28 #[.string (bs x), .string (bs y)] W fun e w' => e = .returned (.bool (sameN x y)) ∧ Below w.heap.size w w' :=
    fun W x y hb hx hy => (fsame_any x y W (tabs_below hT hb) hx hy).mono fun e w' h => ⟨h.1, hb.trans (h.2.mono hb.size)⟩
  have hname : ∀ (W : World) (x : List UInt8), Below w.heap.size w W → x.length ≤ 1000000000 → Calls Tryd.prog 29 #[.string (bs x)] W fun e w' => e = .returned (.bool (nmOk x)) ∧ Below w.heap.size w w' :=
    fun W x hb hx => (fname_any x W hx).mono fun e w' h => ⟨h.1, hb.trans (h.2.mono hb.size)⟩
  have la : a.length ≤ 1000000000 := by omega
  have lb : b.length ≤ 1000000000 := by omega
  have lc : c.length ≤ 1000000000 := by omega
  have saa := sameN_self a
  rcases Bool.eq_false_or_eq_true (sameN a b) with hab | hab
  · have hba : sameN b a = true := by rw [sameN_comm b a]; exact hab
    obtain ⟨hnn, hll⟩ := sameN_name hab
    have hlb : ((a.length : Int) == (b.length : Int)) = true := by rw [beq_iff_eq]; omega
    have hbc : (sameN b c = true ∧ sameN a c = true) ∨ sameN b c = false := by
      rcases Bool.eq_false_or_eq_true (sameN b c) with h | h
      · exact .inl ⟨h, sameN_trans hab h⟩
      · exact .inr h
    have hn : (nmOk a = true ∧ nmOk b = true) ∨ (nmOk a = false ∧ nmOk b = false) := by
      rcases Bool.eq_false_or_eq_true (nmOk b) with h | h
      · exact .inl ⟨hnn.trans h, h⟩
      · exact .inr ⟨hnn.trans h, h⟩
    clear hnn hll
    rcases hbc with ⟨hbc, hac⟩ | hbc <;> rcases hn with ⟨hna, hnb⟩ | ⟨hna, hnb⟩
    all_goals
      go_wp2_with (first
      | (go_at_call 28; refine (hsame _ _ _ (by assumption) (by assumption) (by assumption)).mono ?_; rintro e w2 ⟨rfl, hB2⟩)
      | (go_at_call 29; refine (hname _ _ (by assumption) (by assumption)).mono ?_; rintro e w3 ⟨rfl, hB3⟩))
      go_ret
      exact ⟨rfl, by assumption⟩
  · have hba : sameN b a = false := by rw [sameN_comm b a]; exact hab
    go_wp2_with (first
    | (go_at_call 28; refine (hsame _ _ _ (by assumption) (by assumption) (by assumption)).mono ?_; rintro e w2 ⟨rfl, hB2⟩)
    | (go_at_call 29; refine (hname _ _ (by assumption) (by assumption)).mono ?_; rintro e w3 ⟨rfl, hB3⟩))
    go_ret
    exact ⟨rfl, by assumption⟩
end Go.Proofs.YtgohdohkikkeeaaDoor
