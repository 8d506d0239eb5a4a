/- Names and values: field's own tests. -/
import Derived.Test.YtgohdohkikkeeaaDoorP9
import Derived.Test.YtgohdohkikkeeaaDoorM1
import Derived.Test.YtgohdohkikkeeaaDoorChecked
namespace Go.Proofs.YtgohdohkikkeeaaDoor
set_option linter.unusedVariables false
set_option linter.unusedSimpArgs false
open Go.RowKit

set_option maxHeartbeats 400000 in
theorem fblank_any (c : UInt8) (w : World) :
    Calls Tryd.prog 48 #[.int .u8 (c.toNat : Int)] w fun e w' => e = .returned (.bool (blk c)) ∧ w = w' := by
  rcases blk_cases c with ⟨hb, h | ⟨h', h⟩⟩ | ⟨hb, h, h'⟩
  all_goals
    have HB := Lib.hid hb
    clear hb
    go_enter Tryd.func48, Tryd.ntmps48
    go_wp2_with fail
    go_ret
    exact ⟨ret_bool (by rw [HB.out]; all_goals (simp [h] <;> omega)), rfl⟩

set_option maxRecDepth 100000 in
set_option maxHeartbeats 400000 in
theorem fname_any (l : List UInt8) (w : World) (hl : l.length ≤ 9223372036854775807) :
    Calls Tryd.prog 29 #[.string (bs l)] w fun e w' => e = .returned (.bool (nmOk l)) ∧ Below w.heap.size w w' := by
  obtain ⟨c, W, hcv, hown, hB, _⟩ := conv_bs (P := Tryd.prog) (src := 9) (dst := 23) Tryd.underlying9 Tryd.underlying23 Tryd.underlying5 w l (by unfold maxLen; omega)
  go_enter Tryd.func29, Tryd.ntmps29
  obtain ⟨g, hg⟩ : ∃ g, decide (1 ≤ l.length ∧ l.length ≤ 64) = g := ⟨_, rfl⟩
  obtain ⟨A, _, hA, _, _, hR, _⟩ := hown.form
  cases hA
  have hRb : Rb W _ l := hR
  have hres : nmOk l = (l.all nmc && g) := by rw [← hg]; rfl
  have HR := Lib.hid hres
  have HG := Lib.hid hg
  clear hres hR hown hg
  rcases (by omega : l.length = 0 ∨ (1 ≤ l.length ∧ l.length ≤ 64) ∨ (1 ≤ l.length ∧ ¬ l.length ≤ 64)) with h1 | h1
  · have h0 : nmOk l = false := by rw [List.eq_nil_of_length_eq_zero h1]; rfl
    have H0 := Lib.hid h0
    clear h0
    go_wp2_with fail
    go_loopw [3, 17] (fun v i wr => v = .bool false ∧ i = .int .i64 0 ∧ wr = W) (fun _ _ _ => 0)
    case atStart => exact ⟨rfl, rfl, rfl⟩
    case round =>
      obtain ⟨rfl, rfl, rfl⟩ := hrel
      go_wp2_with fail
      go_ret
      exact ⟨ret_bool H0.out.symm, hB⟩
  rcases h1 with ⟨h1, h2⟩ | ⟨h1, h2⟩
  all_goals
    go_wp2_with fail
    go_loopw [3, 17] (fun v i wr => ∃ q : Nat, i = .int .i64 q ∧ q ≤ l.length ∧ v = .bool (g && (l.take q).all nmc) ∧ Dn W wr) (fun _ i _ => l.length - (intOf i).toNat)
    case atStart =>
      refine ⟨0, rfl, by omega, ?_, Dn.refl _⟩
      refine congrArg Value.bool ?_
      rw [← HG.out, Bool.eq_iff_iff]
      first
        | (simp only [List.take_zero, List.all_nil, Bool.and_true, decide_eq_true_eq]; omega)
        | (simp; omega)
    case round =>
      obtain ⟨q, rfl, hq, rfl, hd⟩ := hrel
      by_cases hlt : q < l.length
      · obtain ⟨b, o, x, e, hx, hcell⟩ := (hRb.below (hd.below _)).one hlt
        cases e
        rw [Nat.zero_add] at hcell
        have hst : (g && (l.take (q + 1)).all nmc) = ((g && (l.take q).all nmc) && nmc x) := by rw [all_take nmc _ hx.out, Bool.and_assoc]
        have HST := Lib.hid hst
        clear hst
        rcases Bool.eq_false_or_eq_true (g && (l.take q).all nmc) with hG | hG
        · rw [hG] at HST ⊢
          have hx2 : (nmc x = true ∧ (32 : Int) < (x.toNat : Int) ∧ (x.toNat : Int) ≤ 126 ∧ ((x.toNat : Int) != 58) = true) ∨ (nmc x = false ∧ (¬ (32 : Int) < (x.toNat : Int) ∨ ((32 : Int) < (x.toNat : Int) ∧ ¬ (x.toNat : Int) ≤ 126) ∨ ((32 : Int) < (x.toNat : Int) ∧ (x.toNat : Int) ≤ 126 ∧ ((x.toNat : Int) != 58) = false))) := by
            rcases Bool.eq_false_or_eq_true (nmc x) with h | h
            · have := (nmc_iff x).1 h
              exact .inl ⟨h, by omega, by omega, by rw [bne_iff_ne]; omega⟩
            · refine .inr ⟨h, ?_⟩
              have h' : ¬ nmc x = true := by simp [h]
              rw [nmc_iff] at h'
              rw [bne_eq_false_iff_eq]
              omega
          rcases hx2 with ⟨hn, k1, k2, k3⟩ | ⟨hn, k1 | ⟨k1, k2⟩ | ⟨k1, k2, k3⟩⟩
          all_goals
            rw [hn] at HST
            clear hn
            go_wp2_with fail
            go_roundw
            case rel => exact ⟨q + 1, by go_num, by omega, by rw [HST.out]; rfl, hd⟩
            case measure => simp [intOf]; omega
        · rw [hG] at HST ⊢
          go_wp2_with fail
          go_roundw
          case rel => exact ⟨q + 1, by go_num, by omega, by rw [HST.out]; rfl, hd⟩
          case measure => simp [intOf]; omega
      · obtain rfl : q = l.length := by omega
        have ha : (g && (l.take l.length).all nmc) = nmOk l := by rw [List.take_length, Bool.and_comm]; exact HR.out.symm
        rw [ha]
        clear ha
        go_wp2_with fail
        go_ret
        exact ⟨rfl, hB.trans ((hd.below _).mono hB.size)⟩
end Go.Proofs.YtgohdohkikkeeaaDoor
