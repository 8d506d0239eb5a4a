/- The document's bytes as digits. -/
import Derived.Test.YtleolfpgiaimfaaDoorDN
namespace Go.Proofs.YtleolfpgiaimfaaDoor
set_option linter.unusedVariables false
set_option linter.unusedSimpArgs false
open Go.RowKit Go.Shelf

set_option maxRecDepth 100000 in
set_option maxHeartbeats 1000000 in
theorem rhex_any (A : Option Addr) (b : List UInt8) (n c : Nat) (w : World) (hn : b.length = n) (hA : Rb w A b) (hb : n ≤ 1000000) :
    Calls Tryd.prog 15 #[.slice A n c] w fun e w' => e = .returned (.string (bs (hexL b))) ∧ Below w.heap.size w w' := by
  have HN := Lib.hid hn
  clear hn
  have hown0 := World.ownsRow_made (base := w.heap.size) (e := 5) (size := 1) w #[] 0 (Nat.le_refl _) (by unfold maxLen; omega) rfl
  have hpu : ∀ W, Sem.run Tryd.prog (pure #[] : Sem (Array Value)) W = .ok #[] W := fun _ => rfl
  have hB0 : Below w.heap.size w (w.alloc (.cells #[] 5)) := (Below.refl _ w).alloc (Nat.le_refl _) _
  go_enter Tryd.func15, Tryd.ntmps15
  go_wp2_with fail
  go_loopw [3, 4] (fun v i wr => ∃ k : Nat, i = .int .i64 k ∧ k ≤ n ∧ wr.ownsRow w.heap.size 5 1 v (2 * k) ((hexP (b.take k)).map bv) ∧ Below w.heap.size w wr) (fun _ i _ => n - (intOf i).toNat)
  case atStart => exact ⟨0, rfl, by omega, by simpa [hexP] using hown0, hB0⟩
  case round =>
    obtain ⟨k, rfl, hk, hown, hB⟩ := hrel
    have hownk := hown
    obtain ⟨Ao, co, rfl, hco, hcm, hRo, hlo⟩ := own_form hown
    by_cases hlt : k < n
    · obtain ⟨bl, o, x, rfl, hx, hc⟩ := (hA.below hB).one (k := k) (by rw [HN.out]; exact hlt)
      have hl1 : 0 ≤ (x.toNat : Int) / 16 := by omega
      have hl2 : (x.toNat : Int) / 16 < 16 := by have := x.toNat_lt; omega
      have hl3 : 0 ≤ (x.toNat : Int) % 16 := by omega
      have hl4 : (x.toNat : Int) % 16 < 16 := by omega
      have hl5 := u8_ge x
      have hl6 := u8_lt x
      obtain ⟨d1, hd1⟩ : ∃ d1 : UInt8, (⟨#[48, 49, 50, 51, 52, 53, 54, 55, 56, 57, 97, 98, 99, 100, 101, 102]⟩ : ByteArray)[((x.toNat : Int) / 16).toNat]'(show ((x.toNat : Int) / 16).toNat < 16 by omega) = d1 := ⟨_, rfl⟩
      obtain ⟨d2, hd2⟩ : ∃ d2 : UInt8, (⟨#[48, 49, 50, 51, 52, 53, 54, 55, 56, 57, 97, 98, 99, 100, 101, 102]⟩ : ByteArray)[((x.toNat : Int) % 16).toNat]'(show ((x.toNat : Int) % 16).toNat < 16 by omega) = d2 := ⟨_, rfl⟩
      have HTK : Hid (hexP (b.take (k + 1)) = hexP (b.take k) ++ [d1, d2]) := Lib.hid (by
        rw [take_succ_of hx.out, hexP_snoc, ← hd1, ← hd2, dgs_at (x.toNat / 16) _ (by omega) (by have := x.toNat_lt; omega), dgs_at (x.toNat % 16) _ (by omega) (by omega)])
      clear hx hown0 hpu
      have hoA : (wr.drew.alloc (.cells #[bv d1, bv d2] 5)).ownsRow w.heap.size 5 1 (.slice Ao (2 * k) co) (2 * k) ((hexP (b.take k)).map bv) := World.ownsRow.alloc (w := wr.drew) hownk _
      have hsA : Src Tryd.prog 1 22 (.slice (some ⟨wr.heap.size, 0, none⟩) 2 2) 2 [bv d1, bv d2] (wr.drew.alloc (.cells #[bv d1, bv d2] 5)) := Src_rv (news := [bv d1, bv d2]) Tryd.underlying22 rfl (Rv_new wr.drew _ _ _ rfl) (by simp [Value.oneCell', bv]) (by omega)
      have hbA : (2 * k + 2) * 1 ≤ 140737488355328 := by omega
      have hzA : w.heap.size ≤ (wr.drew.alloc (.cells #[bv d1, bv d2] 5)).heap.size := by have := hB.size; simp; omega
      have hBA : Below w.heap.size w (wr.drew.alloc (.cells #[bv d1, bv d2] 5)) := hB.drew.alloc (by have := hB.size; simp; omega) _
      have hw1 : IntKind.u8.wrap ((x.toNat : Int) / 16) = (x.toNat : Int) / 16 := by rw [IntKind.wrap_u8]; omega
      have hw2 : (x.toNat : Int).tmod 16 = (x.toNat : Int) % 16 := Int.tmod_eq_emod_of_nonneg (by omega)
      go_upto_region 5 with fail
      go_region_law (refine step_app rfl (.tmp 12) (.tmp 25) _ _ rfl TU8 hoA (by simp [Act.eval, Act.put]) hsA (by simp [Act.eval, Act.put]) hbA hzA ?_; intro v2 w2 own2 gr2 at2; have B2 := below_app hBA hoA gr2 hzA (Nat.le_refl _))
      all_goals
        clear hw1 hw2
        go_wp2_with fail
        go_roundw
        case rel => exact ⟨k + 1, by go_num, by omega, by rw [HTK.out, List.map_append]; exact own2, B2⟩
        case measure => simp [intOf]; omega
    · obtain rfl : k = n := by omega
      have hall : b.take k = b := take_all b (by rw [HN.out]; omega)
      rw [hall] at hRo
      have hcv := conv_str (P := Tryd.prog) (src := 22) (dst := 9) (e := 5) Tryd.underlying22 Tryd.underlying5 Tryd.underlying9 (n := 2 * k) (c := co) (show Rb wr Ao (hexP b) from hRo) (by rw [hexP_len, HN.out])
      rcases Nat.eq_zero_or_pos k with rfl | h0
      · have hb0 : b = [] := List.eq_nil_of_length_eq_zero HN.out
        subst hb0
        clear hall hown hownk hRo hlo hown0 hlt hcv
        go_wp2_with fail
        go_ret
        exact ⟨rfl, hB⟩
      · have HX : Hid (hexL b = hexP b) := Lib.hid (by
          unfold hexL
          rw [if_neg]
          intro e
          have := HN.out
          rw [e] at this
          simp at this
          omega)
        have hz : ((2 * (k : Int)) == 0) = false := by rw [beq_eq_false_iff_ne]; omega
        clear hall hown hownk hRo hlo hown0 hlt
        go_wp2_with fail
        go_ret
        exact ⟨ret_str (by rw [HX.out]), hB⟩

end Go.Proofs.YtleolfpgiaimfaaDoor
