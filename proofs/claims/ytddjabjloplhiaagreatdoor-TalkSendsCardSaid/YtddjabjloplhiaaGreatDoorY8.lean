/- The document's Big; the statements' helpers of TalkOrder. -/
import Derived.Test.YtddjabjloplhiaaGreatDoorY7
import Derived.Laws.Bits128
namespace Go.Proofs.YtddjabjloplhiaaGreatDoor
set_option linter.unusedVariables false
set_option linter.unusedSimpArgs false
open Go.RowKit

set_option maxRecDepth 100000 in
set_option maxHeartbeats 1000000 in
theorem rbig_any (l : List UInt8) (w : World) (hl : l.length ≤ 140737488351232) :
    Calls Tryz.prog 35 #[.string (bs l)] w fun e w' => e = .returned (.string (bs (l.map big))) ∧ Below w.heap.size w w' := by
  have hpu : ∀ W, Sem.run Tryz.prog (pure #[] : Sem (Array Value)) W = .ok #[] W := fun _ => rfl
  have hst : ∀ a W, Sem.run Tryz.prog (storeCells a []) W = .ok () W := fun _ _ => rfl
  have hB0 : Below w.heap.size w (w.alloc (.cells #[] 5)) := (Below.refl _ _).alloc (Nat.le_refl _) _
  have hown0 := World.ownsRow_made (base := w.heap.size) (e := 5) (size := 1) w #[] 0 (Nat.le_refl _) (by unfold maxLen; omega) rfl
  go_enter Tryz.func35, Tryz.ntmps35
  go_wp2_with fail
  clear hpu hst
  go_loopw [3, 4] (fun v i wr => ∃ q : Nat, i = .int .i64 q ∧ q ≤ l.length ∧ wr.ownsRow w.heap.size 5 1 v q (((l.take q).map big).map bv) ∧ Below w.heap.size w wr) (fun _ i _ => l.length - (intOf i).toNat)
  case atStart => exact ⟨0, rfl, by omega, hown0, hB0⟩
  case round =>
    clear hown0 hB0
    obtain ⟨q, rfl, hq, hown, hB⟩ := hrel
    have hs1 := hB.size
    by_cases hlt : q < l.length
    · obtain ⟨c, hc⟩ : ∃ c, l[q]? = some c := ⟨_, List.getElem?_eq_getElem hlt⟩
      have hi := str_index (P := Tryz.prog) Tryz.underlying9 hc .i64
      have hst : ((l.take (q + 1)).map big).map bv = ((l.take q).map big).map bv ++ [bv (big c)] := by
        rw [take_succ_of hc]
        simp
      by_cases h : 97 ≤ c.toNat ∧ c.toNat ≤ 122
      · obtain ⟨h1, h2⟩ := h
        have k1 : (97 : Int) ≤ (c.toNat : Int) := by omega
        have k2 : (c.toNat : Int) ≤ 122 := by omega
        have hbv : bv (big c) = .int .u8 ((c.toNat : Int) - 32) := by unfold bv; rw [big_nat, if_pos ⟨h1, h2⟩]; congr 1; omega
        rw [hbv] at hst
        have HST := Lib.hid hst
        clear hst hbv h1 h2 hc
        go_wp2_with (at_builtin; refine wpList_app rfl (.tmp 24) (.tmp 26) _ _ rfl TU8 (hown.alloc (.cells #[.int .u8 ((c.toNat : Int) - 32)] 5)) rfl (Src_rv (news := [.int .u8 ((c.toNat : Int) - 32)]) Tryz.underlying22 rfl (Rv_new wr _ _ _ rfl) (by simp [Value.oneCell', bv]) (by omega)) rfl (by omega) (by simp; omega) ?_; intro v1 y1 own1 gr1 at1; have bb1 := below_app (hB.alloc hs1 (.cells #[.int .u8 ((c.toNat : Int) - 32)] 5)) (hown.alloc _) gr1 (by simp; omega) (Nat.le_refl _); have bb1s := bb1.size)
        go_roundw
        case rel => exact ⟨q + 1, by go_num, by omega, by rw [HST.out]; exact own1, bb1⟩
        case measure => simp [intOf]; omega
      · have hbv : big c = c := by unfold big; rw [if_neg h]
        rw [hbv] at hst
        have HST := Lib.hid hst
        have k : ¬ (97 : Int) ≤ (c.toNat : Int) ∨ ((97 : Int) ≤ (c.toNat : Int) ∧ ¬ (c.toNat : Int) ≤ 122) := by omega
        clear hst hbv h hc
        rcases k with k1 | ⟨k1, k2⟩
        all_goals
          go_wp2_with (at_builtin; refine wpList_app rfl (.tmp 24) (.tmp 26) _ _ rfl TU8 (hown.alloc (.cells #[bv c] 5)) rfl (Src_rv (news := [bv c]) Tryz.underlying22 rfl (Rv_new wr _ _ _ rfl) (by simp [Value.oneCell', bv]) (by omega)) rfl (by omega) (by simp; omega) ?_; intro v1 y1 own1 gr1 at1; have bb1 := below_app (hB.alloc hs1 (.cells #[bv c] 5)) (hown.alloc _) gr1 (by simp; omega) (Nat.le_refl _); have bb1s := bb1.size)
          go_roundw
          case rel => exact ⟨q + 1, by go_num, by omega, by rw [HST.out]; exact own1, bb1⟩
          case measure => simp [intOf]; omega
    · obtain rfl : q = l.length := by omega
      rw [List.take_length] at hown
      obtain ⟨A, ca, rfl, hca, hcm, hRb, hol⟩ := own_slice hown
      have hcs := conv_str (P := Tryz.prog) (src := 22) (dst := 9) (c := ca) (n := l.length) Tryz.underlying22 Tryz.underlying5 Tryz.underlying9 hRb hol
      clear hown hRb hol
      go_wp2_with fail
      go_ret
      exact ⟨rfl, hB⟩
theorem i64_and3 (n : Int) : bits .and .i64 n 3 = n % 4 := by
  have h3 : (BitVec.ofInt 64 3).toNat = 2 ^ 2 - 1 := by decide
  have key : (BitVec.ofInt 64 n &&& BitVec.ofInt 64 3).toNat = (n % ((2 ^ 64 : Nat) : Int)).toNat % 2 ^ 2 := by
    rw [BitVec.toNat_and, BitVec.toNat_ofInt, h3, Nat.and_two_pow_sub_one_eq_mod]
  show IntKind.i64.wrap ((BitVec.ofInt 64 n &&& BitVec.ofInt 64 3).toNat : Nat) = n % 4
  rw [key, IntKind.wrap_i64]
  omega
/-- the words that are left out -/
def skipW : Nat → List UInt8
  | 0 => heloW
  | 1 => mailW
  | 2 => rcptW
  | _ => dataW
theorem cmd_skip {m : Nat} (hm : m ≤ 3) {s : Ps} (hs : s.st ≤ m) (ht : s.tos.length ≤ 10) {line : List UInt8} (h : aft line (skipW m) = none) : ((cmd s line).2.st = 5 ∨ (cmd s line).2.st ≤ m) ∧ (cmd s line).2.tos.length ≤ 10 := by
  obtain rfl | rfl | rfl | rfl : m = 0 ∨ m = 1 ∨ m = 2 ∨ m = 3 := by omega
  all_goals
    simp only [skipW] at h
    unfold cmd cmd2
    repeat' split
    all_goals first
      | (exfalso; simp_all; done)
      | (refine ⟨?_, ?_⟩ <;> simp <;> omega)
theorem cutE_clean : ∀ {line : List UInt8}, (∀ c ∈ line, c ≠ 13 ∧ c ≠ 10) → cutE (line ++ [13, 10]) = some (line, [])
  | [], _ => rfl
  | c :: r, h => by
    have ih := cutE_clean (line := r) fun x hx => h x (by simp [hx])
    have hc := (h c (by simp)).1
    rw [List.cons_append]
    unfold cutE
    rw [if_neg, ih]
    · rfl
    · intro hp
      obtain ⟨t, ht⟩ := List.isPrefixOf_iff_prefix.1 hp
      simp only [List.cons_append, List.nil_append, List.cons.injEq] at ht
      exact hc ht.1.symm
end Go.Proofs.YtddjabjloplhiaaGreatDoor
