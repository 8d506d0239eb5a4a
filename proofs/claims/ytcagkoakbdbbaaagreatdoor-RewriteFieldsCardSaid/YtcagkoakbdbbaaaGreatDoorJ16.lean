/- The program's fold: a field folded anew. · The program's rest: what is left of a number, from 0 on. · The program's marked: does a line begin with two dashes? · Plain: a mail that is read has all its bytes; each field begins without a blank, but the first. -/
import Derived.Test.YtcagkoakbdbbaaaGreatDoorJ15
namespace Go.Proofs.YtcagkoakbdbbaaaGreatDoor
set_option linter.unusedVariables false
set_option linter.unusedSimpArgs false
open Go.RowKit

theorem ibG_any (A : Option Addr) (l : List UInt8) (n c : Nat) (s : UInt8) (w : World) (hn : l.length = n) (hA : Rb w A l) (hpl : Pl A c) (hnc : n ≤ c) :
    Calls Tryz.prog 69 #[.slice A n c, .int .u8 (s.toNat : Int)] w fun e w' => e = .returned (.int .i64 (Lib.indexByte l s)) ∧ w = w' := by
  rcases hpl with ⟨rfl, rfl⟩ | ⟨b, o, rfl⟩
  · have h0 : l = [] := List.eq_nil_of_length_eq_zero (by omega)
    subst h0
    obtain rfl : n = 0 := by simpa using hn.symm
    refine (Tryz.bytes_IndexByte_nil (s.toNat : Int) w).mono ?_
    rintro e w' ⟨rfl, h⟩
    exact ⟨rfl, h.symm⟩
  · exact ibL_any b o l n c s w hn hA
/-- is there a fold ahead of this sign? -/
def isFold (z : Int) (b : List UInt8) (i : Nat) : Bool := decide (0 ≤ z) && decide (z + 1 < (i : Int)) && blankB (b.getD i 0) && !blankB (b.getD (i - 1) 0)
/-- behind i signs: how many folds may have been, and what has been made -/
def foldS (m : Int) (z : Int) (b : List UInt8) : Nat → Nat × List UInt8
  | 0 => (0, [])
  | i + 1 => if isFold z b i then ((foldS m z b i).1 + 1, (foldS m z b i).2 ++ (if bitM m (foldS m z b i).1 then [13, 10, b.getD i 0] else [b.getD i 0])) else ((foldS m z b i).1, (foldS m z b i).2 ++ [b.getD i 0])
def foldL (m : Int) (f : List UInt8) : List UInt8 := (foldS m (Lib.indexByte (flatT (fl f)) 58) (flatT (fl f)) (flatT (fl f)).length).2 ++ lastT (fl f)
theorem foldS_len (m z : Int) (b : List UInt8) (i : Nat) : (foldS m z b i).2.length ≤ 3 * i ∧ (foldS m z b i).1 ≤ i := by
  induction i with
  | zero => simp [foldS]
  | succ i ih =>
    unfold foldS
    split
    · split <;> simp <;> omega
    · simp; omega

set_option maxRecDepth 100000 in
set_option maxHeartbeats 2000000 in
theorem fold_any (b0 o0 : Nat) (f : List UInt8) (n c : Nat) (m : Int) (w : World) (hn : f.length = n) (hA : Rb w (some ⟨b0, o0, none⟩) f) (hnc : n ≤ c) (hb : n ≤ 1000000) :
    Calls Tryz.prog 38 #[.slice (some ⟨b0, o0, none⟩) n c, .int .i64 m] w fun e w' => (∃ v, e = .returned v ∧ w'.ownsRow w.heap.size 5 1 v (foldL m f).length ((foldL m f).map bv)) ∧ Below w.heap.size w w' := by
  have hfl := flat_any b0 o0 f n c w hn hA hnc hb
  obtain ⟨b, hb9⟩ : ∃ b, flatT (fl f) = b := ⟨_, rfl⟩
  have hbn : b.length ≤ n := by
    have h := flatT_len (fl f)
    rw [fl_flat, hn, hb9] at h
    exact h
  have HBB := Lib.hid hb9
  rw [hb9] at hfl
  obtain ⟨la, hla⟩ : ∃ la, lastT (fl f) = la := ⟨_, rfl⟩
  have HLA := Lib.hid hla
  rw [hla] at hfl
  have hlan : la.length ≤ n := by
    rw [← hla]
    unfold lastT
    cases hq : (fl f).getLast? with
    | none => simp
    | some l =>
      have h1 := List.Sublist.length_le (List.sublist_flatten_of_mem (List.mem_of_getLast? hq))
      rw [fl_flat, hn] at h1
      simp
      omega
  have HN := Lib.hid hn
  clear hn hb9 hla
  go_enter Tryz.func38, Tryz.ntmps38
  go_wp2_with fail
  refine hfl.mono ?_
  rintro e w1 ⟨⟨v, A3, c3, rfl, hov, hlast, hc3⟩, hb1⟩
  obtain ⟨A2, c2, hv, h1c, _, hR, hA2n, hA2⟩ : ∃ A2 c2, v = .slice A2 b.length c2 ∧ b.length ≤ c2 ∧ c2 ≤ maxLen ∧ Rb w1 A2 b ∧ True ∧ Pl A2 c2 := by
    obtain ⟨A2, c2, e2, h1, h2, h3, h4⟩ := BOut.own hov
    exact ⟨A2, c2, by injection e2, h1, h2, h3, trivial, h4⟩
  subst hv
  obtain ⟨nb', hnb⟩ : ∃ k, b.length = k := ⟨_, rfl⟩
  have HNB := Lib.hid hnb
  rw [hnb] at h1c hbn ⊢
  obtain ⟨ln, hln⟩ : ∃ ln, la.length = ln := ⟨_, rfl⟩
  have HLN := Lib.hid hln
  rw [hln] at hc3 hlan ⊢
  have hib := ibG_any A2 b nb' c2 58 w1 hnb hR hA2 h1c
  obtain ⟨z, hz⟩ : ∃ z, Lib.indexByte b 58 = z := ⟨_, rfl⟩
  have HZ := Lib.hid hz
  have hz1 : -1 ≤ z := by rw [← hz]; exact Lib.indexByte_ge b 58
  have hz2 : z ≤ 1000000 := by
    rcases idxL_cases b 58 with ⟨h, _⟩ | ⟨k, h, hk, _⟩
    · omega
    · have := lt_of_get hk; omega
  rw [hz] at hib
  clear hz hnb hln hov hfl
  go_wp2_with fail
  refine hib.mono ?_
  rintro e w2 ⟨rfl, rfl⟩
  go_wp2_with fail
  go_loopw [4, 8, 20] (fun s4 s8 s20 wr => ∃ (i k q : Nat) (out : List UInt8), s20 = .int .i64 i ∧ s8 = .int .i64 k ∧ i ≤ nb' ∧ k ≤ i ∧ q ≤ 3 * i ∧ Hid (foldS m z b i = (k, out) ∧ out.length = q) ∧ Hid (wr.ownsRow w1.heap.size 5 1 s4 q (out.map bv)) ∧ Below w1.heap.size w1 wr) (fun _ _ s20 _ => nb' - (intOf s20).toNat)
  case atStart => exact ⟨0, 0, 0, [], rfl, rfl, by omega, by omega, by omega, Lib.hid ⟨rfl, rfl⟩, Lib.hid (World.ownsRow_nil _ _ _ _), Below.refl _ _⟩
  case round =>
    rename_i s4 s8
    obtain ⟨i, k, q, out, rfl, rfl, hi, hk, hq, HG, HO, hB⟩ := hrel
    obtain ⟨Av, cv, hv, _, _, _, _⟩ := own_form HO.out
    subst hv
    have hsz := hB.size
    by_cases hlt : i < nb'
    · obtain ⟨b2, o2, x, rfl, hx, hcx⟩ := (hR.below hB).one (k := i) (by rw [HNB.out]; exact hlt)
      have hgx : b.getD i 0 = x := by rw [List.getD_eq_getElem?_getD, hx.out]; rfl
      have hO := HO.out.alloc (.cells #[.int .u8 (x.toNat : Int)] 5)
      have hbA : Below w1.heap.size w1 (wr.alloc (.cells #[.int .u8 (x.toNat : Int)] 5)) := hB.alloc hsz _
      have hno : isFold z b i = false → Hid (foldS m z b (i + 1) = (k, out ++ [x]) ∧ (out ++ [x]).length = q + 1) := fun h => Lib.hid ⟨by rw [foldS, h, HG.out.1, hgx]; rfl, by rw [List.length_append, HG.out.2]; rfl⟩
      have hbx := blank_any x
      by_cases h0 : 0 ≤ z
      · by_cases h1 : z + 1 < (i : Int)
        · cases hbk : blankB x with
          | false =>
            have HS := hno (by unfold isFold; rw [hgx, hbk]; simp)
            rw [hbk] at hbx
            clear hno hx hgx hbk
            go_wp2_with fail
            refine (hbx _).mono ?_
            rintro e w3 ⟨rfl, rfl⟩
            go_wp2_with (at_builtin; refine wpList_app rfl (.tmp 56) (.tmp 58) _ _ rfl TU8 hO rfl (Src_rv (news := [bv x]) Tryz.underlying22 rfl (Rv_new w3 _ _ _ rfl) (by simp [Value.oneCell', bv]) (by omega)) rfl (by omega) (by simp; omega) ?_; intro v4 w4 hown4 hgr4 hat4; obtain ⟨A4, c4, hv4, _, _, _, _⟩ := own_form hown4; subst hv4; have hB4 := below_app hbA hO hgr4 (by simp; omega) (Nat.le_refl _))
            go_roundw
            case rel => exact ⟨i + 1, k, q + 1, out ++ [x], by go_num, rfl, by omega, by omega, by omega, HS, Lib.hid (by rw [List.map_append]; exact hown4), hB4⟩
            case measure => simp [intOf]; omega
          | true =>
            obtain ⟨j, rfl⟩ : ∃ j, i = j + 1 := ⟨i - 1, by omega⟩
            obtain ⟨_, _, y, e9, hy, hcy⟩ := (hR.below hB).one (k := j) (by rw [HNB.out]; omega)
            cases e9
            have hgy : b.getD (j + 1 - 1) 0 = y := by rw [Nat.add_sub_cancel, List.getD_eq_getElem?_getD, hy.out]; rfl
            have hcy2 : wr.cell? ⟨b2, o2 + j, none⟩ = some (.int .u8 (y.toNat : Int)) := hcy
            have hj1 : (j : Int) + 1 - 1 = (j : Int) := by omega
            have hby := blank_any y
            rw [hbk] at hbx
            have h1' : z + 1 < (j : Int) + 1 := by omega
            cases hyk : blankB y with
            | true =>
              have HS := hno (by unfold isFold; rw [hgy, hyk]; simp)
              rw [hyk] at hby
              clear hno hx hgx hbk hgy hy hyk hcy
              go_wp2_with fail
              refine (hbx _).mono ?_
              rintro e w3 ⟨rfl, rfl⟩
              go_wp2_with fail
              refine (hby _).mono ?_
              rintro e w3' ⟨rfl, rfl⟩
              go_wp2_with (at_builtin; refine wpList_app rfl (.tmp 56) (.tmp 58) _ _ rfl TU8 hO rfl (Src_rv (news := [bv x]) Tryz.underlying22 rfl (Rv_new w3' _ _ _ rfl) (by simp [Value.oneCell', bv]) (by omega)) rfl (by omega) (by simp; omega) ?_; intro v4 w4 hown4 hgr4 hat4; obtain ⟨A4, c4, hv4, _, _, _, _⟩ := own_form hown4; subst hv4; have hB4 := below_app hbA hO hgr4 (by simp; omega) (Nat.le_refl _))
              go_roundw
              case rel => exact ⟨j + 1 + 1, k, q + 1, out ++ [x], by go_num, rfl, by omega, by omega, by omega, HS, Lib.hid (by rw [List.map_append]; exact hown4), hB4⟩
              case measure => simp [intOf]; omega
            | false =>
              have hyes : isFold z b (j + 1) = true := by
                unfold isFold
                rw [hgx, hgy, hbk, hyk]
                simp only [Bool.and_eq_true, decide_eq_true_eq, Bool.not_false, and_true]
                exact ⟨h0, by simpa using h1⟩
              rw [hyk] at hby
              cases hbit : bitM m k with
              | true =>
                have HS : Hid (foldS m z b (j + 1 + 1) = (k + 1, out ++ [13, 10] ++ [x]) ∧ (out ++ [13, 10] ++ [x]).length = q + 2 + 1) := Lib.hid ⟨by rw [foldS, hyes, HG.out.1, hgx, hbit]; simp, by have := HG.out.2; simp; omega⟩
                unfold bitM at hbit
                clear hno hx hgx hbk hgy hy hyk hcy hyes
                go_wp2_with fail
                refine (hbx _).mono ?_
                rintro e w3 ⟨rfl, rfl⟩
                go_wp2_with fail
                refine (hby _).mono ?_
                rintro e w3' ⟨rfl, rfl⟩
                go_wp2_with (first
                  | (at_builtin; refine wpList_app rfl (.tmp 52) _ _ _ rfl TU8 HO.out rfl (Src_str Tryz.underlying9 [13, 10]) rfl (by simp only [List.length_cons, List.length_nil]; omega) hsz ?_; intro v5 w5 hown5 hgr5 hat5; obtain ⟨A5, c5, hv5, _, _, _, _⟩ := own_form hown5; subst hv5; have hB5 := below_app hB HO.out hgr5 hsz (Nat.le_refl _); have hs5 := hB5.size; have hown6 : w5.ownsRow w1.heap.size 5 1 (.slice A5 (q + 2) c5) (q + 2) (out.map bv ++ [13, 10].map bv) := hown5; have hO5 := hown6.alloc (.cells #[.int .u8 (x.toNat : Int)] 5))
                  | (at_builtin; refine wpList_app rfl (.tmp 56) (.tmp 58) _ _ rfl TU8 hO5 rfl (Src_rv (news := [bv x]) Tryz.underlying22 rfl (Rv_new w5 _ _ _ rfl) (by simp [Value.oneCell', bv]) (by omega)) rfl (by omega) (by simp; omega) ?_; intro v4 w4 hown4 hgr4 hat4; obtain ⟨A4, c4, hv4, _, _, _, _⟩ := own_form hown4; subst hv4; have hB4 := below_app (hB5.alloc hs5 (.cells #[.int .u8 (x.toNat : Int)] 5)) hO5 hgr4 (by simp; omega) (Nat.le_refl _)))
                go_roundw
                case rel => exact ⟨j + 1 + 1, k + 1, q + 2 + 1, out ++ [13, 10] ++ [x], by go_num, by go_num, by omega, by omega, by omega, HS, Lib.hid (by rw [List.map_append, List.map_append]; exact hown4), hB4⟩
                case measure => simp [intOf]; omega
              | false =>
                have HS : Hid (foldS m z b (j + 1 + 1) = (k + 1, out ++ [x]) ∧ (out ++ [x]).length = q + 1) := Lib.hid ⟨by rw [foldS, hyes, HG.out.1, hgx, hbit]; rfl, by rw [List.length_append, HG.out.2]; rfl⟩
                unfold bitM at hbit
                clear hno hx hgx hbk hgy hy hyk hcy hyes
                go_wp2_with fail
                refine (hbx _).mono ?_
                rintro e w3 ⟨rfl, rfl⟩
                go_wp2_with fail
                refine (hby _).mono ?_
                rintro e w3' ⟨rfl, rfl⟩
                go_wp2_with (at_builtin; refine wpList_app rfl (.tmp 56) (.tmp 58) _ _ rfl TU8 hO rfl (Src_rv (news := [bv x]) Tryz.underlying22 rfl (Rv_new w3' _ _ _ rfl) (by simp [Value.oneCell', bv]) (by omega)) rfl (by omega) (by simp; omega) ?_; intro v4 w4 hown4 hgr4 hat4; obtain ⟨A4, c4, hv4, _, _, _, _⟩ := own_form hown4; subst hv4; have hB4 := below_app hbA hO hgr4 (by simp; omega) (Nat.le_refl _))
                go_roundw
                case rel => exact ⟨j + 1 + 1, k + 1, q + 1, out ++ [x], by go_num, by go_num, by omega, by omega, by omega, HS, Lib.hid (by rw [List.map_append]; exact hown4), hB4⟩
                case measure => simp [intOf]; omega
        · have h2 : (i : Int) ≤ z + 1 := by omega
          have HS := hno (by unfold isFold; simp [h1])
          clear hno hx hgx hbx
          go_wp2_with (at_builtin; refine wpList_app rfl (.tmp 56) (.tmp 58) _ _ rfl TU8 hO rfl (Src_rv (news := [bv x]) Tryz.underlying22 rfl (Rv_new wr _ _ _ rfl) (by simp [Value.oneCell', bv]) (by omega)) rfl (by omega) (by simp; omega) ?_; intro v4 w4 hown4 hgr4 hat4; obtain ⟨A4, c4, hv4, _, _, _, _⟩ := own_form hown4; subst hv4; have hB4 := below_app hbA hO hgr4 (by simp; omega) (Nat.le_refl _))
          go_roundw
          case rel => exact ⟨i + 1, k, q + 1, out ++ [x], by go_num, rfl, by omega, by omega, by omega, HS, Lib.hid (by rw [List.map_append]; exact hown4), hB4⟩
          case measure => simp [intOf]; omega
      · have h2 : z < 0 := by omega
        have HS := hno (by unfold isFold; simp [h0])
        clear hno hx hgx hbx
        go_wp2_with (at_builtin; refine wpList_app rfl (.tmp 56) (.tmp 58) _ _ rfl TU8 hO rfl (Src_rv (news := [bv x]) Tryz.underlying22 rfl (Rv_new wr _ _ _ rfl) (by simp [Value.oneCell', bv]) (by omega)) rfl (by omega) (by simp; omega) ?_; intro v4 w4 hown4 hgr4 hat4; obtain ⟨A4, c4, hv4, _, _, _, _⟩ := own_form hown4; subst hv4; have hB4 := below_app hbA hO hgr4 (by simp; omega) (Nat.le_refl _))
        go_roundw
        case rel => exact ⟨i + 1, k, q + 1, out ++ [x], by go_num, rfl, by omega, by omega, by omega, HS, Lib.hid (by rw [List.map_append]; exact hown4), hB4⟩
        case measure => simp [intOf]; omega
    · obtain rfl : i = nb' := by omega
      have hBw : Below w.heap.size w wr := hb1.trans (hB.mono hb1.size)
      have HF : Hid (foldL m f = out ++ la) := Lib.hid (by
        unfold foldL
        rw [HBB.out, HLA.out, HZ.out, HNB.out, HG.out.1])
      go_wp2_with (at_builtin; refine wpList_app rfl (.tmp 61) (.tmp 62) _ _ rfl TU8 HO.out rfl (Src_rb Tryz.underlying22 HLN.out (hlast wr hBw)) rfl (by omega) hsz ?_; intro v4 w4 hown4 hgr4 hat4; have hB4 := below_app hB HO.out hgr4 hsz (Nat.le_refl _))
      go_ret
      refine ⟨⟨_, rfl, ?_⟩, hb1.trans (hB4.mono hb1.size)⟩
      rw [HF.out, List.length_append, HG.out.2, HLN.out, List.map_append]
      exact own_base hown4 hb1.size
end Go.Proofs.YtcagkoakbdbbaaaGreatDoor

namespace Go.Proofs.YtcagkoakbdbbaaaGreatDoor
set_option linter.unusedVariables false
set_option linter.unusedSimpArgs false
open Go.RowKit

theorem rest_eq (z : Int) (p : Nat) (hp : 0 < p) : (z.tmod p + p).tmod p = z % (p : Int) := by
  have h1 : 0 ≤ z.tmod p + p := by
    have := Int.lt_tmod_of_pos z (by omega : (0 : Int) < p)
    omega
  have e : z.tmod p + p = z + p * (1 - z.tdiv p) := by
    rw [Int.tmod_def, Int.mul_sub, Int.mul_one]
    omega
  rw [Int.tmod_eq_emod_of_nonneg h1, e, Int.add_mul_emod_self_left]
theorem rest_any (z : Int) (p : Nat) (w : World) (hp : 0 < p) (hb : p ≤ 1000000) (hz : -9223372036854775808 ≤ z ∧ z ≤ 9223372036854775807) :
    Calls Tryz.prog 20 #[.int .i64 z, .int .i64 (p : Int)] w fun e w' => e = .returned (.int .i64 (z % (p : Int))) ∧ w' = w := by
  have hp0 : ((p : Int) == 0) = false := by rw [beq_eq_false_iff_ne]; omega
  have hp1 : (0 : Int) < (p : Int) := by omega
  have h1 := Int.lt_tmod_of_pos z hp1
  have h2 := Int.tmod_lt_of_pos z hp1
  have h3 := rest_eq z p hp
  go_enter Tryz.func20, Tryz.ntmps20
  go_wp2_with fail
  go_ret
  exact ⟨rfl, rfl⟩
end Go.Proofs.YtcagkoakbdbbaaaGreatDoor

namespace Go.Proofs.YtcagkoakbdbbaaaGreatDoor
set_option linter.unusedVariables false
set_option linter.unusedSimpArgs false
open Go.RowKit

theorem marked_any (A : Option Addr) (l : List UInt8) (n c : Nat) (w : World) (hn : l.length = n) (hA : Rb w A l) (hnc : n ≤ c) :
    Calls Tryz.prog 76 #[.slice A n c] w fun e w' => e = .returned (.bool (Lib.hasPrefix l [45, 45])) ∧ Below w.heap.size w w' := by
  have hcv := Lib.run_convert_bytes_const (P := Tryz.prog) w 22 5 #[.int .u8 45, .int .u8 45] 2 2 Tryz.underlying22 Tryz.underlying5
  have hb1 := mark_below w #[.int .u8 45, .int .u8 45] 5 (2, 3)
  have hx1 : Rb (w.alloc (.cells #[.int .u8 45, .int .u8 45] 5 (2, 3))) (some ⟨w.heap.size, 0, none⟩) [45, 45] := Rb_new w [45, 45] _ _ rfl 2 (2, 3)
  have h : Calls Tryz.prog 97 #[.slice A n c, .slice (some ⟨w.heap.size, 0, none⟩) 2 2] (w.alloc (.cells #[.int .u8 45, .int .u8 45] 5 (2, 3))) fun e w' => e = .returned (.bool (Lib.hasPrefix l [45, 45])) ∧ w' = w.alloc (.cells #[.int .u8 45, .int .u8 45] 5 (2, 3)) := by
    subst hn
    have h := Tryz.bytes_HasPrefix_all A (some ⟨w.heap.size, 0, none⟩) l.length c 2 2 (nums l) (nums [45, 45]) _ (nums_len l) rfl hnc (bytesIn_of (hA.below hb1)) (bytesIn_of hx1)
    rw [bytesOf_nums, bytesOf_nums] at h
    exact h
  obtain ⟨q, hq⟩ : ∃ q, Lib.hasPrefix l [45, 45] = q := ⟨_, rfl⟩
  rw [hq] at h ⊢
  clear hn hq hx1
  go_enter Tryz.func76, Tryz.ntmps76
  go_wp2_with fail
  refine h.mono ?_
  rintro e w1 ⟨rfl, rfl⟩
  go_wp2_with fail
  go_ret
  exact ⟨rfl, hb1⟩
end Go.Proofs.YtcagkoakbdbbaaaGreatDoor

namespace Go.Proofs.YtcagkoakbdbbaaaGreatDoor
set_option linter.unusedVariables false
set_option linter.unusedSimpArgs false
open Go.RowKit

theorem readG_flat : ∀ (ls fs : List (List UInt8)) {fs' : List (List UInt8)} {en bd : List UInt8}, readG fs ls = some (fs', en, bd) → fs'.flatten ++ en ++ bd = fs.flatten ++ ls.flatten
  | [], _, _, _, _, h => by cases h
  | l :: r, fs, fs', en, bd, h => by
    unfold readG at h
    by_cases h1 : textL l = []
    · rw [if_pos h1] at h
      cases h
      simp
    · rw [if_neg h1] at h
      by_cases h2 : blank1 l = true ∧ fs ≠ []
      · rw [if_pos h2] at h
        rw [readG_flat r _ h, jl_flat l h2.2]
        simp
      · rw [if_neg h2] at h
        rw [readG_flat r _ h]
        simp
/-- what has been read is the bytes again -/
theorem read_bytes {b : List UInt8} {fs : List (List UInt8)} {en bd : List UInt8} (h : readG [] (fl b) = some (fs, en, bd)) : fs.flatten ++ en ++ bd = b := by
  rw [readG_flat _ _ h, fl_flat]
  rfl
/-- each field has a sign -/
theorem readG_ne : ∀ (ls fs : List (List UInt8)) {fs' : List (List UInt8)} {en bd : List UInt8}, readG fs ls = some (fs', en, bd) → (∀ l ∈ ls, l ≠ []) → (∀ f ∈ fs, f ≠ []) → (∀ f ∈ fs', f ≠ []) ∧ en ≠ [] ∧ textL en = []
  | [], _, _, _, _, h, _, _ => by cases h
  | l :: r, fs, fs', en, bd, h, hl, hf => by
    have hr : ∀ l ∈ r, l ≠ [] := fun x hx => hl x (List.mem_cons_of_mem _ hx)
    unfold readG at h
    by_cases h1 : textL l = []
    · rw [if_pos h1] at h
      cases h
      exact ⟨hf, hl _ List.mem_cons_self, h1⟩
    · rw [if_neg h1] at h
      by_cases h2 : blank1 l = true ∧ fs ≠ []
      · rw [if_pos h2] at h
        refine readG_ne r _ h hr fun f hm => ?_
        rcases List.mem_append.1 hm with hm | hm
        · exact hf f (List.dropLast_subset _ hm)
        · obtain rfl : f = fs.getLast?.getD [] ++ l := by simpa using hm
          intro e
          exact hl l List.mem_cons_self (List.append_eq_nil_iff.1 e).2
      · rw [if_neg h2] at h
        refine readG_ne r _ h hr fun f hm => ?_
        rcases List.mem_append.1 hm with hm | hm
        · exact hf f hm
        · obtain rfl : f = l := by simpa using hm
          exact hl _ List.mem_cons_self
theorem read_ne {b : List UInt8} {fs : List (List UInt8)} {en bd : List UInt8} (h : readG [] (fl b) = some (fs, en, bd)) : (∀ f ∈ fs, f ≠ []) ∧ en ≠ [] ∧ textL en = [] :=
  readG_ne _ _ h (fun _ hx => fl_ne hx) (fun _ hx => by cases hx)
end Go.Proofs.YtcagkoakbdbbaaaGreatDoor
