/- The program's full: each LF has a CR ahead. · The program's Apply: lines' ends (kinds 1 and 2); kind 4 at a mail of one field. -/
import Derived.Test.YtcagkoakbdbbaaaGreatDoorJ12
import Derived.Test.YtcagkoakbdbbaaaGreatDoorJ13
import Derived.Test.YtcagkoakbdbbaaaGreatDoorJ20
namespace Go.Proofs.YtcagkoakbdbbaaaGreatDoor
set_option linter.unusedVariables false
set_option linter.unusedSimpArgs false
open Go.RowKit

theorem full_drop {b : List UInt8} {i : Nat} {x : UInt8} (h : b[i]? = some x) (last : UInt8) : fullL last (b.drop i) = (if x = 10 ∧ last ≠ 13 then [13, x] else [x]) ++ fullL x (b.drop (i + 1)) := by
  obtain ⟨h2, h3⟩ := List.getElem?_eq_some_iff.1 h
  rw [List.drop_eq_getElem_cons h2, h3, fullL]

set_option maxRecDepth 100000 in
set_option maxHeartbeats 1000000 in
theorem full_any (A : Option Addr) (b : List UInt8) (n c : Nat) (w : World) (hn : b.length = n) (hA : Rb w A b) (hb : n ≤ 1000000000) :
    Calls Tryz.prog 17 #[.slice A n c] w fun e w' => (∃ v, e = .returned v ∧ w'.ownsRow w.heap.size 5 1 v (fullL 0 b).length ((fullL 0 b).map bv)) ∧ Below w.heap.size w w' := by
  have HN := Lib.hid hn
  clear hn
  go_enter Tryz.func17, Tryz.ntmps17
  go_wp2_with fail
  go_loopw [2, 3, 8] (fun s2 s3 s8 wr => ∃ (i k : Nat) (last : UInt8) (out : List UInt8), s3 = .int .u8 (last.toNat : Int) ∧ s8 = .int .i64 i ∧ i ≤ n ∧ k ≤ 2 * i ∧ Hid (out.length = k ∧ out ++ fullL last (b.drop i) = fullL 0 b) ∧ Hid (wr.ownsRow w.heap.size 5 1 s2 k (out.map bv)) ∧ Below w.heap.size w wr) (fun _ _ s8 _ => n - (intOf s8).toNat)
  case atStart => exact ⟨0, 0, 0, [], rfl, rfl, by omega, by omega, Lib.hid ⟨rfl, rfl⟩, Lib.hid (World.ownsRow_nil _ _ _ _), Below.refl _ _⟩
  case round =>
    rename_i s2
    obtain ⟨i, k, last, out, rfl, rfl, hi, hk, HG, HO, hB⟩ := hrel
    obtain ⟨Av, cv, hv, _, _, _, _⟩ := own_form HO.out
    subst hv
    have hsz := hB.size
    by_cases hlt : i < n
    · obtain ⟨b0, o0, x, rfl, hx, hcx⟩ := (hA.below hB).one (k := i) (by rw [HN.out]; exact hlt)
      have hst := full_drop hx.out last
      have e10 : ((x.toNat : Int) == 10) = (x == 10) := u8_beq x 10
      have e13 : ((last.toNat : Int) != 13) = (last != 13) := u8_bne last 13
      by_cases hc : x = 10 ∧ last ≠ 13
      · obtain ⟨rfl, hl⟩ := hc
        have q13 : ((last.toNat : Int) != 13) = true := by rw [e13]; simpa using hl
        have HG2 : Hid ((out ++ [13, 10]).length = k + 2 ∧ (out ++ [13, 10]) ++ fullL 10 (b.drop (i + 1)) = fullL 0 b) := Lib.hid ⟨by simp [HG.out.1], by rw [← HG.out.2, hst, if_pos ⟨rfl, hl⟩, List.append_assoc]⟩
        clear e10 e13 hst hl hx
        have hO := HO.out.alloc (.cells #[.int .u8 13] 5)
        have hbA : Below w.heap.size w (wr.alloc (.cells #[.int .u8 13] 5)) := hB.alloc hsz _
        go_wp2_with (first
          | (at_builtin; refine wpList_app rfl (.tmp 18) (.tmp 19) _ _ rfl TU8 hO rfl (Src_rv (news := [bv 13]) Tryz.underlying22 rfl (Rv_new wr _ _ _ rfl) (by simp [Value.oneCell', bv]) (by omega)) rfl (by omega) (by simp; omega) ?_; intro v3 w3 hown3 hgr3 hat3; obtain ⟨A3, c3, hv3, _, _, _, _⟩ := own_form hown3; subst hv3; have hB3 := below_app hbA hO hgr3 (by simp; omega) (Nat.le_refl _); have hO3 := hown3.alloc (.cells #[.int .u8 10] 5); have hs3 := hB3.size)
          | (at_builtin; refine wpList_app rfl (.tmp 21) (.tmp 23) _ _ rfl TU8 hO3 rfl (Src_rv (news := [bv 10]) Tryz.underlying22 rfl (Rv_new w3 _ _ _ rfl) (by simp [Value.oneCell', bv]) (by omega)) rfl (by omega) (by simp; omega) ?_; intro v4 w4 hown4 hgr4 hat4; obtain ⟨A4, c4, hv4, _, _, _, _⟩ := own_form hown4; subst hv4; have hB4 := below_app (hB3.alloc (by omega) (.cells #[.int .u8 10] 5)) hO3 hgr4 (by simp; omega) (Nat.le_refl _)))
        go_roundw
        case rel => exact ⟨i + 1, k + 1 + 1, 10, out ++ [13, 10], rfl, by go_num, by omega, by omega, HG2, Lib.hid (by rw [List.map_append]; simpa using hown4), hB4⟩
        case measure => simp [intOf]; omega
      · have HG2 : Hid ((out ++ [x]).length = k + 1 ∧ (out ++ [x]) ++ fullL x (b.drop (i + 1)) = fullL 0 b) := Lib.hid ⟨by simp [HG.out.1], by rw [← HG.out.2, hst, if_neg hc, List.append_assoc]⟩
        have hO := HO.out.alloc (.cells #[.int .u8 (x.toNat : Int)] 5)
        have hbA : Below w.heap.size w (wr.alloc (.cells #[.int .u8 (x.toNat : Int)] 5)) := hB.alloc hsz _
        by_cases hx10 : x = 10
        · have q10 : ((x.toNat : Int) == 10) = true := by rw [e10, hx10]; rfl
          have q13 : ((last.toNat : Int) != 13) = false := by
            rw [e13]
            have : last = 13 := Classical.byContradiction fun h => hc ⟨hx10, h⟩
            simp [this]
          clear e10 e13 hst hc hx hx10
          go_wp2_with (at_builtin; refine wpList_app rfl (.tmp 21) (.tmp 23) _ _ rfl TU8 hO rfl (Src_rv (news := [bv x]) Tryz.underlying22 rfl (Rv_new wr _ _ _ rfl) (by simp [Value.oneCell', bv]) (by omega)) rfl (by omega) (by simp; omega) ?_; intro v4 w4 hown4 hgr4 hat4; obtain ⟨A4, c4, hv4, _, _, _, _⟩ := own_form hown4; subst hv4; have hB4 := below_app hbA hO hgr4 (by simp; omega) (Nat.le_refl _))
          go_roundw
          case rel => exact ⟨i + 1, k + 1, x, out ++ [x], rfl, by go_num, by omega, by omega, HG2, Lib.hid (by rw [List.map_append]; exact hown4), hB4⟩
          case measure => simp [intOf]; omega
        · have q10 : ((x.toNat : Int) == 10) = false := by rw [e10]; simpa using hx10
          clear e10 e13 hst hc hx hx10
          go_wp2_with (at_builtin; refine wpList_app rfl (.tmp 21) (.tmp 23) _ _ rfl TU8 hO rfl (Src_rv (news := [bv x]) Tryz.underlying22 rfl (Rv_new wr _ _ _ rfl) (by simp [Value.oneCell', bv]) (by omega)) rfl (by omega) (by simp; omega) ?_; intro v4 w4 hown4 hgr4 hat4; obtain ⟨A4, c4, hv4, _, _, _, _⟩ := own_form hown4; subst hv4; have hB4 := below_app hbA hO hgr4 (by simp; omega) (Nat.le_refl _))
          go_roundw
          case rel => exact ⟨i + 1, k + 1, x, out ++ [x], rfl, by go_num, by omega, by omega, HG2, Lib.hid (by rw [List.map_append]; exact hown4), hB4⟩
          case measure => simp [intOf]; omega
    · obtain rfl : i = n := by omega
      have hfin : out = fullL 0 b := by
        rw [← HG.out.2, List.drop_eq_nil_of_le (by rw [HN.out]; exact Nat.le_refl _)]
        simp [fullL]
      have HF := Lib.hid hfin
      clear hfin
      go_wp2_with fail
      go_ret
      exact ⟨⟨_, rfl, by rw [← HF.out, HG.out.1]; exact HO.out⟩, hB⟩
end Go.Proofs.YtcagkoakbdbbaaaGreatDoor

namespace Go.Proofs.YtcagkoakbdbbaaaGreatDoor
set_option linter.unusedVariables false
set_option linter.unusedSimpArgs false
open Go.RowKit

theorem ReadOut.form {w : World} {b : List UInt8} {e : Ending} {w' : World} (h : ReadOut w b e w') : ∃ A0 n0 c0 A1 n1 c1 A2 n2 c2 wh ok, e = .returned (.tuple #[.agg #[.slice A0 n0 c0, .slice A1 n1 c1, .slice A2 n2 c2], .bool wh, .bool ok]) := by
  unfold ReadOut at h
  cases hr : readG [] (fl b) with
  | none => rw [hr] at h; exact ⟨none, 0, 0, none, 0, 0, none, 0, 0, _, _, h⟩
  | some p =>
    obtain ⟨fs, en, bd⟩ := p
    rw [hr] at h
    obtain ⟨fv, Ae, ce, Ab, cb, he, ⟨vs, ho, _⟩, _⟩ := h
    obtain ⟨A0, c0, hv, _⟩ := own_form ho
    subst hv
    exact ⟨_, _, _, _, _, _, _, _, _, _, _, he⟩

set_option maxRecDepth 100000 in
set_option maxHeartbeats 1000000 in
theorem apply_bare (A : Option Addr) (b : List UInt8) (n c : Nat) (N M : Int) (T : ByteArray) (w : World) (hn : b.length = n) (hA : Rb w A b) (hpl : Pl A c) (hnc : n ≤ c) (hb : n ≤ 1000000) (hw : MxR w) :
    Calls Tryz.prog 7 #[.slice A n c, .agg #[.int .i64 1, .int .i64 N, .int .i64 M, .string T]] w fun e w' => BOut (bareL b) e w' ∧ Below w.heap.size w w' := by
  have hB0 : Below w.heap.size w (w.alloc (.cells #[.int .i64 1, .int .i64 N, .int .i64 M, .string T] 26)) := (Below.refl _ _).alloc (Nat.le_refl _) _
  have r0 := Row.new w #[.int .i64 1, .int .i64 N, .int .i64 M, .string T] 26
  have hrd := read_any A b n c (w.alloc (.cells #[.int .i64 1, .int .i64 N, .int .i64 M, .string T] 26)) hn (hA.below hB0) hnc hb
  have HN := Lib.hid hn
  clear hn
  go_enter Tryz.func7, Tryz.ntmps7
  go_wp2_with fail
  refine hrd.mono ?_
  rintro e w1 ⟨hro, hb1⟩
  obtain ⟨A0, n0, c0, A1, n1, c1, A2, n2, c2, wh, ok, rfl⟩ := hro.form
  have hB1 := hB0.trans (hb1.mono hB0.size)
  have r1 := r0.below hb1
  have hw0 : w.heap.size < w1.heap.size := r1.lt
  have r3 := r1.alloc (.cells #[.slice A0 n0 c0, .slice A1 n1 c1, .slice A2 n2 c2] 49)
  have hB3 := hB1.trans ((mark_below w1 #[.slice A0 n0 c0, .slice A1 n1 c1, .slice A2 n2 c2] 49 (0, 0)).mono hB1.size)
  clear hro hrd
  go_upto_region 2 with fail
  obtain ⟨w3, hw3⟩ : ∃ w3, w1.alloc (.cells #[.slice A0 n0 c0, .slice A1 n1 c1, .slice A2 n2 c2] 49) = w3 := ⟨_, rfl⟩
  rw [hw3] at r3 hB3 ⊢
  clear hw3 r1 r0
  have x0 := r3.cell (j := 0) rfl
  have hba := bare_any A b n c w3 HN.out (hA.below hB3) hpl hnc hb (hw.below hB3)
  go_wp2_with fail
  refine hba.mono ?_
  rintro e w4 ⟨⟨A5, c5, rfl, g1, g2, g3, g4⟩, hb4⟩
  go_wp2_with fail
  go_ret
  exact ⟨⟨A5, c5, rfl, g1, g2, g3, g4⟩, hB3.trans (hb4.mono hB3.size)⟩

set_option maxRecDepth 100000 in
set_option maxHeartbeats 1000000 in
theorem apply_whole (A : Option Addr) (b : List UInt8) (n c : Nat) (N M : Int) (T : ByteArray) (w : World) (hn : b.length = n) (hA : Rb w A b) (hnc : n ≤ c) (hb : n ≤ 1000000) :
    Calls Tryz.prog 7 #[.slice A n c, .agg #[.int .i64 2, .int .i64 N, .int .i64 M, .string T]] w fun e w' => BOut (fullL 0 b) e w' ∧ Below w.heap.size w w' := by
  have hB0 : Below w.heap.size w (w.alloc (.cells #[.int .i64 2, .int .i64 N, .int .i64 M, .string T] 26)) := (Below.refl _ _).alloc (Nat.le_refl _) _
  have r0 := Row.new w #[.int .i64 2, .int .i64 N, .int .i64 M, .string T] 26
  have hrd := read_any A b n c (w.alloc (.cells #[.int .i64 2, .int .i64 N, .int .i64 M, .string T] 26)) hn (hA.below hB0) hnc hb
  have HN := Lib.hid hn
  clear hn
  go_enter Tryz.func7, Tryz.ntmps7
  go_wp2_with fail
  refine hrd.mono ?_
  rintro e w1 ⟨hro, hb1⟩
  obtain ⟨A0, n0, c0, A1, n1, c1, A2, n2, c2, wh, ok, rfl⟩ := hro.form
  have hB1 := hB0.trans (hb1.mono hB0.size)
  have r1 := r0.below hb1
  have hw0 : w.heap.size < w1.heap.size := r1.lt
  have r3 := r1.alloc (.cells #[.slice A0 n0 c0, .slice A1 n1 c1, .slice A2 n2 c2] 49)
  have hB3 := hB1.trans ((mark_below w1 #[.slice A0 n0 c0, .slice A1 n1 c1, .slice A2 n2 c2] 49 (0, 0)).mono hB1.size)
  clear hro hrd
  go_upto_region 2 with fail
  obtain ⟨w3, hw3⟩ : ∃ w3, w1.alloc (.cells #[.slice A0 n0 c0, .slice A1 n1 c1, .slice A2 n2 c2] 49) = w3 := ⟨_, rfl⟩
  rw [hw3] at r3 hB3 ⊢
  clear hw3 r1 r0
  have x0 := r3.cell (j := 0) rfl
  have hba := full_any A b n c w3 HN.out (hA.below hB3) (by omega)
  go_wp2_with fail
  refine hba.mono ?_
  rintro e w4 ⟨⟨v, rfl, hov⟩, hb4⟩
  obtain ⟨A5, c5, e5, g1, g2, g3, g4⟩ := BOut.own hov
  cases e5
  go_wp2_with fail
  go_ret
  exact ⟨⟨A5, c5, rfl, g1, g2, g3, g4⟩, hB3.trans (hb4.mono hB3.size)⟩
end Go.Proofs.YtcagkoakbdbbaaaGreatDoor
