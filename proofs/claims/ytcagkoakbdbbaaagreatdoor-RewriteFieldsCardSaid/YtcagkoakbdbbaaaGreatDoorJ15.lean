/- The program's full: each LF has a CR ahead. · The program's Apply: lines' ends (kinds 1 and 2); kind 4 at a mail of one field. · The program's flat: a field without its lines' ends, and the last one of these. -/
import Derived.Test.YtcagkoakbdbbaaaGreatDoorJ09
import Derived.Test.YtcagkoakbdbbaaaGreatDoorJ14
namespace Go.Proofs.YtcagkoakbdbbaaaGreatDoor
set_option linter.unusedVariables false
set_option linter.unusedSimpArgs false
open Go.RowKit

theorem full_drop {b : List UInt8} {i : Nat} {x : UInt8} (h : b[i]? = some x) (last : UInt8) : fullL last (b.drop i) = (if x = 10 ∧ last ≠ 13 then [13, x] else [x]) ++ fullL x (b.drop (i + 1)) := by
  obtain ⟨h2, h3⟩ := List.getElem?_eq_some_iff.1 h
  rw [List.drop_eq_getElem_cons h2, h3, fullL]

set_option maxRecDepth 100000 in
set_option maxHeartbeats 1000000 in
theorem full_any (A : Option Addr) (b : List UInt8) (n c : Nat) (w : World) (hn : b.length = n) (hA : Rb w A b) (hb : n ≤ 1000000000) :
    Calls Tryz.prog 17 #[.slice A n c] w fun e w' => (∃ v, e = .returned v ∧ w'.ownsRow w.heap.size 5 1 v (fullL 0 b).length ((fullL 0 b).map bv)) ∧ Below w.heap.size w w' := by
  have HN := Lib.hid hn
  clear hn
  go_enter Tryz.func17, Tryz.ntmps17
  go_wp2_with fail
  go_loopw [2, 3, 8] (fun s2 s3 s8 wr => ∃ (i k : Nat) (last : UInt8) (out : List UInt8), s3 = .int .u8 (last.toNat : Int) ∧ s8 = .int .i64 i ∧ i ≤ n ∧ k ≤ 2 * i ∧ Hid (out.length = k ∧ out ++ fullL last (b.drop i) = fullL 0 b) ∧ Hid (wr.ownsRow w.heap.size 5 1 s2 k (out.map bv)) ∧ Below w.heap.size w wr) (fun _ _ s8 _ => n - (intOf s8).toNat)
  case atStart => exact ⟨0, 0, 0, [], rfl, rfl, by omega, by omega, Lib.hid ⟨rfl, rfl⟩, Lib.hid (World.ownsRow_nil _ _ _ _), Below.refl _ _⟩
  case round =>
    rename_i s2
    obtain ⟨i, k, last, out, rfl, rfl, hi, hk, HG, HO, hB⟩ := hrel
    obtain ⟨Av, cv, hv, _, _, _, _⟩ := own_form HO.out
    subst hv
    have hsz := hB.size
    by_cases hlt : i < n
    · obtain ⟨b0, o0, x, rfl, hx, hcx⟩ := (hA.below hB).one (k := i) (by rw [HN.out]; exact hlt)
      have hst := full_drop hx.out last
      have e10 : ((x.toNat : Int) == 10) = (x == 10) := u8_beq x 10
      have e13 : ((last.toNat : Int) != 13) = (last != 13) := u8_bne last 13
      by_cases hc : x = 10 ∧ last ≠ 13
      · obtain ⟨rfl, hl⟩ := hc
        have q13 : ((last.toNat : Int) != 13) = true := by rw [e13]; simpa using hl
        have HG2 : Hid ((out ++ [13, 10]).length = k + 2 ∧ (out ++ [13, 10]) ++ fullL 10 (b.drop (i + 1)) = fullL 0 b) := Lib.hid ⟨by simp [HG.out.1], by rw [← HG.out.2, hst, if_pos ⟨rfl, hl⟩, List.append_assoc]⟩
        clear e10 e13 hst hl hx
        have hO := HO.out.alloc (.cells #[.int .u8 13] 5)
        have hbA : Below w.heap.size w (wr.alloc (.cells #[.int .u8 13] 5)) := hB.alloc hsz _
        go_wp2_with (first
          | (at_builtin; refine wpList_app rfl (.tmp 18) (.tmp 19) _ _ rfl TU8 hO rfl (Src_rv (news := [bv 13]) Tryz.underlying22 rfl (Rv_new wr _ _ _ rfl) (by simp [Value.oneCell', bv]) (by omega)) rfl (by omega) (by simp; omega) ?_; intro v3 w3 hown3 hgr3 hat3; obtain ⟨A3, c3, hv3, _, _, _, _⟩ := own_form hown3; subst hv3; have hB3 := below_app hbA hO hgr3 (by simp; omega) (Nat.le_refl _); have hO3 := hown3.alloc (.cells #[.int .u8 10] 5); have hs3 := hB3.size)
          | (at_builtin; refine wpList_app rfl (.tmp 21) (.tmp 23) _ _ rfl TU8 hO3 rfl (Src_rv (news := [bv 10]) Tryz.underlying22 rfl (Rv_new w3 _ _ _ rfl) (by simp [Value.oneCell', bv]) (by omega)) rfl (by omega) (by simp; omega) ?_; intro v4 w4 hown4 hgr4 hat4; obtain ⟨A4, c4, hv4, _, _, _, _⟩ := own_form hown4; subst hv4; have hB4 := below_app (hB3.alloc (by omega) (.cells #[.int .u8 10] 5)) hO3 hgr4 (by simp; omega) (Nat.le_refl _)))
        go_roundw
        case rel => exact ⟨i + 1, k + 1 + 1, 10, out ++ [13, 10], rfl, by go_num, by omega, by omega, HG2, Lib.hid (by rw [List.map_append]; simpa using hown4), hB4⟩
        case measure => simp [intOf]; omega
      · have HG2 : Hid ((out ++ [x]).length = k + 1 ∧ (out ++ [x]) ++ fullL x (b.drop (i + 1)) = fullL 0 b) := Lib.hid ⟨by simp [HG.out.1], by rw [← HG.out.2, hst, if_neg hc, List.append_assoc]⟩
        have hO := HO.out.alloc (.cells #[.int .u8 (x.toNat : Int)] 5)
        have hbA : Below w.heap.size w (wr.alloc (.cells #[.int .u8 (x.toNat : Int)] 5)) := hB.alloc hsz _
        by_cases hx10 : x = 10
        · have q10 : ((x.toNat : Int) == 10) = true := by rw [e10, hx10]; rfl
          have q13 : ((last.toNat : Int) != 13) = false := by
            rw [e13]
            have : last = 13 := Classical.byContradiction fun h => hc ⟨hx10, h⟩
            simp [this]
          clear e10 e13 hst hc hx hx10
          go_wp2_with (at_builtin; refine wpList_app rfl (.tmp 21) (.tmp 23) _ _ rfl TU8 hO rfl (Src_rv (news := [bv x]) Tryz.underlying22 rfl (Rv_new wr _ _ _ rfl) (by simp [Value.oneCell', bv]) (by omega)) rfl (by omega) (by simp; omega) ?_; intro v4 w4 hown4 hgr4 hat4; obtain ⟨A4, c4, hv4, _, _, _, _⟩ := own_form hown4; subst hv4; have hB4 := below_app hbA hO hgr4 (by simp; omega) (Nat.le_refl _))
          go_roundw
          case rel => exact ⟨i + 1, k + 1, x, out ++ [x], rfl, by go_num, by omega, by omega, HG2, Lib.hid (by rw [List.map_append]; exact hown4), hB4⟩
          case measure => simp [intOf]; omega
        · have q10 : ((x.toNat : Int) == 10) = false := by rw [e10]; simpa using hx10
          clear e10 e13 hst hc hx hx10
          go_wp2_with (at_builtin; refine wpList_app rfl (.tmp 21) (.tmp 23) _ _ rfl TU8 hO rfl (Src_rv (news := [bv x]) Tryz.underlying22 rfl (Rv_new wr _ _ _ rfl) (by simp [Value.oneCell', bv]) (by omega)) rfl (by omega) (by simp; omega) ?_; intro v4 w4 hown4 hgr4 hat4; obtain ⟨A4, c4, hv4, _, _, _, _⟩ := own_form hown4; subst hv4; have hB4 := below_app hbA hO hgr4 (by simp; omega) (Nat.le_refl _))
          go_roundw
          case rel => exact ⟨i + 1, k + 1, x, out ++ [x], rfl, by go_num, by omega, by omega, HG2, Lib.hid (by rw [List.map_append]; exact hown4), hB4⟩
          case measure => simp [intOf]; omega
    · obtain rfl : i = n := by omega
      have hfin : out = fullL 0 b := by
        rw [← HG.out.2, List.drop_eq_nil_of_le (by rw [HN.out]; exact Nat.le_refl _)]
        simp [fullL]
      have HF := Lib.hid hfin
      clear hfin
      go_wp2_with fail
      go_ret
      exact ⟨⟨_, rfl, by rw [← HF.out, HG.out.1]; exact HO.out⟩, hB⟩
end Go.Proofs.YtcagkoakbdbbaaaGreatDoor

namespace Go.Proofs.YtcagkoakbdbbaaaGreatDoor
set_option linter.unusedVariables false
set_option linter.unusedSimpArgs false
open Go.RowKit

theorem ReadOut.form {w : World} {b : List UInt8} {e : Ending} {w' : World} (h : ReadOut w b e w') : ∃ A0 n0 c0 A1 n1 c1 A2 n2 c2 wh ok, e = .returned (.tuple #[.agg #[.slice A0 n0 c0, .slice A1 n1 c1, .slice A2 n2 c2], .bool wh, .bool ok]) := by
  unfold ReadOut at h
  cases hr : readG [] (fl b) with
  | none => rw [hr] at h; exact ⟨none, 0, 0, none, 0, 0, none, 0, 0, _, _, h⟩
  | some p =>
    obtain ⟨fs, en, bd⟩ := p
    rw [hr] at h
    obtain ⟨fv, Ae, ce, Ab, cb, he, ⟨vs, ho, _⟩, _⟩ := h
    obtain ⟨A0, c0, hv, _⟩ := own_form ho
    subst hv
    exact ⟨_, _, _, _, _, _, _, _, _, _, _, he⟩

set_option maxRecDepth 100000 in
set_option maxHeartbeats 1000000 in
theorem apply_bare (A : Option Addr) (b : List UInt8) (n c : Nat) (N M : Int) (T : ByteArray) (w : World) (hn : b.length = n) (hA : Rb w A b) (hpl : Pl A c) (hnc : n ≤ c) (hb : n ≤ 1000000) (hw : MxR w) :
    Calls Tryz.prog 7 #[.slice A n c, .agg #[.int .i64 1, .int .i64 N, .int .i64 M, .string T]] w fun e w' => BOut (bareL b) e w' ∧ Below w.heap.size w w' := by
  have hB0 : Below w.heap.size w (w.alloc (.cells #[.int .i64 1, .int .i64 N, .int .i64 M, .string T] 26)) := (Below.refl _ _).alloc (Nat.le_refl _) _
  have r0 := Row.new w #[.int .i64 1, .int .i64 N, .int .i64 M, .string T] 26
  have hrd := read_any A b n c (w.alloc (.cells #[.int .i64 1, .int .i64 N, .int .i64 M, .string T] 26)) hn (hA.below hB0) hnc hb
  have HN := Lib.hid hn
  clear hn
  go_enter Tryz.func7, Tryz.ntmps7
  go_wp2_with fail
  refine hrd.mono ?_
  rintro e w1 ⟨hro, hb1⟩
  obtain ⟨A0, n0, c0, A1, n1, c1, A2, n2, c2, wh, ok, rfl⟩ := hro.form
  have hB1 := hB0.trans (hb1.mono hB0.size)
  have r1 := r0.below hb1
  have hw0 : w.heap.size < w1.heap.size := r1.lt
  have r3 := r1.alloc (.cells #[.slice A0 n0 c0, .slice A1 n1 c1, .slice A2 n2 c2] 49)
  have hB3 := hB1.trans ((mark_below w1 #[.slice A0 n0 c0, .slice A1 n1 c1, .slice A2 n2 c2] 49 (0, 0)).mono hB1.size)
  clear hro hrd
  go_upto_region 2 with fail
  obtain ⟨w3, hw3⟩ : ∃ w3, w1.alloc (.cells #[.slice A0 n0 c0, .slice A1 n1 c1, .slice A2 n2 c2] 49) = w3 := ⟨_, rfl⟩
  rw [hw3] at r3 hB3 ⊢
  clear hw3 r1 r0
  have x0 := r3.cell (j := 0) rfl
  have hba := bare_any A b n c w3 HN.out (hA.below hB3) hpl hnc hb (hw.below hB3)
  go_wp2_with fail
  refine hba.mono ?_
  rintro e w4 ⟨⟨A5, c5, rfl, g1, g2, g3, g4⟩, hb4⟩
  go_wp2_with fail
  go_ret
  exact ⟨⟨A5, c5, rfl, g1, g2, g3, g4⟩, hB3.trans (hb4.mono hB3.size)⟩

set_option maxRecDepth 100000 in
set_option maxHeartbeats 1000000 in
theorem apply_whole (A : Option Addr) (b : List UInt8) (n c : Nat) (N M : Int) (T : ByteArray) (w : World) (hn : b.length = n) (hA : Rb w A b) (hnc : n ≤ c) (hb : n ≤ 1000000) :
    Calls Tryz.prog 7 #[.slice A n c, .agg #[.int .i64 2, .int .i64 N, .int .i64 M, .string T]] w fun e w' => BOut (fullL 0 b) e w' ∧ Below w.heap.size w w' := by
  have hB0 : Below w.heap.size w (w.alloc (.cells #[.int .i64 2, .int .i64 N, .int .i64 M, .string T] 26)) := (Below.refl _ _).alloc (Nat.le_refl _) _
  have r0 := Row.new w #[.int .i64 2, .int .i64 N, .int .i64 M, .string T] 26
  have hrd := read_any A b n c (w.alloc (.cells #[.int .i64 2, .int .i64 N, .int .i64 M, .string T] 26)) hn (hA.below hB0) hnc hb
  have HN := Lib.hid hn
  clear hn
  go_enter Tryz.func7, Tryz.ntmps7
  go_wp2_with fail
  refine hrd.mono ?_
  rintro e w1 ⟨hro, hb1⟩
  obtain ⟨A0, n0, c0, A1, n1, c1, A2, n2, c2, wh, ok, rfl⟩ := hro.form
  have hB1 := hB0.trans (hb1.mono hB0.size)
  have r1 := r0.below hb1
  have hw0 : w.heap.size < w1.heap.size := r1.lt
  have r3 := r1.alloc (.cells #[.slice A0 n0 c0, .slice A1 n1 c1, .slice A2 n2 c2] 49)
  have hB3 := hB1.trans ((mark_below w1 #[.slice A0 n0 c0, .slice A1 n1 c1, .slice A2 n2 c2] 49 (0, 0)).mono hB1.size)
  clear hro hrd
  go_upto_region 2 with fail
  obtain ⟨w3, hw3⟩ : ∃ w3, w1.alloc (.cells #[.slice A0 n0 c0, .slice A1 n1 c1, .slice A2 n2 c2] 49) = w3 := ⟨_, rfl⟩
  rw [hw3] at r3 hB3 ⊢
  clear hw3 r1 r0
  have x0 := r3.cell (j := 0) rfl
  have hba := full_any A b n c w3 HN.out (hA.below hB3) (by omega)
  go_wp2_with fail
  refine hba.mono ?_
  rintro e w4 ⟨⟨v, rfl, hov⟩, hb4⟩
  obtain ⟨A5, c5, e5, g1, g2, g3, g4⟩ := BOut.own hov
  cases e5
  go_wp2_with fail
  go_ret
  exact ⟨⟨A5, c5, rfl, g1, g2, g3, g4⟩, hB3.trans (hb4.mono hB3.size)⟩
end Go.Proofs.YtcagkoakbdbbaaaGreatDoor

namespace Go.Proofs.YtcagkoakbdbbaaaGreatDoor
set_option linter.unusedVariables false
set_option linter.unusedSimpArgs false
open Go.RowKit

def flatT (ls : List (List UInt8)) : List UInt8 := (ls.map textL).flatten
def lastT (ls : List (List UInt8)) : List UInt8 := match ls.getLast? with | none => [] | some l => l.drop (textL l).length
theorem flatT_snoc (ls : List (List UInt8)) (l : List UInt8) : flatT (ls ++ [l]) = flatT ls ++ textL l := by simp [flatT]
theorem lastT_snoc (ls : List (List UInt8)) (l : List UInt8) : lastT (ls ++ [l]) = l.drop (textL l).length := by simp [lastT]
theorem flatT_len (ls : List (List UInt8)) : (flatT ls).length ≤ ls.flatten.length := by
  induction ls with
  | nil => simp [flatT]
  | cons l r ih =>
    have h := textL_len l
    simp only [flatT, List.map_cons, List.flatten_cons, List.length_append] at *
    omega

set_option maxRecDepth 100000 in
set_option maxHeartbeats 2000000 in
theorem flat_any (b0 o0 : Nat) (f : List UInt8) (n c : Nat) (w : World) (hn : f.length = n) (hA : Rb w (some ⟨b0, o0, none⟩) f) (hnc : n ≤ c) (hb : n ≤ 1000000) :
    Calls Tryz.prog 68 #[.slice (some ⟨b0, o0, none⟩) n c] w fun e w' => (∃ v A3 c3, e = .returned (.tuple #[v, .slice A3 (lastT (fl f)).length c3]) ∧ w'.ownsRow w.heap.size 5 1 v (flatT (fl f)).length ((flatT (fl f)).map bv) ∧ (∀ W, Below w.heap.size w W → Rb W A3 (lastT (fl f))) ∧ (lastT (fl f)).length ≤ c3) ∧ Below w.heap.size w w' := by
  have hsp := callsIn_wide.1 (lsplit_in 5 (Nat.le_refl _) (some ⟨b0, o0, none⟩) f n c w hn hA hnc (by omega))
  have HN := Lib.hid hn
  clear hn
  go_enter Tryz.func68, Tryz.ntmps68
  go_wp2_with fail
  refine hsp.mono ?_
  rintro e w1 ⟨⟨v, ps, rfl, hls, hle, hown⟩, hb1⟩
  obtain ⟨Al, cl, hv, hlc, hlm, _, _⟩ := own_form hown
  subst hv
  have HLS := Lib.hid hls
  have HLE := Lib.hid hle
  have hpn : ps.length ≤ n := by have h := hls.2.2.2; rw [hle, HN.out] at h; exact h
  clear hls hle hsp
  go_wp2_with fail
  go_loopw [2, 3, 9] (fun s2 s3 s9 wr => ∃ (i k : Nat) (A3 : Option Addr) (n3 c3 : Nat), s9 = .int .i64 i ∧ i ≤ ps.length ∧ s3 = .slice A3 n3 c3 ∧ k ≤ n ∧ Hid ((flatT ((fl f).take i)).length = k) ∧ Hid ((lastT ((fl f).take i)).length = n3 ∧ n3 ≤ c3 ∧ ∀ W, Below w.heap.size w W → Rb W A3 (lastT ((fl f).take i))) ∧ Hid (wr.ownsRow w1.heap.size 5 1 s2 k ((flatT ((fl f).take i)).map bv)) ∧ Below w1.heap.size w1 wr) (fun _ _ s9 _ => ps.length - (intOf s9).toNat)
  case atStart => exact ⟨0, 0, none, 0, 0, rfl, by omega, rfl, by omega, Lib.hid rfl, Lib.hid ⟨rfl, Nat.le_refl _, fun W _ => Rb.nil _ _⟩, Lib.hid (World.ownsRow_nil _ _ _ _), Below.refl _ _⟩
  case round =>
    rename_i s2 s3
    obtain ⟨i, k, A3, n3, c3, rfl, hi, rfl, hk, HK, HE, HO, hB⟩ := hrel
    have hbr : Below w.heap.size w wr := hb1.trans (hB.mono hb1.size)
    have hsr := hB.size
    obtain ⟨Ao, co, hov, _, _, _, _⟩ := own_form HO.out
    subst hov
    by_cases hlt : i < ps.length
    · obtain ⟨p, hp⟩ : ∃ p, ps[i]? = some p := ⟨_, List.getElem?_eq_getElem hlt⟩
      obtain ⟨hl1, hl2, hp1, hp2⟩ := ln_at HLS.out HLE.out hp
      obtain ⟨l, hl⟩ : ∃ l, sg f p.1 p.2 = l := ⟨_, rfl⟩
      have HRL : Hid (∀ W, Below w.heap.size w W → Rb W (some ⟨b0, o0 + p.1, none⟩) l) := Lib.hid (fun W hW => by rw [← hl]; exact rb_sg (hA.below hW) p.1 p.2)
      rw [hl] at hl1 hl2
      have hor := own_below hown hB
      obtain ⟨_, _, e9, _, _, hRv, _⟩ := own_form hor
      cases e9
      obtain ⟨bl, ol, x, rfl, hx, hcx⟩ := hRv.one (k := i) (by rw [List.length_map]; exact hlt)
      have hx2 := hx.out
      rw [List.getElem?_map, hp] at hx2
      have hx3 : lnV (some ⟨b0, o0, none⟩) p = x := Option.some.inj hx2
      have hx4 : x = .slice (some ⟨b0, o0 + p.1, none⟩) l.length l.length := by rw [← hx3, hl2]; rfl
      subst hx4
      obtain ⟨m, hm⟩ : ∃ m, l.length = m := ⟨_, rfl⟩
      have HM := Lib.hid hm
      rw [hm] at hcx hl2
      have hmn : m ≤ n := by rw [hl2, ← HN.out]; omega
      obtain ⟨of, hof⟩ : ∃ of, o0 + p.1 = of := ⟨_, rfl⟩
      rw [hof] at hcx HRL
      obtain ⟨tn, htn⟩ : ∃ tn, (textL l).length = tn := ⟨_, rfl⟩
      have HTN := Lib.hid htn
      have htl : tn ≤ m := by rw [← htn, ← hm]; exact textL_len l
      have hcxd : wr.drew.cell? ⟨bl, ol + i, none⟩ = some (.slice (some ⟨b0, of, none⟩) m m) := hcx
      have htx : ∀ W, Below w1.heap.size w1 W → Calls Tryz.prog 31 #[.slice (some ⟨b0, of, none⟩) m m] W fun e w' => e = .returned (.slice (some ⟨b0, of, none⟩) tn m) ∧ Below W.heap.size W w' := fun W hW => by
        have h := text_any (some ⟨b0, of, none⟩) l m m W HM.out (HRL.out W (hb1.trans (hW.mono hb1.size))) (Nat.le_refl _) (by omega)
        rw [HTN.out] at h
        exact h
      have HTK : Hid ((fl f).take (i + 1) = (fl f).take i ++ [l]) := Lib.hid (take_succ_of hl1)
      have hkt : k + tn ≤ n := by
        have h1 := flatT_len ((fl f).take (i + 1))
        have h2 := flat_le (fl f) (i + 1)
        rw [fl_flat, HN.out] at h2
        rw [HTK.out, flatT_snoc, List.length_append, HK.out, HTN.out, ← HTK.out] at h1
        omega
      obtain ⟨A4, hs4, hr4⟩ := slf_any (some ⟨b0, of, none⟩) m m tn htl (Nat.le_refl _)
      clear hx hx2 hx3 hl hm hl1 hp2 hRv hl2 hp1 hof hp hor htn
      have hsrc : ∀ W, Below wr.heap.size wr W → Src Tryz.prog 1 22 (.slice (some ⟨b0, of, none⟩) tn m) tn ((textL l).map bv) W := fun W hW => by
        have h := HRL.out W (hbr.trans (hW.mono hbr.size))
        exact Src_rb Tryz.underlying22 HTN.out (by rw [textL_take]; exact h.take _)
      have hoW : ∀ W, Below wr.heap.size wr W → W.ownsRow w1.heap.size 5 1 (.slice Ao k co) k ((flatT ((fl f).take i)).map bv) := fun W hW => own_below HO.out hW
      have hbd : Below wr.heap.size wr wr.drew := (Below.refl _ _).drew
      go_upto_region 4 with fail
      have hcd : Below w1.heap.size w1 wr.drew := hB.drew
      go_region_law (first
        | (refine step_app (w := w6) rfl (.tmp 13) (.tmp 15) _ _ rfl TU8 (hoW _ B6) rfl (hsrc _ B6) rfl (by omega) (by have := B6.size; omega) ?_; intro v7 w7 own7 gr7 at7; have C7 := below_app C6 (hoW _ B6) gr7 C6.size (Nat.le_refl _); obtain ⟨A7, c7, hv7, _, _, _, _⟩ := own_form own7; subst hv7)
        | (refine step_app (w := w5) rfl (.tmp 13) (.tmp 15) _ _ rfl TU8 (hoW _ B5) rfl (hsrc _ B5) rfl (by omega) (by have := B5.size; omega) ?_; intro v7 w7 own7 gr7 at7; have C7 := below_app C5 (hoW _ B5) gr7 C5.size (Nat.le_refl _); obtain ⟨A7, c7, hv7, _, _, _, _⟩ := own_form own7; subst hv7)
        | (go_simp; go_at_call 31; (with_reducible refine (htx _ hcd).mono ?_); rintro e w5 ⟨rfl, hb5⟩; have B5 := hbd.trans (hb5.mono (Nat.le_refl _)); have C5 := hB.trans (B5.mono hsr))
        | (go_simp; go_at_call 31; (with_reducible refine (htx _ C5).mono ?_); rintro e w6 ⟨rfl, hb6⟩; have B6 := B5.trans (hb6.mono B5.size); have C6 := hB.trans (B6.mono hsr))
        | (go_simp; go_at_call 31; (with_reducible refine (htx _ C7).mono ?_); rintro e w8 ⟨rfl, hb8⟩))
      go_wp2_with fail
      go_roundw
      case rel =>
        have C8 := C7.trans (hb8.mono C7.size)
        refine ⟨i + 1, k + tn, A4, m - tn, m - tn, by go_num, by omega, rfl, hkt, Lib.hid ?_, Lib.hid ⟨?_, Nat.le_refl _, fun W hW => ?_⟩, Lib.hid ?_, C8⟩
        · rw [HTK.out, flatT_snoc, List.length_append, HK.out, HTN.out]
        · rw [HTK.out, lastT_snoc, List.length_drop, HM.out, HTN.out]
        · rw [HTK.out, lastT_snoc, HTN.out]
          exact hr4 W l HM.out (HRL.out W hW)
        · rw [HTK.out, flatT_snoc, List.map_append]
          exact own_below own7 hb8
      case measure => simp [intOf]; omega
    · obtain rfl : i = ps.length := by omega
      have hall : (fl f).take ps.length = fl f := by
        rw [← HLS.out.all HLE.out]
        exact List.take_of_length_le (by rw [lnTold, List.length_map]; exact Nat.le_refl _)
      rw [hall] at HK HE HO
      have HKK := HK
      clear hall
      go_wp2_with fail
      refine bodyPost_ret (v := .tuple #[.slice Ao k co, .slice A3 n3 c3]) (by simp [results, Tryz.results68, go_sem]) rfl ⟨⟨_, A3, c3, by rw [HE.out.1], ?_, HE.out.2.2, by rw [HE.out.1]; exact HE.out.2.1⟩, hbr⟩
      rw [HKK.out]
      exact own_base HO.out hb1.size
end Go.Proofs.YtcagkoakbdbbaaaGreatDoor
