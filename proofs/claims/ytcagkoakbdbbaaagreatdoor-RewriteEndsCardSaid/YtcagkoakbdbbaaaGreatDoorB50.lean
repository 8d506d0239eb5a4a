/- RewriteEnds' walk: lines' ends made bare and whole again are whole, as long as no CR stands by itself; what is made whole has no LF by itself. -/
import Derived.Test.YtcagkoakbdbbaaaGreatDoorHI
import Derived.Test.YtcagkoakbdbbaaaGreatDoorS1
namespace Go.Proofs.YtcagkoakbdbbaaaGreatDoor
set_option linter.unusedVariables false
set_option linter.unusedSimpArgs false
open Go.RowKit

/-- behind the first i signs: has a CR been met that stands by itself? -/
def LoneTo (b : List UInt8) (i : Nat) (lo : Bool) : Prop := lo = true ↔ ∃ j : Nat, j < i ∧ b[j]? = some 13 ∧ b[j + 1]? ≠ some 10
theorem LoneTo.zero (b : List UInt8) : LoneTo b 0 false := ⟨fun h => (by cases h), fun ⟨j, h, _⟩ => (by omega)⟩
theorem LoneTo.keep {b : List UInt8} {i : Nat} {lo : Bool} (h : LoneTo b i lo) (hn : ¬ (b[i]? = some 13 ∧ b[i + 1]? ≠ some 10)) : LoneTo b (i + 1) lo :=
  ⟨fun e => by obtain ⟨j, h1, h2⟩ := h.1 e; exact ⟨j, by omega, h2⟩, fun ⟨j, h1, h2⟩ => by
    by_cases hj : j = i
    · subst hj; exact absurd h2 hn
    · exact h.2 ⟨j, by omega, h2⟩⟩
theorem LoneTo.hit {b : List UInt8} {i : Nat} (h1 : b[i]? = some 13) (h2 : b[i + 1]? ≠ some 10) : LoneTo b (i + 1) true := ⟨fun _ => ⟨i, by omega, h1, h2⟩, fun _ => rfl⟩
theorem LoneTo.more {b : List UInt8} {i : Nat} (h : LoneTo b i true) : LoneTo b (i + 1) true := ⟨fun e => by obtain ⟨j, h1, h2⟩ := h.1 e; exact ⟨j, by omega, h2⟩, fun _ => rfl⟩
theorem LoneTo.all {b : List UInt8} {lo : Bool} (h : LoneTo b b.length lo) : loneCR b = lo := by
  rw [Bool.eq_iff_iff, lone_at, show (lo = true ↔ _) from h]
  constructor
  · rintro ⟨j, h1, h2⟩; exact ⟨j, lt_of_get h1, h1, h2⟩
  · rintro ⟨j, _, h2⟩; exact ⟨j, h2⟩

set_option maxRecDepth 100000 in
set_option maxHeartbeats 2000000 in
theorem rewriteEnds_any (A : Option Addr) (b : List UInt8) (n c : Nat) (w : World) (hn : b.length = n) (hA : Rb w A b) (hpl : Pl A c) (hnc : n ≤ c) (hx : n ≤ 9223372036854775807) (hw : MxR w) :
    Calls Tryz.prog 3 #[.slice A n c] w fun e w' => e = .returned (.bool true) ∧ Below w.heap.size w w' := by
  have HN := Lib.hid hn
  clear hn
  by_cases g1 : 2000 < n
  · go_enter Tryz.func3, Tryz.ntmps3
    go_wp2_with fail
    refine (speaks_any _).mono ?_
    rintro e w1 ⟨rfl, hb1⟩
    go_wp2_with fail
    go_ret
    exact ⟨rfl, hb1⟩
  go_enter Tryz.func3, Tryz.ntmps3
  go_wp2_with fail
  refine (speaks_any _).mono ?_
  rintro e w1 ⟨rfl, hb1⟩
  have hwh := apply_whole A b n c 0 0 ⟨#[]⟩ w1 HN.out (hA.below hb1) hnc (by omega)
  go_wp2_with fail
  refine hwh.mono ?_
  rintro e w2 ⟨⟨A5, c5, rfl, g5, k5, hR5, p5⟩, hb2⟩
  have hB2 := hb1.trans (hb2.mono hb1.size)
  obtain ⟨L, hL⟩ : ∃ L, fullL 0 b = L := ⟨_, rfl⟩
  obtain ⟨nl, hnl⟩ : ∃ nl, L.length = nl := ⟨_, rfl⟩
  have hle : nl ≤ 4000 := by
    have h := full_len b 0
    rw [hL, hnl, HN.out] at h
    omega
  rw [hL] at g5 hR5 ⊢
  have HL := Lib.hid hL
  have HNL := Lib.hid hnl
  have HEO : Hid (endsOk 0 L = true) := Lib.hid (by rw [← hL]; exact endsOk_full b 0)
  rw [hnl] at g5 ⊢
  clear hL hnl hwh
  go_wp2_with fail
  go_loopw [21] (fun s21 wr => ∃ i : Nat, s21 = .int .i64 i ∧ i ≤ nl ∧ Below w.heap.size w wr ∧ Rb wr A5 L) (fun s21 _ => nl - (intOf s21).toNat)
  case atStart => exact ⟨0, rfl, by omega, hB2, hR5⟩
  case round =>
    obtain ⟨i, rfl, hi, hB, hR⟩ := hrel
    by_cases hlt : i < nl
    · obtain ⟨b5, o5, x, rfl, hxx, hcx⟩ := hR.one (k := i) (by rw [HNL.out]; exact hlt)
      have e10 : ((x.toNat : Int) == 10) = (x == 10) := u8_beq x 10
      by_cases hx10 : x = 10
      · have q10 : ((x.toNat : Int) == 10) = true := by rw [e10, hx10]; rfl
        have hat := endsOk_at HEO.out (by rw [hxx.out, hx10])
        obtain ⟨j, rfl⟩ : ∃ j, i = j + 1 := by
          cases i with
          | zero => simp at hat
          | succ j => exact ⟨j, rfl⟩
        have hj13 : L[j]? = some 13 := by simpa using hat
        obtain ⟨_, _, y, e9, hy, hcy⟩ := hR.one (k := j) (by rw [HNL.out]; omega)
        cases e9
        have hy13 : y = 13 := by have := hy.out; rw [hj13] at this; exact (Option.some.inj this).symm
        subst hy13
        have hcy13 : wr.cell? ⟨b5, o5 + j, none⟩ = some (.int .u8 13) := hcy
        have hj0 : (((j : Int) + 1) == 0) = false := by rw [beq_eq_false_iff_ne]; omega
        have hj1 : (j : Int) + 1 - 1 = (j : Int) := by omega
        clear e10 hat hj13 hy hcy hx10 hxx
        go_wp2_with fail
        go_roundw
        case rel => exact ⟨j + 1 + 1, by go_num, by omega, hB, hR⟩
        case measure => simp [intOf]; omega
      · have q10 : ((x.toNat : Int) == 10) = false := by rw [e10]; simpa using hx10
        clear e10 hx10 hxx
        go_wp2_with fail
        go_roundw
        case rel => exact ⟨i + 1, by go_num, by omega, hB, hR⟩
        case measure => simp [intOf]; omega
    · obtain rfl : i = nl := by omega
      have hbr := apply_bare A5 L i c5 0 0 ⟨#[]⟩ wr HNL.out hR p5 g5 (by omega) (hw.below hB)
      go_wp2_with fail
      refine hbr.mono ?_
      rintro e w3 ⟨⟨A6, c6, rfl, g6, k6, hR6, p6⟩, hb3⟩
      have hB3 := hB.trans (hb3.mono hB.size)
      have hR53 := hR.below hb3
      obtain ⟨n6, hn6⟩ : ∃ n6, (bareL L).length = n6 := ⟨_, rfl⟩
      have HN6 := Lib.hid hn6
      have h6le : n6 ≤ i := by
        have h := bare_len i L (by rw [HNL.out]; exact Nat.le_refl _)
        rw [hn6, HNL.out] at h
        exact h
      rw [hn6] at g6 ⊢
      clear hn6 hbr
      have hag := apply_whole A5 L i c5 0 0 ⟨#[]⟩ w3 HNL.out hR53 g5 (by omega)
      rw [full_ok L 0 HEO.out] at hag
      go_wp2_with fail
      refine hag.mono ?_
      rintro e w4 ⟨⟨A7, c7, rfl, g7, k7, hR7, p7⟩, hb4⟩
      rw [HNL.out] at g7 ⊢
      have hB4 := hB3.trans (hb4.mono hB3.size)
      have hR54 := hR53.below hb4
      have hR64 := hR6.below hb4
      clear hag hR hR53 hR6 hb3 hb4 hB3
      go_wp2_with fail
      go_loopw [8, 49] (fun s8 s49 wr => ∃ (j : Nat) (lo : Bool), s49 = .int .i64 j ∧ s8 = .bool lo ∧ j ≤ n ∧ Hid (LoneTo b j lo) ∧ Below w4.heap.size w4 wr) (fun _ s49 _ => n - (intOf s49).toNat)
      case atStart => exact ⟨0, false, rfl, rfl, by omega, Lib.hid (LoneTo.zero b), Below.refl _ _⟩
      case round =>
        obtain ⟨j, lo, rfl, rfl, hj, HLO, hBr⟩ := hrel
        by_cases hlt2 : j < n
        · obtain ⟨b0, o0, x, rfl, hxx, hcx⟩ := (hA.below (hB4.trans (hBr.mono hB4.size))).one (k := j) (by rw [HN.out]; exact hlt2)
          have e13 : ((x.toNat : Int) == 13) = (x == 13) := u8_beq x 13
          cases lo with
          | true =>
            clear e13 hxx
            go_wp2_with fail
            go_roundw
            case rel => exact ⟨j + 1, true, by go_num, rfl, by omega, Lib.hid HLO.out.more, hBr⟩
            case measure => simp [intOf]; omega
          | false =>
            by_cases hx13 : x = 13
            · have q13 : ((x.toNat : Int) == 13) = true := by rw [e13, hx13]; rfl
              have HX13 : Hid (b[j]? = some 13) := Lib.hid (by rw [hxx.out, hx13])
              by_cases hend : j + 1 = n
              · have hje : ((j : Int) + 1 == (n : Int)) = true := by rw [beq_iff_eq]; omega
                have HH : Hid (LoneTo b (j + 1) true) := Lib.hid (LoneTo.hit HX13.out (by rw [List.getElem?_eq_none (by rw [HN.out]; omega)]; simp))
                clear e13 hxx hx13
                go_wp2_with fail
                go_roundw
                case rel => exact ⟨j + 1, true, by go_num, rfl, by omega, HH, hBr⟩
                case measure => simp [intOf]; omega
              · have hje : ((j : Int) + 1 == (n : Int)) = false := by rw [beq_eq_false_iff_ne]; omega
                obtain ⟨_, _, y, e9, hy, hcy⟩ := (hA.below (hB4.trans (hBr.mono hB4.size))).one (k := j + 1) (by rw [HN.out]; omega)
                cases e9
                have hcy2 : wr.cell? ⟨b0, o0 + (j + 1), none⟩ = some (.int .u8 (y.toNat : Int)) := hcy
                have e10 : ((y.toNat : Int) != 10) = (y != 10) := u8_bne y 10
                by_cases hy10 : y = 10
                · have q10 : ((y.toNat : Int) != 10) = false := by rw [e10, hy10]; rfl
                  have HH : Hid (LoneTo b (j + 1) false) := Lib.hid (HLO.out.keep (by rintro ⟨_, h⟩; exact h (by rw [hy.out, hy10])))
                  clear e13 hxx hx13 e10 hy10 hy hcy
                  go_wp2_with fail
                  go_roundw
                  case rel => exact ⟨j + 1, false, by go_num, rfl, by omega, HH, hBr⟩
                  case measure => simp [intOf]; omega
                · have q10 : ((y.toNat : Int) != 10) = true := by rw [e10]; simpa using hy10
                  have HH : Hid (LoneTo b (j + 1) true) := Lib.hid (LoneTo.hit HX13.out (by rw [hy.out]; intro e; exact hy10 (Option.some.inj e)))
                  clear e13 hxx hx13 e10 hy10 hy hcy
                  go_wp2_with fail
                  go_roundw
                  case rel => exact ⟨j + 1, true, by go_num, rfl, by omega, HH, hBr⟩
                  case measure => simp [intOf]; omega
            · have q13 : ((x.toNat : Int) == 13) = false := by rw [e13]; simpa using hx13
              have HH : Hid (LoneTo b (j + 1) false) := Lib.hid (HLO.out.keep (by rintro ⟨h, _⟩; rw [hxx.out] at h; exact hx13 (Option.some.inj h)))
              clear e13 hxx hx13
              go_wp2_with fail
              go_roundw
              case rel => exact ⟨j + 1, false, by go_num, rfl, by omega, HH, hBr⟩
              case measure => simp [intOf]; omega
        · obtain rfl : j = n := by omega
          have hlone : loneCR b = lo := LoneTo.all (by rw [HN.out]; exact HLO.out)
          have hB5 := hB4.trans (hBr.mono hB4.size)
          have hsm := same_any A7 A5 L L i i c7 c5 wr HNL.out HNL.out (hR7.below hBr) (hR54.below hBr) (by omega)
          rw [decide_eq_true rfl] at hsm
          have HLC := Lib.hid hlone
          clear hlone
          go_wp2_with fail
          refine hsm.mono ?_
          rintro e w6 ⟨rfl, hd6⟩
          have hB6 := hB5.trans (hd6.below _)
          cases lo with
          | true =>
            go_wp2_with fail
            go_ret
            exact ⟨rfl, hB6⟩
          | false =>
            have hBr6 : Below w4.heap.size w4 w6 := hBr.trans (hd6.below _)
            have hfb := apply_whole A6 (bareL L) n6 c6 0 0 ⟨#[]⟩ w6 HN6.out (hR64.below hBr6) g6 (by omega)
            have hfe : fullL 0 (bareL L) = L := by rw [← HL.out]; exact full_bare b.length b (Nat.le_refl _) 0 (by decide) HLC.out
            rw [hfe] at hfb
            clear hfe
            go_wp2_with fail
            refine hfb.mono ?_
            rintro e w7 ⟨⟨A8, c8, rfl, g8, k8, hR8, p8⟩, hb7⟩
            rw [HNL.out] at g8 ⊢
            have hB7 := hB6.trans (hb7.mono hB6.size)
            have hsm2 := same_any A8 A5 L L i i c8 c5 w7 HNL.out HNL.out hR8 ((hR54.below hBr6).below hb7) (by omega)
            rw [decide_eq_true rfl] at hsm2
            go_wp2_with fail
            refine hsm2.mono ?_
            rintro e w8 ⟨rfl, hd8⟩
            go_wp2_with fail
            go_ret
            exact ⟨rfl, hB7.trans (hd8.below _)⟩
end Go.Proofs.YtcagkoakbdbbaaaGreatDoor
