/- The program's text: a line without its end. -/
import Derived.Test.YtcagkoakbdbbaaaGreatDoorH5
import Derived.Lib.SlBytesConst
import Derived.Lib.SlBytesRowKit2
namespace Go.Proofs.YtcagkoakbdbbaaaGreatDoor
set_option linter.unusedVariables false
set_option linter.unusedSimpArgs false
open Go.RowKit Go.Shelf

theorem suf1 (l : List UInt8) (x : UInt8) : Lib.hasSuffix l [x] = decide (l.getLast? = some x) := by
  unfold Lib.hasSuffix
  rw [Bool.eq_iff_iff, List.isSuffixOf_iff_suffix, decide_eq_true_eq]
  constructor
  · rintro ⟨t, rfl⟩
    simp
  · intro h
    obtain ⟨t, rfl⟩ := List.getLast?_eq_some_iff.1 h
    exact ⟨t, rfl⟩
theorem mark_below (w : World) (C : Array Value) (e : TypeId) (fr : Nat × Nat) : Below w.heap.size w (w.alloc (.cells C e fr)) := (Below.refl _ _).alloc (Nat.le_refl _) _

theorem cutsuf_any (A : Option Addr) (l : List UInt8) (x : UInt8) (B : Nat) (n c d : Nat) (w : World) (hn : l.length = n) (hA : Rb w A l) (hnc : n ≤ c) (hb : n ≤ 1000000000) (hx : Rb w (some ⟨B, 0, none⟩) [x]) :
    Calls Tryz.prog 56 #[.slice A n c, .slice (some ⟨B, 0, none⟩) 1 d] w fun e w' => e = .returned (.tuple #[.slice A (cutC x l).length c, .bool (decide (l.getLast? = some x))]) ∧ w' = w := by
  subst hn
  have h := Tryz.bytes_CutSuffix_all A (some ⟨B, 0, none⟩) l.length c 1 d (nums l) (nums [x]) w (nums_len l) rfl hnc (by omega) (bytesIn_of hA) (bytesIn_of hx)
  rw [trimSuffixV_eq (nums_len l) (bytesIn_of hA), bytesOf_nums, bytesOf_nums, suf1] at h
  refine h.mono ?_
  rintro e w' ⟨rfl, rfl⟩
  refine ⟨?_, rfl⟩
  unfold cutC
  by_cases hl : l.getLast? = some x
  · rw [if_pos hl]
    simp [hl, nums]
  · rw [if_neg hl]
    simp [hl]
theorem trimsuf_any (A : Option Addr) (l : List UInt8) (x : UInt8) (B : Nat) (n c d : Nat) (w : World) (hn : l.length = n) (hA : Rb w A l) (hnc : n ≤ c) (hb : n ≤ 1000000000) (hx : Rb w (some ⟨B, 0, none⟩) [x]) :
    Calls Tryz.prog 57 #[.slice A n c, .slice (some ⟨B, 0, none⟩) 1 d] w fun e w' => e = .returned (.slice A (cutC x l).length c) ∧ w' = w := by
  subst hn
  have h := Tryz.bytes_TrimSuffix_all A (some ⟨B, 0, none⟩) l.length c 1 d (nums l) (nums [x]) w (nums_len l) rfl hnc (by omega) (bytesIn_of hA) (bytesIn_of hx)
  rw [trimSuffixV_eq (nums_len l) (bytesIn_of hA), bytesOf_nums, bytesOf_nums, suf1] at h
  refine h.mono ?_
  rintro e w' ⟨rfl, rfl⟩
  refine ⟨?_, rfl⟩
  unfold cutC
  by_cases hl : l.getLast? = some x
  · rw [if_pos hl]
    simp [hl, nums]
  · rw [if_neg hl]
    simp [hl]

set_option maxRecDepth 100000 in
theorem text_any (A : Option Addr) (l : List UInt8) (n c : Nat) (w : World) (hn : l.length = n) (hA : Rb w A l) (hnc : n ≤ c) (hb : n ≤ 1000000000) :
    Calls Tryz.prog 31 #[.slice A n c] w fun e w' => e = .returned (.slice A (textL l).length c) ∧ Below w.heap.size w w' := by
  have HN := Lib.hid hn
  clear hn
  have hcv := Lib.run_convert_bytes_const (P := Tryz.prog) w 22 5 #[.int .u8 10] 1 1 Tryz.underlying22 Tryz.underlying5
  have hb1 := mark_below w #[.int .u8 10] 5 (1, 2)
  have hx1 : Rb (w.alloc (.cells #[.int .u8 10] 5 (1, 2))) (some ⟨w.heap.size, 0, none⟩) [10] := Rb_new w [10] _ _ rfl 1 (1, 2)
  have hcs := cutsuf_any A l 10 w.heap.size n c 1 _ HN.out (hA.below hb1) hnc hb hx1
  by_cases hl : l.getLast? = some 10
  · have HT : Hid (textL l = cutC 13 l.dropLast) := Lib.hid (by unfold textL; rw [if_pos hl])
    have e1 : cutC 10 l = l.dropLast := by unfold cutC; rw [if_pos hl]
    rw [e1, decide_eq_true hl] at hcs
    obtain ⟨m, hm⟩ : ∃ m, l.dropLast.length = m := ⟨_, rfl⟩
    have HM := Lib.hid hm
    rw [hm] at hcs
    have hmn : m ≤ n := by rw [← hm, List.length_dropLast, HN.out]; omega
    have hcv2 := Lib.run_convert_bytes_const (P := Tryz.prog) (w.alloc (.cells #[.int .u8 10] 5 (1, 2))) 22 5 #[.int .u8 13] 1 1 Tryz.underlying22 Tryz.underlying5
    have hb2 := hb1.trans ((mark_below (w.alloc (.cells #[.int .u8 10] 5 (1, 2))) #[.int .u8 13] 5 (1, 2)).mono hb1.size)
    have hx2 : Rb ((w.alloc (.cells #[.int .u8 10] 5 (1, 2))).alloc (.cells #[.int .u8 13] 5 (1, 2))) (some ⟨(w.alloc (.cells #[.int .u8 10] 5 (1, 2))).heap.size, 0, none⟩) [13] := Rb_new _ [13] _ _ rfl 1 (1, 2)
    have hAd : Rb w A l.dropLast := by
      rw [List.dropLast_eq_take]
      exact hA.take _
    have hts := trimsuf_any A l.dropLast 13 _ m c 1 _ HM.out (hAd.below hb2) (by omega) (by omega) hx2
    clear hm hl e1
    rw [World.size_alloc] at hts hcv2
    go_enter Tryz.func31, Tryz.ntmps31
    go_wp2_with fail
    refine hcs.mono ?_
    rintro e w1 ⟨rfl, rfl⟩
    go_wp2_with fail
    refine hts.mono ?_
    rintro e w2 ⟨rfl, rfl⟩
    go_wp2_with fail
    go_ret
    exact ⟨by rw [HT.out]; rfl, hb2⟩
  · have HT : Hid (textL l = l) := Lib.hid (by unfold textL; rw [if_neg hl])
    have e1 : cutC 10 l = l := by unfold cutC; rw [if_neg hl]
    rw [e1, decide_eq_false hl, HN.out] at hcs
    clear hl e1
    go_enter Tryz.func31, Tryz.ntmps31
    go_wp2_with fail
    refine hcs.mono ?_
    rintro e w1 ⟨rfl, rfl⟩
    go_wp2_with fail
    go_ret
    exact ⟨by rw [HT.out, HN.out]; rfl, hb1⟩
end Go.Proofs.YtcagkoakbdbbaaaGreatDoor
