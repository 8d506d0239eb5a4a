/- The law's speaks: the document's example. · Whether two rows of bytes are the same. · RewriteAgain's walk: what is none of the kinds does nothing; lines' ends made whole, folds, and letters that are done twice are as done once; fields that change places twice are as they were. · The reader of a head: a line. -/
import Derived.Test.YtcagkoakbdbbaaaGreatDoorJ15
import Derived.Test.YtcagkoakbdbbaaaGreatDoorChecked
import Derived.Test.YtcagkoakbdbbaaaGreatDoorJ03
import Derived.Test.YtcagkoakbdbbaaaGreatDoorJ34
import Derived.Test.YtcagkoakbdbbaaaGreatDoorJ06
import Derived.Test.YtcagkoakbdbbaaaGreatDoorJ07
namespace Go.Proofs.YtcagkoakbdbbaaaGreatDoor
set_option linter.unusedVariables false
set_option linter.unusedSimpArgs false
open Go.RowKit

/-- the example's mail, its first line, and what comes of it -/
def exM : List UInt8 := [70, 114, 111, 109, 58, 32, 97, 64, 98, 10, 10]
def exL : List UInt8 := [70, 114, 111, 109, 58, 32, 97, 64, 98, 10]
theorem ex_read : readG [] (fl exM) = some ([exL], [10], []) := by decide +kernel
theorem ex_ok : (![exL].isEmpty && !blank1 ([exL].headD [])) = true := by decide +kernel
theorem ex_out : [lettersL 2 exL].flatten ++ [10] ++ [] = [102, 82, 111, 109, 58, 32, 97, 64, 98, 10, 10] := by decide +kernel

set_option maxRecDepth 100000 in
set_option maxHeartbeats 1000000 in
theorem apply_case (A : Option Addr) (c : Nat) (T : ByteArray) (w : World) (hA : Rb w A exM) (hnc : 11 ≤ c) :
    Calls Tryz.prog 7 #[.slice A 11 c, .agg #[.int .i64 4, .int .i64 0, .int .i64 2, .string T]] w fun e w' => BOut [102, 82, 111, 109, 58, 32, 97, 64, 98, 10, 10] e w' ∧ Below w.heap.size w w' := by
  have hB0 : Below w.heap.size w (w.alloc (.cells #[.int .i64 4, .int .i64 0, .int .i64 2, .string T] 26)) := (Below.refl _ _).alloc (Nat.le_refl _) _
  have r0 := Row.new w #[.int .i64 4, .int .i64 0, .int .i64 2, .string T] 26
  have hrd := read_any A exM 11 c (w.alloc (.cells #[.int .i64 4, .int .i64 0, .int .i64 2, .string T] 26)) rfl (hA.below hB0) hnc (by omega)
  go_enter Tryz.func7, Tryz.ntmps7
  go_wp2_with fail
  refine hrd.mono ?_
  rintro e w1 ⟨hro, hb1⟩
  unfold ReadOut at hro
  rw [ex_read] at hro
  obtain ⟨fv, A1, c1, A2, c2, he, hF, hE, hce, hD, hcb⟩ := hro
  rw [ex_ok] at he
  rw [World.size_alloc] at hF hE hD
  simp only [List.length_cons, List.length_nil, Nat.zero_add] at he
  obtain ⟨A0, c0, hfv⟩ : ∃ A0 c0, fv = .slice A0 1 c0 := by
    obtain ⟨vs, ho, _⟩ := hF
    obtain ⟨A0, c0, hv, _⟩ := own_form ho
    exact ⟨A0, c0, hv⟩
  subst hfv
  obtain rfl := he
  have hB1 := hB0.trans (hb1.mono hB0.size)
  have r1 := r0.below hb1
  have hw0 : w.heap.size < w1.heap.size := r1.lt
  have hs1 : w.heap.size + 1 ≤ w1.heap.size := hw0
  have r3 := r1.alloc (.cells #[.slice A0 1 c0, .slice A1 1 c1, .slice A2 0 c2] 49)
  have q3 := Row.new w1 #[.slice A0 1 c0, .slice A1 1 c1, .slice A2 0 c2] 49
  have hm3 := mark_below w1 #[.slice A0 1 c0, .slice A1 1 c1, .slice A2 0 c2] 49 (0, 0)
  have F3 := hF.below hm3
  have hB3' := hb1.trans (hm3.mono hb1.size)
  rw [World.size_alloc] at hB3'
  have hB3 := hB1.trans (hm3.mono hB1.size)
  go_upto_region 2 with fail
  obtain ⟨w3, hw3⟩ : ∃ w3, w1.alloc (.cells #[.slice A0 1 c0, .slice A1 1 c1, .slice A2 0 c2] 49) = w3 := ⟨_, rfl⟩
  have hs3 : w3.heap.size = w1.heap.size + 1 := by rw [← hw3]; simp
  rw [hw3] at r3 q3 F3 hB3 hB3' ⊢
  clear hw3 r1 r0 hm3 hF
  have x0 := r3.cell (j := 0) rfl
  have x1 := r3.cell (j := 1) rfl
  have x2 := r3.cell (j := 2) rfl
  have x3 := r3.cell (j := 3) rfl
  have m0 := q3.cell (j := 0) rfl
  have m1 := q3.cell (j := 1) rfl
  have m2 := q3.cell (j := 2) rfl
  have hch := change_one A0 A1 A2 exL (w.heap.size + 1 + 1) c0 c1 c2 1 0 2 T w3 F3 (by omega) (by decide)
  go_wp2_with fail
  refine hch.mono ?_
  rintro e w4 ⟨rfl, F4, hb4⟩
  have hB4' := hB3'.trans (hb4.mono (by omega))
  have hB4 := hB3.trans (hb4.mono (by omega))
  have hs4 := hb4.size
  have hbt := bytes_any A0 A1 A2 [lettersL 2 exL] [10] [] (w.heap.size + 1 + 1) 1 c0 c1 c2 1 0 w4 F4 (hE w4 hB4') (hD w4 hB4') rfl rfl (by omega) (by omega) (by decide +kernel) (by omega) (by omega)
  rw [ex_out] at hbt
  go_wp2_with fail
  refine hbt.mono ?_
  rintro e w5 ⟨⟨A5, c5, rfl, g1, g2, g3, g4⟩, hb5⟩
  go_wp2_with fail
  go_ret
  exact ⟨⟨A5, c5, rfl, g1, g2, g3, g4⟩, hB4.trans (hb5.mono hB4.size)⟩

set_option maxRecDepth 100000 in
theorem speaks_any (w : World) : Calls Tryz.prog 6 #[] w fun e w' => e = .returned (.bool true) ∧ Below w.heap.size w w' := by
  have hcv := Lib.run_convert_bytes_const (P := Tryz.prog) w 22 5 #[.int .u8 70, .int .u8 114, .int .u8 111, .int .u8 109, .int .u8 58, .int .u8 32, .int .u8 97, .int .u8 64, .int .u8 98, .int .u8 10, .int .u8 10] 11 11 Tryz.underlying22 Tryz.underlying5
  have hb1 := mark_below w #[.int .u8 70, .int .u8 114, .int .u8 111, .int .u8 109, .int .u8 58, .int .u8 32, .int .u8 97, .int .u8 64, .int .u8 98, .int .u8 10, .int .u8 10] 5 (11, 12)
  have hx1 : Rb (w.alloc (.cells #[.int .u8 70, .int .u8 114, .int .u8 111, .int .u8 109, .int .u8 58, .int .u8 32, .int .u8 97, .int .u8 64, .int .u8 98, .int .u8 10, .int .u8 10] 5 (11, 12))) (some ⟨w.heap.size, 0, none⟩) exM := Rb_new w exM _ _ rfl 11 (11, 12)
  have hap := apply_case (some ⟨w.heap.size, 0, none⟩) 11 ⟨#[]⟩ _ hx1 (by omega)
  go_enter Tryz.func6, Tryz.ntmps6
  go_wp2_with fail
  refine hap.mono ?_
  rintro e w2 ⟨⟨A5, c5, rfl, g1, g2, g3, g4⟩, hb2⟩
  have hcs := conv_str (P := Tryz.prog) Tryz.underlying22 Tryz.underlying5 Tryz.underlying9 (n := 11) (c := c5) g3 rfl
  have hk : (bs [102, 82, 111, 109, 58, 32, 97, 64, 98, 10, 10] == (⟨#[102, 82, 111, 109, 58, 32, 97, 64, 98, 10, 10]⟩ : ByteArray)) = true := by decide
  go_wp2_with fail
  go_ret
  exact ⟨rfl, hb1.trans (hb2.mono hb1.size)⟩
end Go.Proofs.YtcagkoakbdbbaaaGreatDoor

namespace Go.Proofs.YtcagkoakbdbbaaaGreatDoor
set_option linter.unusedVariables false
set_option linter.unusedSimpArgs false
open Go.RowKit

set_option maxHeartbeats 400000 in
theorem same_any (A B : Option Addr) (xs ys : List UInt8) (n m c d : Nat) (w : World) (hn : xs.length = n) (hm : ys.length = m) (hA : Rb w A xs) (hB : Rb w B ys) (hl : n ≤ 9223372036854775807) :
    Calls Tryz.prog 8 #[.slice A n c, .slice B m d] w fun e w' => e = .returned (.bool (decide (xs = ys))) ∧ Dn w w' := by
  by_cases hnm : n = m
  · have HN := Lib.hid hn
    have HM := Lib.hid hm
    subst hnm
    clear hn hm
    go_enter Tryz.func8, Tryz.ntmps8
    go_wp2
    go_loopw [5] (fun i wr => ∃ k : Nat, k ≤ n ∧ i = .int .i64 k ∧ xs.take k = ys.take k ∧ ∃ q, wr = w.drewN q) (fun i _ => n - (intOf i).toNat)
    case atStart => exact ⟨0, Nat.zero_le _, rfl, by simp, 0, rfl⟩
    case round =>
      obtain ⟨k, hk, rfl, ht, q, rfl⟩ := hrel
      have HT := Lib.hid ht
      clear ht
      by_cases hlt : k < n
      · obtain ⟨b, o, x, rfl, HX, hxk⟩ := hA.one (k := k) (by rw [HN.out]; omega)
        obtain ⟨b', o', y, rfl, HY, hyk⟩ := hB.one (k := k) (by rw [HM.out]; omega)
        go_wp2_with fail
        go_quiet (fail)
        go_wp2
        · have h : ((x.toNat : Int) != y.toNat) = true := by assumption
          have hxy : ¬ xs = ys := fun e => by
            subst e
            have := HX.out.symm.trans HY.out
            simp_all
          go_ret
          exact ⟨ret_bool (decide_eq_false hxy).symm, Dn.of2 _ _ _⟩
        · have h : ((x.toNat : Int) != y.toNat) = false := by assumption
          have he : x = y := u8_eq.1 (by simpa using h)
          go_roundw
          case rel => exact ⟨k + 1, by omega, by go_num, by rw [take_succ_of HX.out, take_succ_of HY.out, HT.out, he], _, rfl⟩
          case measure => simp [intOf]; omega
      · have hxy : xs = ys := by
          have h := HT.out
          rwa [List.take_of_length_le (by rw [HN.out]; omega), List.take_of_length_le (by rw [HM.out]; omega)] at h
        go_wp2
        go_ret
        exact ⟨ret_bool (decide_eq_true hxy).symm, Dn.of _ _⟩
  · have hxy : ¬ xs = ys := fun e => by subst e; omega
    clear hn hm
    go_enter Tryz.func8, Tryz.ntmps8
    go_wp2
    go_ret
    exact ⟨ret_bool (decide_eq_false hxy).symm, Dn.refl _⟩
end Go.Proofs.YtcagkoakbdbbaaaGreatDoor

namespace Go.Proofs.YtcagkoakbdbbaaaGreatDoor
set_option linter.unusedVariables false
set_option linter.unusedSimpArgs false
open Go.RowKit

set_option maxRecDepth 100000 in
set_option maxHeartbeats 2000000 in
theorem rewriteAgain_any (A : Option Addr) (b t : List UInt8) (n c : Nat) (z N M : Int) (w : World) (hG : Gl w) (hn : b.length = n) (hA : Rb w A b) (hpl : Pl A c) (hnc : n ≤ c) (hx : n ≤ 9223372036854775807) (ht : t.length ≤ 9223372036854775807) (hN : -9223372036854775808 ≤ N ∧ N ≤ 9223372036854775807) (hM : -9223372036854775808 ≤ M ∧ M ≤ 9223372036854775807) :
    Calls Tryz.prog 4 #[.slice A n c, .agg #[.int .i64 z, .int .i64 N, .int .i64 M, .string (bs t)]] w fun e w' => e = .returned (.bool true) ∧ Below w.heap.size w w' := by
  have HN := Lib.hid hn
  clear hn
  have hB0 : Below w.heap.size w (w.alloc (.cells #[.int .i64 z, .int .i64 N, .int .i64 M, .string (bs t)] 26)) := (Below.refl _ _).alloc (Nat.le_refl _) _
  have r0 := Row.new w #[.int .i64 z, .int .i64 N, .int .i64 M, .string (bs t)] 26
  go_enter Tryz.func4, Tryz.ntmps4
  go_wp2_with fail
  refine (speaks_any _).mono ?_
  rintro e w1 ⟨rfl, hb1⟩
  have hB1 := hB0.trans (hb1.mono hB0.size)
  have r1 := r0.below hb1
  have x0 := r1.cell (j := 0) rfl
  have x1 := r1.cell (j := 1) rfl
  have x2 := r1.cell (j := 2) rfl
  have x3 := r1.cell (j := 3) rfl
  clear r0 hb1 hB0
  by_cases g1 : 2000 < n
  · go_wp2_with fail
    go_ret
    exact ⟨rfl, hB1⟩
  by_cases g2 : 300 < t.length
  · have g2i : (300 : Int) < (t.length : Int) := by omega
    go_wp2_with fail
    go_ret
    exact ⟨rfl, hB1⟩
  have g2i : ¬ (300 : Int) < (t.length : Int) := by omega
  have hap := apply_any A b t n c z N M w1 (hG.below hB1) HN.out (hA.below hB1) hpl hnc (by omega) ht hN hM
  go_wp2_with fail
  refine hap.mono ?_
  rintro e w2 ⟨⟨o1, hz1, A5, c5, rfl, g5, k5, hR5, p5⟩, hb2⟩
  have hB2 := hB1.trans (hb2.mono hB1.size)
  have hl1 : o1.length ≤ 14212 := by have := appZ_len hz1; rw [HN.out] at this; omega
  have HZ1 := Lib.hid hz1
  obtain ⟨n1, hn1⟩ : ∃ n1, o1.length = n1 := ⟨_, rfl⟩
  have HN1 := Lib.hid hn1
  rw [hn1] at g5 hl1 ⊢
  have r2 := r1.below hb2
  have x0 := r2.cell (j := 0) rfl
  have x1 := r2.cell (j := 1) rfl
  have x2 := r2.cell (j := 2) rfl
  have x3 := r2.cell (j := 3) rfl
  clear hap hz1 hn1 r1
  have hap := apply_any A5 o1 t n1 c5 z N M w2 (hG.below hB2) HN1.out hR5 p5 g5 (by omega) ht hN hM
  go_wp2_with fail
  refine hap.mono ?_
  rintro e w3 ⟨⟨o2, hz2, A6, c6, rfl, g6, k6, hR6, p6⟩, hb3⟩
  have hB3 := hB2.trans (hb3.mono hB2.size)
  have HZ2 := Lib.hid hz2
  obtain ⟨n2, hn2⟩ : ∃ n2, o2.length = n2 := ⟨_, rfl⟩
  have hl2 : n2 ≤ 200000 := by have := appZ_len hz2; rw [HN1.out, hn2] at this; omega
  have HN2 := Lib.hid hn2
  rw [hn2] at g6 ⊢
  have r3 := r2.below hb3
  have x0 := r3.cell (j := 0) rfl
  have hR5' := hR5.below hb3
  clear hap hz2 hn2 r2 x1 x2 x3
  by_cases z1 : z = 1
  · subst z1
    go_wp2_with fail
    go_ret
    exact ⟨rfl, hB3⟩
  by_cases z6 : z = 6
  · subst z6
    go_wp2_with fail
    go_ret
    exact ⟨rfl, hB3⟩
  by_cases z5 : z = 5
  · subst z5
    go_wp2_with fail
    go_ret
    exact ⟨rfl, hB3⟩
  by_cases z8 : z = 8
  · subst z8
    go_wp2_with fail
    go_ret
    exact ⟨rfl, hB3⟩
  by_cases z2 : z = 2
  · subst z2
    have he : o1 = o2 := again_once (by omega) HZ1.out HZ2.out
    have hsm := same_any A5 A6 o1 o2 n1 n2 c5 c6 w3 HN1.out HN2.out hR5' hR6 (by omega)
    rw [decide_eq_true he] at hsm
    clear he
    go_wp2_with fail
    refine hsm.mono ?_
    rintro e w4 ⟨rfl, hd4⟩
    go_wp2_with fail
    go_ret
    exact ⟨rfl, hB3.trans (hd4.below _)⟩
  by_cases z3 : z = 3
  · subst z3
    have he : o1 = o2 := again_once (by omega) HZ1.out HZ2.out
    have hsm := same_any A5 A6 o1 o2 n1 n2 c5 c6 w3 HN1.out HN2.out hR5' hR6 (by omega)
    rw [decide_eq_true he] at hsm
    clear he
    go_wp2_with fail
    refine hsm.mono ?_
    rintro e w4 ⟨rfl, hd4⟩
    go_wp2_with fail
    go_ret
    exact ⟨rfl, hB3.trans (hd4.below _)⟩
  by_cases z4 : z = 4
  · subst z4
    have he : o1 = o2 := again_once (by omega) HZ1.out HZ2.out
    have hsm := same_any A5 A6 o1 o2 n1 n2 c5 c6 w3 HN1.out HN2.out hR5' hR6 (by omega)
    rw [decide_eq_true he] at hsm
    clear he
    go_wp2_with fail
    refine hsm.mono ?_
    rintro e w4 ⟨rfl, hd4⟩
    go_wp2_with fail
    go_ret
    exact ⟨rfl, hB3.trans (hd4.below _)⟩
  by_cases z7 : z = 7
  · subst z7
    have he : o2 = b := again_back HZ1.out HZ2.out
    have hsm := same_any A6 A o2 b n2 n c6 c w3 HN2.out HN.out hR6 (hA.below hB3) (by omega)
    rw [decide_eq_true he] at hsm
    clear he
    go_wp2_with fail
    refine hsm.mono ?_
    rintro e w4 ⟨rfl, hd4⟩
    go_wp2_with fail
    go_ret
    exact ⟨rfl, hB3.trans (hd4.below _)⟩
  have q1 : (z == 1) = false := by rw [beq_eq_false_iff_ne]; exact z1
  have q2 : (z == 2) = false := by rw [beq_eq_false_iff_ne]; exact z2
  have q3 : (z == 3) = false := by rw [beq_eq_false_iff_ne]; exact z3
  have q4 : (z == 4) = false := by rw [beq_eq_false_iff_ne]; exact z4
  have q5 : (z == 5) = false := by rw [beq_eq_false_iff_ne]; exact z5
  have q6 : (z == 6) = false := by rw [beq_eq_false_iff_ne]; exact z6
  have q7 : (z == 7) = false := by rw [beq_eq_false_iff_ne]; exact z7
  have q8 : (z == 8) = false := by rw [beq_eq_false_iff_ne]; exact z8
  have he : o1 = b := again_none ⟨z1, z2, z3, z4, z5, z6, z7, z8⟩ HZ1.out
  have hsm := same_any A5 A o1 b n1 n c5 c w3 HN1.out HN.out hR5' (hA.below hB3) (by omega)
  rw [decide_eq_true he] at hsm
  clear he
  go_wp2_with fail
  refine hsm.mono ?_
  rintro e w4 ⟨rfl, hd4⟩
  go_wp2_with fail
  go_ret
  exact ⟨rfl, hB3.trans (hd4.below _)⟩
end Go.Proofs.YtcagkoakbdbbaaaGreatDoor

namespace Go.Proofs.YtcagkoakbdbbaaaGreatDoor
namespace Fd
set_option linter.unusedVariables false
set_option linter.unusedSimpArgs false
open Go.RowKit

theorem grown_trans {w w1 w2 : World} {g : Nat} {row : Option Nat} (h : w.grownBy w1 (some g)) (k : w1.grownBy w2 row) (hr : ∀ j, row = some j → j = g ∨ w.heap.size ≤ j) : w.grownBy w2 (some g) :=
  ⟨k.os.trans h.os, k.tape.trans h.tape, k.output.trans h.output, Nat.le_trans h.size k.size, fun j hj hne => (k.block j (Nat.lt_of_lt_of_le hj h.size) (fun e => by
    rcases hr j e.symm with rfl | h2
    · exact hne rfl
    · omega)).trans (h.block j hj hne)⟩
theorem grown_below {w w1 w2 : World} {g : Nat} (h : w.grownBy w1 (some g)) (k : Below w1.heap.size w1 w2) : w.grownBy w2 (some g) := grown_trans h (grown_of_below k none) (by simp)
theorem below_grown {N : Nat} {w w1 : World} {g : Nat} (h : w.grownBy w1 (some g)) (hN : N ≤ g) (hs : N ≤ w.heap.size) : Below N w w1 :=
  ⟨h.os, h.tape, h.output, h.size, fun j hj => h.block j (by omega) (fun e => by have := Option.some.inj e; omega)⟩

theorem mark_cell (w : World) (x : Value) (t : TypeId) : (w.alloc (.cells #[x] t (1, 2))).cell? ⟨w.heap.size, 0, none⟩ = some x := by
  have hh : (w.alloc (.cells #[x] t (1, 2))).heap[w.heap.size]? = some (.cells #[x] t (1, 2)) := World.alloc_heap_new w _
  simp only [World.cell?, hh]
  rfl
/-- the reader, as its block holds it -/
abbrev Rd (w : World) (g : Nat) (rest fields : Value) : Prop := Row w g 78 [rest, fields]
theorem Rd.apart {w : World} {g : Nat} {r f : Value} (h : Rd w g r f) (hr : ∀ k z, r ≠ .int k z) (hf : ∀ k z, f ≠ .int k z) {A : Option Addr} {l : List UInt8} (hA : Rb w A l) (hl : 0 < l.length) : ∃ b o, A = some ⟨b, o, none⟩ ∧ b ≠ g := by
  obtain ⟨b, o, x, rfl, _, hc⟩ := hA.one hl
  refine ⟨b, o, rfl, ?_⟩
  rintro rfl
  simp only [World.cell?, show w.heap[b]? = _ from h] at hc
  match ho : o + 0 with
  | 0 => rw [ho] at hc; simp at hc; exact hr _ _ hc
  | 1 => rw [ho] at hc; simp at hc; exact hf _ _ hc
  | k + 2 => rw [ho] at hc; simp at hc
theorem _root_.Go.Proofs.YtcagkoakbdbbaaaGreatDoor.Rb.grown {w w1 : World} {g : Nat} {A : Option Addr} {l : List UInt8} (hA : Rb w A l) (hg : w.grownBy w1 (some g)) (hne : 0 < l.length → ∃ b o, A = some ⟨b, o, none⟩ ∧ b ≠ g) : Rb w1 A l := fun hp => by
  obtain ⟨b, o, rfl, hc⟩ := hA hp
  obtain ⟨b', o', e, hb⟩ := hne (by simpa using hp)
  cases e
  exact ⟨b, o, rfl, fun j v hj => hg.cell (hc j v hj) (fun e => hb (Option.some.inj e))⟩

/-- what a line's reading answers -/
def LineOut (g : Nat) (A : Option Addr) (l : List UInt8) (n c : Nat) (fv : Value) (e : Ending) (w' : World) : Prop :=
  match cutAt 10 l with
  | some (a, b) => ∃ B d, e = .returned (.tuple #[.slice A (deCr a).length c, .bool true]) ∧ Rd w' g (.slice B b.length d) fv ∧ Rb w' A (deCr a) ∧ Rb w' B b ∧ b.length ≤ d ∧ Pl B d ∧ SB A B
  | none => e = .returned (.tuple #[.slice A (deCr l).length c, .bool false]) ∧ Rd w' g (.slice A n c) fv

set_option maxRecDepth 100000 in
set_option maxHeartbeats 1000000 in
theorem line_any (g : Nat) (A : Option Addr) (l : List UInt8) (n c : Nat) (fv : Value) (w : World) (hn : l.length = n) (hR : Rd w g (.slice A n c) fv) (hf : ∀ k z, fv ≠ .int k z) (hA : Rb w A l) (hnc : n ≤ c) (hpl : Pl A c) (hb : n ≤ 100000000) :
    Calls Tryz.prog 53 #[.pointer (some ⟨g, 0, none⟩)] w fun e w' => LineOut g A l n c fv e w' ∧ w.grownBy w' (some g) := by
  have c0 : w.cell? ⟨g, 0, none⟩ = some (.slice A n c) := hR.cell rfl
  have kc := fun (w : World) (C : Array Value) (n c : Nat) => Lib.run_convert_bytes_const (P := Tryz.prog) w 22 5 C n c Tryz.underlying22 Tryz.underlying5
  have HR := Lib.hid hR
  clear hR
  go_enter Tryz.func53, Tryz.ntmps53
  go_wp2_with fail
  have hb1 : Below w.heap.size w (w.alloc (.cells #[.int .u8 10] 5 (1, 2))) := (Below.refl _ _).alloc (Nat.le_refl _) _
  have hs10 : (w.alloc (.cells #[.int .u8 10] 5 (1, 2))).cell? ⟨w.heap.size, 0, none⟩ = some (bv 10) := mark_cell _ _ _
  refine (cut_any A l n c w.heap.size 0 1 10 _ hn (hA.below hb1) hnc hpl hs10 (by omega)).mono ?_
  rintro e w2 ⟨hcut, hd⟩
  have hb2 := hb1.trans ((hd.below _).mono hb1.size)
  have hR2 : Rd w2 g (.slice A n c) fv := HR.out.below hb2
  have hA2 := hA.below hb2
  have c2 : w2.cell? ⟨g, 0, none⟩ = some (.slice A n c) := hR2.cell rfl
  have z2 : w2.frozen? ⟨g, 0, none⟩ = false := hR2.frozen 0
  have hg2 : w.grownBy w2 (some g) := grown_of_below hb2 _
  unfold CutOut at hcut
  cases hc : cutAt 10 l with
  | none =>
    rw [hc] at hcut
    subst hcut
    have hb3 : Below w2.heap.size w2 (w2.alloc (.cells #[.int .u8 13] 5 (1, 2))) := (Below.refl _ _).alloc (Nat.le_refl _) _
    have HR2 := Lib.hid hR2
    clear hR2 hd hs10
    go_wp2_with fail
    refine (trimCr_any A l n c w2.heap.size 0 1 _ hn (hA2.below hb3) hnc (mark_cell _ _ _) (by omega)).mono ?_
    rintro e w3 ⟨rfl, rfl⟩
    go_wp2_with fail
    go_ret2
    refine ⟨?_, grown_below hg2 hb3⟩
    unfold LineOut
    rw [hc]
    exact ⟨rfl, HR2.out.below hb3⟩
  | some p =>
    obtain ⟨a, b⟩ := p
    rw [hc] at hcut
    obtain ⟨B, d, rfl, hRa, hRb, hbd, hplB, hac, hsb⟩ := hcut
    have hR3 : Rd (w2.setCell ⟨g, 0, none⟩ (.slice B b.length d)) g (.slice B b.length d) fv := hR2.set 0 _
    have hg3 : w2.grownBy (w2.setCell ⟨g, 0, none⟩ (.slice B b.length d)) (some g) := grownBy_setCell' _ _ _
    have hap := fun {A : Option Addr} {l : List UInt8} (h : Rb w2 A l) => Rd.apart (A := A) (l := l) hR2 (fun _ _ h => by cases h) hf h
    have hRa3 := hRa.grown hg3 (hap hRa)
    have hRb3 := hRb.grown hg3 (hap hRb)
    have hal : a.length ≤ n := by
      have := (cutAt_some hc).1
      rw [← hn, this]
      simp
    have hg23 := grown_trans hg2 hg3 (fun j h => .inl (Option.some.inj h).symm)
    have HR3 := Lib.hid hR3
    have hsz : (w2.setCell ⟨g, 0, none⟩ (.slice B b.length d)).heap.size = w2.heap.size := by simp
    have kc3 : ∀ (C : Array Value) (n c : Nat), _ := fun C n c => kc (w2.setCell ⟨g, 0, none⟩ (.slice B b.length d)) C n c
    rw [hsz] at kc3
    have HSZ := Lib.hid hsz
    clear hR3 hR2 hd hs10 hsz
    go_wp2_with fail
    generalize w2.setCell ⟨g, 0, none⟩ (.slice B b.length d) = w3 at *
    rw [← HSZ.out]
    have hb4 : Below w3.heap.size w3 (w3.alloc (.cells #[.int .u8 13] 5 (1, 2))) := (Below.refl _ _).alloc (Nat.le_refl _) _
    refine (trimCr_any A a a.length c w3.heap.size 0 1 _ rfl (hRa3.below hb4) hac (mark_cell _ _ _) (by omega)).mono ?_
    rintro e w4 ⟨rfl, rfl⟩
    have hRd : Rb (w3.alloc (.cells #[.int .u8 13] 5 (1, 2))) A (deCr a) := by
      unfold deCr
      split
      · exact (hRa3.below hb4).take _
      · exact hRa3.below hb4
    go_wp2_with fail
    go_ret2
    refine ⟨?_, grown_below hg23 hb4⟩
    unfold LineOut
    rw [hc]
    exact ⟨B, d, rfl, HR3.out.below hb4, hRd, hRb3.below hb4, hbd, hplB, hsb⟩
end Fd
end Go.Proofs.YtcagkoakbdbbaaaGreatDoor
