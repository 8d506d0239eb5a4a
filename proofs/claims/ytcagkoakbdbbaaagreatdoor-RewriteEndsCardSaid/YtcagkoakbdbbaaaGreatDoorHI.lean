/- The law's speaks: the document's example. -/
import Derived.Test.YtcagkoakbdbbaaaGreatDoorHH
namespace Go.Proofs.YtcagkoakbdbbaaaGreatDoor
set_option linter.unusedVariables false
set_option linter.unusedSimpArgs false
open Go.RowKit

/-- the example's mail, its first line, and what comes of it -/
def exM : List UInt8 := [70, 114, 111, 109, 58, 32, 97, 64, 98, 10, 10]
def exL : List UInt8 := [70, 114, 111, 109, 58, 32, 97, 64, 98, 10]
theorem ex_read : readG [] (fl exM) = some ([exL], [10], []) := by decide +kernel
theorem ex_ok : (![exL].isEmpty && !blank1 ([exL].headD [])) = true := by decide +kernel
theorem ex_out : [lettersL 2 exL].flatten ++ [10] ++ [] = [102, 82, 111, 109, 58, 32, 97, 64, 98, 10, 10] := by decide +kernel

set_option maxRecDepth 100000 in
set_option maxHeartbeats 1000000 in
theorem apply_case (A : Option Addr) (c : Nat) (T : ByteArray) (w : World) (hA : Rb w A exM) (hnc : 11 ≤ c) :
    Calls Tryz.prog 7 #[.slice A 11 c, .agg #[.int .i64 4, .int .i64 0, .int .i64 2, .string T]] w fun e w' => BOut [102, 82, 111, 109, 58, 32, 97, 64, 98, 10, 10] e w' ∧ Below w.heap.size w w' := by
  have hB0 : Below w.heap.size w (w.alloc (.cells #[.int .i64 4, .int .i64 0, .int .i64 2, .string T] 26)) := (Below.refl _ _).alloc (Nat.le_refl _) _
  have r0 := Row.new w #[.int .i64 4, .int .i64 0, .int .i64 2, .string T] 26
  have hrd := read_any A exM 11 c (w.alloc (.cells #[.int .i64 4, .int .i64 0, .int .i64 2, .string T] 26)) rfl (hA.below hB0) hnc (by omega)
  go_enter Tryz.func7, Tryz.ntmps7
  go_wp2_with fail
  refine hrd.mono ?_
  rintro e w1 ⟨hro, hb1⟩
  unfold ReadOut at hro
  rw [ex_read] at hro
  obtain ⟨fv, A1, c1, A2, c2, he, hF, hE, hce, hD, hcb⟩ := hro
  rw [ex_ok] at he
  rw [World.size_alloc] at hF hE hD
  simp only [List.length_cons, List.length_nil, Nat.zero_add] at he
  obtain ⟨A0, c0, hfv⟩ : ∃ A0 c0, fv = .slice A0 1 c0 := by
    obtain ⟨vs, ho, _⟩ := hF
    obtain ⟨A0, c0, hv, _⟩ := own_form ho
    exact ⟨A0, c0, hv⟩
  subst hfv
  obtain rfl := he
  have hB1 := hB0.trans (hb1.mono hB0.size)
  have r1 := r0.below hb1
  have hw0 : w.heap.size < w1.heap.size := r1.lt
  have hs1 : w.heap.size + 1 ≤ w1.heap.size := hw0
  have r3 := r1.alloc (.cells #[.slice A0 1 c0, .slice A1 1 c1, .slice A2 0 c2] 49)
  have q3 := Row.new w1 #[.slice A0 1 c0, .slice A1 1 c1, .slice A2 0 c2] 49
  have hm3 := mark_below w1 #[.slice A0 1 c0, .slice A1 1 c1, .slice A2 0 c2] 49 (0, 0)
  have F3 := hF.below hm3
  have hB3' := hb1.trans (hm3.mono hb1.size)
  rw [World.size_alloc] at hB3'
  have hB3 := hB1.trans (hm3.mono hB1.size)
  go_upto_region 2 with fail
  obtain ⟨w3, hw3⟩ : ∃ w3, w1.alloc (.cells #[.slice A0 1 c0, .slice A1 1 c1, .slice A2 0 c2] 49) = w3 := ⟨_, rfl⟩
  have hs3 : w3.heap.size = w1.heap.size + 1 := by rw [← hw3]; simp
  rw [hw3] at r3 q3 F3 hB3 hB3' ⊢
  clear hw3 r1 r0 hm3 hF
  have x0 := r3.cell (j := 0) rfl
  have x1 := r3.cell (j := 1) rfl
  have x2 := r3.cell (j := 2) rfl
  have x3 := r3.cell (j := 3) rfl
  have m0 := q3.cell (j := 0) rfl
  have m1 := q3.cell (j := 1) rfl
  have m2 := q3.cell (j := 2) rfl
  have hch := change_one A0 A1 A2 exL (w.heap.size + 1 + 1) c0 c1 c2 1 0 2 T w3 F3 (by omega) (by decide)
  go_wp2_with fail
  refine hch.mono ?_
  rintro e w4 ⟨rfl, F4, hb4⟩
  have hB4' := hB3'.trans (hb4.mono (by omega))
  have hB4 := hB3.trans (hb4.mono (by omega))
  have hs4 := hb4.size
  have hbt := bytes_any A0 A1 A2 [lettersL 2 exL] [10] [] (w.heap.size + 1 + 1) 1 c0 c1 c2 1 0 w4 F4 (hE w4 hB4') (hD w4 hB4') rfl rfl (by omega) (by omega) (by decide +kernel) (by omega) (by omega)
  rw [ex_out] at hbt
  go_wp2_with fail
  refine hbt.mono ?_
  rintro e w5 ⟨⟨A5, c5, rfl, g1, g2, g3, g4⟩, hb5⟩
  go_wp2_with fail
  go_ret
  exact ⟨⟨A5, c5, rfl, g1, g2, g3, g4⟩, hB4.trans (hb5.mono hB4.size)⟩

set_option maxRecDepth 100000 in
theorem speaks_any (w : World) : Calls Tryz.prog 6 #[] w fun e w' => e = .returned (.bool true) ∧ Below w.heap.size w w' := by
  have hcv := Lib.run_convert_bytes_const (P := Tryz.prog) w 22 5 #[.int .u8 70, .int .u8 114, .int .u8 111, .int .u8 109, .int .u8 58, .int .u8 32, .int .u8 97, .int .u8 64, .int .u8 98, .int .u8 10, .int .u8 10] 11 11 Tryz.underlying22 Tryz.underlying5
  have hb1 := mark_below w #[.int .u8 70, .int .u8 114, .int .u8 111, .int .u8 109, .int .u8 58, .int .u8 32, .int .u8 97, .int .u8 64, .int .u8 98, .int .u8 10, .int .u8 10] 5 (11, 12)
  have hx1 : Rb (w.alloc (.cells #[.int .u8 70, .int .u8 114, .int .u8 111, .int .u8 109, .int .u8 58, .int .u8 32, .int .u8 97, .int .u8 64, .int .u8 98, .int .u8 10, .int .u8 10] 5 (11, 12))) (some ⟨w.heap.size, 0, none⟩) exM := Rb_new w exM _ _ rfl 11 (11, 12)
  have hap := apply_case (some ⟨w.heap.size, 0, none⟩) 11 ⟨#[]⟩ _ hx1 (by omega)
  go_enter Tryz.func6, Tryz.ntmps6
  go_wp2_with fail
  refine hap.mono ?_
  rintro e w2 ⟨⟨A5, c5, rfl, g1, g2, g3, g4⟩, hb2⟩
  have hcs := conv_str (P := Tryz.prog) Tryz.underlying22 Tryz.underlying5 Tryz.underlying9 (n := 11) (c := c5) g3 rfl
  have hk : (bs [102, 82, 111, 109, 58, 32, 97, 64, 98, 10, 10] == (⟨#[102, 82, 111, 109, 58, 32, 97, 64, 98, 10, 10]⟩ : ByteArray)) = true := by decide
  go_wp2_with fail
  go_ret
  exact ⟨rfl, hb1.trans (hb2.mono hb1.size)⟩
end Go.Proofs.YtcagkoakbdbbaaaGreatDoor
