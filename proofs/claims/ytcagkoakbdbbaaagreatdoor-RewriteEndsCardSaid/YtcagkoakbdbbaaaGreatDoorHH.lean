/- The program's Apply: lines' ends (kinds 1 and 2); kind 4 at a mail of one field. -/
import Derived.Test.YtcagkoakbdbbaaaGreatDoorHG
import Derived.Test.YtcagkoakbdbbaaaGreatDoorH9
namespace Go.Proofs.YtcagkoakbdbbaaaGreatDoor
set_option linter.unusedVariables false
set_option linter.unusedSimpArgs false
open Go.RowKit

theorem ReadOut.form {w : World} {b : List UInt8} {e : Ending} {w' : World} (h : ReadOut w b e w') : ∃ A0 n0 c0 A1 n1 c1 A2 n2 c2 wh ok, e = .returned (.tuple #[.agg #[.slice A0 n0 c0, .slice A1 n1 c1, .slice A2 n2 c2], .bool wh, .bool ok]) := by
  unfold ReadOut at h
  cases hr : readG [] (fl b) with
  | none => rw [hr] at h; exact ⟨none, 0, 0, none, 0, 0, none, 0, 0, _, _, h⟩
  | some p =>
    obtain ⟨fs, en, bd⟩ := p
    rw [hr] at h
    obtain ⟨fv, Ae, ce, Ab, cb, he, ⟨vs, ho, _⟩, _⟩ := h
    obtain ⟨A0, c0, hv, _⟩ := own_form ho
    subst hv
    exact ⟨_, _, _, _, _, _, _, _, _, _, _, he⟩

set_option maxRecDepth 100000 in
set_option maxHeartbeats 1000000 in
theorem apply_bare (A : Option Addr) (b : List UInt8) (n c : Nat) (N M : Int) (T : ByteArray) (w : World) (hn : b.length = n) (hA : Rb w A b) (hpl : Pl A c) (hnc : n ≤ c) (hb : n ≤ 1000000) (hw : MxR w) :
    Calls Tryz.prog 7 #[.slice A n c, .agg #[.int .i64 1, .int .i64 N, .int .i64 M, .string T]] w fun e w' => BOut (bareL b) e w' ∧ Below w.heap.size w w' := by
  have hB0 : Below w.heap.size w (w.alloc (.cells #[.int .i64 1, .int .i64 N, .int .i64 M, .string T] 26)) := (Below.refl _ _).alloc (Nat.le_refl _) _
  have r0 := Row.new w #[.int .i64 1, .int .i64 N, .int .i64 M, .string T] 26
  have hrd := read_any A b n c (w.alloc (.cells #[.int .i64 1, .int .i64 N, .int .i64 M, .string T] 26)) hn (hA.below hB0) hnc hb
  have HN := Lib.hid hn
  clear hn
  go_enter Tryz.func7, Tryz.ntmps7
  go_wp2_with fail
  refine hrd.mono ?_
  rintro e w1 ⟨hro, hb1⟩
  obtain ⟨A0, n0, c0, A1, n1, c1, A2, n2, c2, wh, ok, rfl⟩ := hro.form
  have hB1 := hB0.trans (hb1.mono hB0.size)
  have r1 := r0.below hb1
  have hw0 : w.heap.size < w1.heap.size := r1.lt
  have r3 := r1.alloc (.cells #[.slice A0 n0 c0, .slice A1 n1 c1, .slice A2 n2 c2] 49)
  have hB3 := hB1.trans ((mark_below w1 #[.slice A0 n0 c0, .slice A1 n1 c1, .slice A2 n2 c2] 49 (0, 0)).mono hB1.size)
  clear hro hrd
  go_upto_region 2 with fail
  obtain ⟨w3, hw3⟩ : ∃ w3, w1.alloc (.cells #[.slice A0 n0 c0, .slice A1 n1 c1, .slice A2 n2 c2] 49) = w3 := ⟨_, rfl⟩
  rw [hw3] at r3 hB3 ⊢
  clear hw3 r1 r0
  have x0 := r3.cell (j := 0) rfl
  have hba := bare_any A b n c w3 HN.out (hA.below hB3) hpl hnc hb (hw.below hB3)
  go_wp2_with fail
  refine hba.mono ?_
  rintro e w4 ⟨⟨A5, c5, rfl, g1, g2, g3, g4⟩, hb4⟩
  go_wp2_with fail
  go_ret
  exact ⟨⟨A5, c5, rfl, g1, g2, g3, g4⟩, hB3.trans (hb4.mono hB3.size)⟩

set_option maxRecDepth 100000 in
set_option maxHeartbeats 1000000 in
theorem apply_whole (A : Option Addr) (b : List UInt8) (n c : Nat) (N M : Int) (T : ByteArray) (w : World) (hn : b.length = n) (hA : Rb w A b) (hnc : n ≤ c) (hb : n ≤ 1000000) :
    Calls Tryz.prog 7 #[.slice A n c, .agg #[.int .i64 2, .int .i64 N, .int .i64 M, .string T]] w fun e w' => BOut (fullL 0 b) e w' ∧ Below w.heap.size w w' := by
  have hB0 : Below w.heap.size w (w.alloc (.cells #[.int .i64 2, .int .i64 N, .int .i64 M, .string T] 26)) := (Below.refl _ _).alloc (Nat.le_refl _) _
  have r0 := Row.new w #[.int .i64 2, .int .i64 N, .int .i64 M, .string T] 26
  have hrd := read_any A b n c (w.alloc (.cells #[.int .i64 2, .int .i64 N, .int .i64 M, .string T] 26)) hn (hA.below hB0) hnc hb
  have HN := Lib.hid hn
  clear hn
  go_enter Tryz.func7, Tryz.ntmps7
  go_wp2_with fail
  refine hrd.mono ?_
  rintro e w1 ⟨hro, hb1⟩
  obtain ⟨A0, n0, c0, A1, n1, c1, A2, n2, c2, wh, ok, rfl⟩ := hro.form
  have hB1 := hB0.trans (hb1.mono hB0.size)
  have r1 := r0.below hb1
  have hw0 : w.heap.size < w1.heap.size := r1.lt
  have r3 := r1.alloc (.cells #[.slice A0 n0 c0, .slice A1 n1 c1, .slice A2 n2 c2] 49)
  have hB3 := hB1.trans ((mark_below w1 #[.slice A0 n0 c0, .slice A1 n1 c1, .slice A2 n2 c2] 49 (0, 0)).mono hB1.size)
  clear hro hrd
  go_upto_region 2 with fail
  obtain ⟨w3, hw3⟩ : ∃ w3, w1.alloc (.cells #[.slice A0 n0 c0, .slice A1 n1 c1, .slice A2 n2 c2] 49) = w3 := ⟨_, rfl⟩
  rw [hw3] at r3 hB3 ⊢
  clear hw3 r1 r0
  have x0 := r3.cell (j := 0) rfl
  have hba := full_any A b n c w3 HN.out (hA.below hB3) (by omega)
  go_wp2_with fail
  refine hba.mono ?_
  rintro e w4 ⟨⟨v, rfl, hov⟩, hb4⟩
  obtain ⟨A5, c5, e5, g1, g2, g3, g4⟩ := BOut.own hov
  cases e5
  go_wp2_with fail
  go_ret
  exact ⟨⟨A5, c5, rfl, g1, g2, g3, g4⟩, hB3.trans (hb4.mono hB3.size)⟩
end Go.Proofs.YtcagkoakbdbbaaaGreatDoor
