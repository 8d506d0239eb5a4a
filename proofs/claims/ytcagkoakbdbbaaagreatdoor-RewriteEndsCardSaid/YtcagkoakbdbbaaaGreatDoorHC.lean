/- The program's bare, rest, name. -/
import Derived.Test.YtcagkoakbdbbaaaGreatDoorHB
namespace Go.Proofs.YtcagkoakbdbbaaaGreatDoor
set_option linter.unusedVariables false
set_option linter.unusedSimpArgs false
open Go.RowKit

theorem replaceAll_any (A : Option Addr) (b : List UInt8) (B1 B2 d1 d2 n c : Nat) (w : World) (hn : b.length = n) (hA : Rb w A b) (hpl : Pl A c) (hnc : n ≤ c) (hb : n ≤ 1000000) (hs : Rb w (some ⟨B1, 0, none⟩) [13, 10]) (ht : Rb w (some ⟨B2, 0, none⟩) [10]) (hw : MxR w) :
    Calls Tryz.prog 34 #[.slice A n c, .slice (some ⟨B1, 0, none⟩) 2 d1, .slice (some ⟨B2, 0, none⟩) 1 d2] w fun e w' => BOut (bareL b) e w' ∧ Below w.heap.size w w' := by
  have h := replace_any A b B1 B2 d1 d2 n c w hn hA hpl hnc hb hs ht hw
  clear hn
  go_enter Tryz.func34, Tryz.ntmps34
  go_wp2_with fail
  refine h.mono ?_
  rintro e w1 ⟨⟨A2, c2, rfl, h1, h2, h3, h4⟩, hb1⟩
  go_wp2_with fail
  go_ret
  exact ⟨⟨A2, c2, rfl, h1, h2, h3, h4⟩, hb1⟩
theorem bare_any (A : Option Addr) (b : List UInt8) (n c : Nat) (w : World) (hn : b.length = n) (hA : Rb w A b) (hpl : Pl A c) (hnc : n ≤ c) (hb : n ≤ 1000000) (hw : MxR w) :
    Calls Tryz.prog 16 #[.slice A n c] w fun e w' => BOut (bareL b) e w' ∧ Below w.heap.size w w' := by
  have hcv := Lib.run_convert_bytes_const (P := Tryz.prog) w 22 5 #[.int .u8 13, .int .u8 10] 2 2 Tryz.underlying22 Tryz.underlying5
  have hb1 := mark_below w #[.int .u8 13, .int .u8 10] 5 (2, 3)
  have hx1 : Rb (w.alloc (.cells #[.int .u8 13, .int .u8 10] 5 (2, 3))) (some ⟨w.heap.size, 0, none⟩) [13, 10] := Rb_new w [13, 10] _ _ rfl 2 (2, 3)
  have hcv2 := Lib.run_convert_bytes_const (P := Tryz.prog) (w.alloc (.cells #[.int .u8 13, .int .u8 10] 5 (2, 3))) 22 5 #[.int .u8 10] 1 1 Tryz.underlying22 Tryz.underlying5
  have hb2 := mark_below (w.alloc (.cells #[.int .u8 13, .int .u8 10] 5 (2, 3))) #[.int .u8 10] 5 (1, 2)
  have hx2 : Rb ((w.alloc (.cells #[.int .u8 13, .int .u8 10] 5 (2, 3))).alloc (.cells #[.int .u8 10] 5 (1, 2))) (some ⟨(w.alloc (.cells #[.int .u8 13, .int .u8 10] 5 (2, 3))).heap.size, 0, none⟩) [10] := Rb_new _ [10] _ _ rfl 1 (1, 2)
  have hB := hb1.trans (hb2.mono hb1.size)
  have h := replaceAll_any A b w.heap.size (w.alloc (.cells #[.int .u8 13, .int .u8 10] 5 (2, 3))).heap.size 2 1 n c _ hn (hA.below hB) hpl hnc hb (hx1.below hb2) hx2 (hw.below hB)
  clear hn
  rw [World.size_alloc] at h hcv2
  go_enter Tryz.func16, Tryz.ntmps16
  go_wp2_with fail
  refine h.mono ?_
  rintro e w1 ⟨⟨A2, c2, rfl, h1, h2, h3, h4⟩, hb3⟩
  go_wp2_with fail
  go_ret
  exact ⟨⟨A2, c2, rfl, h1, h2, h3, h4⟩, hB.trans (hb3.mono hB.size)⟩
end Go.Proofs.YtcagkoakbdbbaaaGreatDoor
