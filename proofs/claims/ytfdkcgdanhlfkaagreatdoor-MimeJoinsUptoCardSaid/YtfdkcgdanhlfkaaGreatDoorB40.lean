/- The document's example of parts holds; MimeSplits' walk: the program's Split tells what the document's does. -/
import Derived.Test.YtfdkcgdanhlfkaaGreatDoorC6
import Derived.Test.YtfdkcgdanhlfkaaGreatDoorC9
import Derived.Test.YtfdkcgdanhlfkaaGreatDoorCA
import Derived.Test.YtfdkcgdanhlfkaaGreatDoorS1
import Derived.KernelRfl
namespace Go.Proofs.YtfdkcgdanhlfkaaGreatDoor
set_option linter.unusedVariables false
set_option linter.unusedSimpArgs false
open Go.RowKit

theorem split_any (A : Option Addr) (b bd : List UInt8) (n c : Nat) (w : World) (hn : b.length = n) (hA : Rb w A b) (hpl : Pl A c) (hnc : n ≤ c) (hcm : c ≤ maxLen) (hb : n ≤ 1000000) (hbd : bd.length ≤ 1000000) :
    Calls Tryz.prog 8 #[.slice A n c, .string (bs bd)] w (RSpl b bd w) := by
  refine (callsIn_wide.1 (split_in 10 (by omega) A b bd n c w hn hA hpl hnc hcm hb hbd)).mono ?_
  rintro e w' ⟨⟨v, ts, rfl, h1, h2, h3⟩, hb'⟩
  obtain ⟨A', c', rfl, h4, _, _, _, _, _⟩ := h2.form
  have hl : (splitS b bd).1.length = ts.length := by rw [← h1, List.length_map]
  exact ⟨A', c', by rw [hl], by rw [hl]; exact h4, by rw [← h1]; exact RR_of (n := ts.length) h2 h3 (fun t ht => ht), hb'⟩

theorem ex_split : splitS [45, 45, 120, 10, 97, 10, 45, 45, 120, 45, 45] [120] = ([[97]], 0) := by decide +kernel

set_option maxRecDepth 100000 in
set_option maxHeartbeats 2000000 in
theorem speaks_any (w : World) : Calls Tryz.prog 7 #[] w fun e w' => e = .returned (.bool true) ∧ Below w.heap.size w w' := by
  have hB0 : Below w.heap.size w (w.alloc (.cells #[.int .u8 45, .int .u8 45, .int .u8 120, .int .u8 10, .int .u8 97, .int .u8 10, .int .u8 45, .int .u8 45, .int .u8 120, .int .u8 45, .int .u8 45] 5 (11, 12))) := (Below.refl _ _).alloc (Nat.le_refl _) _
  have hR0 : Rb (w.alloc (.cells #[.int .u8 45, .int .u8 45, .int .u8 120, .int .u8 10, .int .u8 97, .int .u8 10, .int .u8 45, .int .u8 45, .int .u8 120, .int .u8 45, .int .u8 45] 5 (11, 12))) (some ⟨w.heap.size, 0, none⟩) [45, 45, 120, 10, 97, 10, 45, 45, 120, 45, 45] := by
    have h := Rb_new w [45, 45, 120, 10, 97, 10, 45, 45, 120, 45, 45] 5 #[.int .u8 45, .int .u8 45, .int .u8 120, .int .u8 10, .int .u8 97, .int .u8 10, .int .u8 45, .int .u8 45, .int .u8 120, .int .u8 45, .int .u8 45] rfl 11 (11, 12)
    exact h
  have hsp := split_any (some ⟨w.heap.size, 0, none⟩) [45, 45, 120, 10, 97, 10, 45, 45, 120, 45, 45] [120] 11 11 _ rfl hR0 (.inr ⟨_, _, rfl⟩) (Nat.le_refl _) (by unfold maxLen; omega) (by omega) (by simp)
  unfold RSpl at hsp
  rw [ex_split] at hsp
  have kc := Lib.run_convert_bytes_const (P := Tryz.prog) w 22 5 #[.int .u8 45, .int .u8 45, .int .u8 120, .int .u8 10, .int .u8 97, .int .u8 10, .int .u8 45, .int .u8 45, .int .u8 120, .int .u8 45, .int .u8 45] 11 11 Tryz.underlying22 Tryz.underlying5
  go_enter Tryz.func7, Tryz.ntmps7
  go_wp2_with fail
  refine hsp.mono ?_
  rintro e w1 ⟨A1, c1, rfl, _, hr1, hb1⟩
  have hB1 := hB0.trans (hb1.mono hB0.size)
  clear hsp hR0
  go_wp2_with fail
  refine (mread0_any w1).mono ?_
  rintro e w2 ⟨⟨A2, c2, rfl⟩, hb2⟩
  have hB2 := hB1.trans (hb2.mono hB1.size)
  obtain ⟨b, o, B, d, l, rfl, hl, cl, hld, _, _, _, hRl⟩ := (hr1.below hb2).one (k := 0) (by simp)
  have hl97 : l = [97] := by have := hl.out; simp at this; exact this.symm
  subst hl97
  have hcv : ∀ W, Rb W B [97] → (convert 22 9 (.slice B 1 d)).run Tryz.prog W = .ok (.string (bs [97])) W := fun W h => conv_str (P := Tryz.prog) Tryz.underlying22 Tryz.underlying5 Tryz.underlying9 h rfl
  have cl' : w2.cell? ⟨b, o, none⟩ = some (.slice B 1 d) := cl
  have hbl : b < w2.heap.size := cell_lt cl'
  have hRa : ∀ O, Rb (w2.alloc O) B [97] := fun O => hRl.below ((Below.refl _ _).alloc (Nat.le_refl _) O)
  have hcv2 := fun O => hcv _ (hRa O)
  clear hr1 hcv hl cl
  go_wp2_with fail
  go_ret
  exact ⟨rfl, hB2.trans (((Below.refl _ _).alloc (Nat.le_refl _) _).mono hB2.size)⟩
end Go.Proofs.YtfdkcgdanhlfkaaGreatDoor
