/- The statements of layer 6 that need no more than Encode and Decode: speaks, ArmorParts. -/
import Derived.Test.YtdnlelmajepleaaDoorA4
namespace Go.Proofs.YtdnlelmajepleaaDoor
open Go.RowKit

set_option maxRecDepth 100000 in
set_option maxHeartbeats 1000000 in
theorem speaks_any (w : World) : Calls Tryd.prog 5 #[] w fun e w' => e = .returned (.bool true) ∧ Below w.heap.size w w' := by
  go_enter Tryd.func5, Tryd.ntmps5
  go_wp2_with fail
  refine (dec_any [90, 109, 57, 61] _ (by decide)).mono ?_
  rintro e w1 ⟨h | ⟨rfl, _⟩, hb1⟩
  · obtain ⟨A, n, c, a, _, _, _, _, _, h⟩ := h
    exact absurd h (zm9 a)
  have kc := Lib.run_convert_bytes_const (P := Tryd.prog) w1 22 5 #[.int .u8 102, .int .u8 111] 2 2 Tryd.underlying22 Tryd.underlying5
  have hr := Rb_new w1 [102, 111] 5 #[.int .u8 102, .int .u8 111] rfl 2 (2, 3)
  go_wp2_with fail
  refine (enc_any _ [102, 111] 2 2 _ rfl hr (by omega) (by omega)).mono ?_
  rintro e w2 ⟨rfl, hb2⟩
  rw [zm8]
  go_wp2
  go_ret
  exact ⟨rfl, hb1.trans ((((Below.refl _ w1).alloc (Nat.le_refl _) _).trans (hb2.mono (by simp))).mono hb1.size)⟩
end Go.Proofs.YtdnlelmajepleaaDoor
