/- The statements of layer 9: speaks. -/
import Derived.Test.YtgohdohkikkeeaaDoorN10
namespace Go.Proofs.YtgohdohkikkeeaaDoor
set_option linter.unusedVariables false
set_option linter.unusedSimpArgs false
open Go.RowKit

theorem readEx : readGo [] [65, 58, 32, 98, 10, 32, 99, 10, 10, 120] = .ok ([([65], [98, 32, 99])], [120]) := by
  have h1 : cutAt 10 [65, 58, 32, 98, 10, 32, 99, 10, 10, 120] = some ([65, 58, 32, 98], [32, 99, 10, 10, 120]) := by decide
  have h2 : deCr [65, 58, 32, 98] = [65, 58, 32, 98] := by decide
  have h3 : fieldP 0 [65, 58, 32, 98] [32, 99, 10, 10, 120] = .ok (([65], [98, 32, 99]), [10, 120]) := by
    have c1 : cutAt 58 [65, 58, 32, 98] = some ([65], [32, 98]) := by decide
    have c2 : cutAt 10 [32, 99, 10, 10, 120] = some ([32, 99], [10, 120]) := by decide
    have c3 : valGo [32, 98] [32, 99, 10, 10, 120] = some ([32, 98, 32, 99], [10, 120]) := by
      rw [valGo_more (by decide) c2, show deCr [32, 99] = [32, 99] by decide, valGo_stop (by decide)]
      rfl
    have c4 : trimB [32, 98, 32, 99] = [98, 32, 99] := by decide
    have c5 : nmOk [65] = true := by decide
    have c6 : ([98, 32, 99] : List UInt8).all sgc = true := by decide
    unfold fieldP
    rw [c1]
    simp only [c5, if_true, c3, c4, c6]
    rfl
  rw [readGo_ok h1 (by rw [h2]; simp) (by rw [h2]; exact h3)]
  exact readGo_end (a := []) (by decide) rfl

set_option maxRecDepth 100000 in
set_option maxHeartbeats 2000000 in
theorem speaks9_any (w : World) : Calls Tryd.prog 10 #[] w fun e w' => e = .returned (.bool true) ∧ Below w.heap.size w w' := by
  have kc := fun (w : World) (C : Array Value) (n c : Nat) => Lib.run_convert_bytes_const (P := Tryd.prog) w 23 5 C n c Tryd.underlying23 Tryd.underlying5
  go_enter Tryd.func10, Tryd.ntmps10
  go_wp2_with fail
  have hr0 := Rb_new w [65, 58, 32, 98, 10, 32, 99, 10, 10, 120] 5 #[.int .u8 65, .int .u8 58, .int .u8 32, .int .u8 98, .int .u8 10, .int .u8 32, .int .u8 99, .int .u8 10, .int .u8 10, .int .u8 120] rfl 10 (10, 11)
  have hA0 : Below w.heap.size w (w.alloc (.cells #[.int .u8 65, .int .u8 58, .int .u8 32, .int .u8 98, .int .u8 10, .int .u8 32, .int .u8 99, .int .u8 10, .int .u8 10, .int .u8 120] 5 (10, 11))) := (Below.refl _ _).alloc (Nat.le_refl _) _
  refine (read_any (some ⟨w.heap.size, 0, none⟩) [65, 58, 32, 98, 10, 32, 99, 10, 10, 120] 10 10 _ rfl hr0 (by omega) (.inr ⟨_, _, rfl⟩) (by omega)).mono ?_
  rintro e w1 ⟨hro, hb1⟩
  rw [readEx] at hro
  obtain ⟨fv, v2, rfl, hfv, hv2⟩ := hro
  have hB1 := hA0.trans (hb1.mono hA0.size)
  obtain ⟨fA, fc, rfl, _, _, hfR, _⟩ := own_form hfv
  obtain ⟨vA, vc, rfl, _, _, hvR, _⟩ := own_form hv2
  obtain ⟨fb, fo, rfl, hfc⟩ := hfR (by simp [fcells])
  have f0 := hfc 0 (strv [65]) rfl
  have f1 := hfc 1 (strv [98, 32, 99]) rfl
  rw [Nat.add_zero] at f0
  unfold strv bs at f0 f1
  have hcv := conv_str (P := Tryd.prog) (src := 23) (dst := 9) (e := 5) Tryd.underlying23 Tryd.underlying5 Tryd.underlying9 (n := 1) (c := vc) (show Rb w1 vA [120] from hvR) rfl
  clear hr0 hfc hfR hvR hfv hv2
  go_wp2_with fail
  go_ret
  exact ⟨rfl, hB1⟩
end Go.Proofs.YtgohdohkikkeeaaDoor
