/- (*strings.Replacer).Replace: the table is built at the first call. -/
import Derived.Test.YtnmkapaphbaomaaGreatDoorW5
namespace Go.Proofs.YtnmkapaphbaomaaGreatDoor
set_option linter.unusedVariables false
set_option linter.unusedSimpArgs false
open Go.RowKit

set_option maxRecDepth 100000 in
set_option maxHeartbeats 1600000 in
theorem repl_any (R : Nat) (A : Option Addr) (c : Nat) (v : List UInt8) (w : World) (hR : Row w R 88 [.int .u32 0, .int .i32 0, .int .u32 0, .nilIface, .slice A 4 c]) (hA : Rv w A (rep4.map sv)) (hAR : ∀ b o, A = some ⟨b, o, none⟩ → b ≠ R) (hc4 : 4 ≤ c) (hv : v.length ≤ 2000000) :
    Calls Tryz.prog 33 #[.pointer (some ⟨R, 0, none⟩), .string (bs v)] w fun e w' => e = .returned (.string (bs (esc v))) ∧ ∀ B, B ≤ R → Below B w w' := by
  have hmf : ∀ (fn : Fn) (first cap : Array Value) (W : World), (Instr.makeFunc fn first cap).run Tryz.prog W = .ok (.func fn first cap) W := fun _ _ _ _ => rfl
  have ho := once_any R A c w hR hA hAR hc4
  have hRl : R < w.heap.size := hR.lt
  go_enter Tryz.func33, Tryz.ntmps33
  go_wp2_with fail
  refine ho.mono ?_
  rintro e w2 ⟨rfl, b, hbu, k3, hbel⟩
  have hb := brep_any _ b v w2 hbu hv
  have hs2 := (hbel 0 (by omega)).size
  go_wp2_with fail
  refine hb.mono ?_
  rintro e w3 ⟨rfl, hb3⟩
  go_wp2_with fail
  go_ret
  exact ⟨rfl, fun B hB => (hbel B hB).trans (hb3.mono (by omega))⟩
end Go.Proofs.YtnmkapaphbaomaaGreatDoor
