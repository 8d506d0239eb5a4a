/- strings.NewReplacer at the four texts. -/
import Derived.Test.YtnmkapaphbaomaaGreatDoorU7
namespace Go.Proofs.YtnmkapaphbaomaaGreatDoor
set_option linter.unusedVariables false
set_option linter.unusedSimpArgs false
open Go.RowKit

/-- \ and " and what stands for them -/
def rep4 : List (List UInt8) := [[92], [92, 92], [34], [92, 34]]
set_option maxRecDepth 100000 in
set_option maxHeartbeats 1000000 in
theorem newrep_any (A : Option Addr) (c : Nat) (w : World) (hA : Rv w A (rep4.map sv)) :
    Calls Tryz.prog 32 #[.slice A 4 c] w fun e w' => (∃ R v, e = .returned (.pointer (some ⟨R, 0, none⟩)) ∧ Row w' R 88 [.int .u32 0, .int .i32 0, .int .u32 0, .nilIface, v] ∧ w.heap.size ≤ R ∧
      w'.ownsRow w.heap.size 9 1 v 4 (rep4.map sv) ∧ v.ownBlock ≠ some R) ∧ Below w.heap.size w w' := by
  have hsrc : Src Tryz.prog 1 37 (.slice A 4 c) 4 (rep4.map sv) w := Src_rv Tryz.underlying37 rfl hA (by simp [rep4, Value.oneCell', sv]) (by omega)
  have hn0 := World.ownsRow_nil w w.heap.size 9 1
  generalize rep4.map sv = cs at *
  go_enter Tryz.func32, Tryz.ntmps32
  go_wp2_with (at_builtin; refine wpList_app rfl (.const (.slice none 0 0)) (.tmp 8) _ _ rfl TStr hn0 rfl hsrc rfl (by omega) (Nat.le_refl _) ?_; intro v2 w2 hown2 hgr2 hat2; have hB2 := below_app (Below.refl w.heap.size w) hn0 hgr2 (Nat.le_refl _) (Nat.le_refl _); have hown3 := hown2; have hlt2 := hown2.lt; obtain ⟨A2, c2, rfl, _, _, _, _⟩ := own_form hown2)
  go_ret
  refine ⟨⟨w2.heap.size, .slice A2 4 c2, rfl, Row.new w2 _ _, hB2.size, ?_, ?_⟩, hB2.alloc hB2.size _⟩
  · have := hown3.alloc (.cells #[.int .u32 0, .int .i32 0, .int .u32 0, .nilIface, .slice A2 4 c2] 88)
    simpa using this
  · intro e
    have := (hlt2 _ e).2
    omega
end Go.Proofs.YtnmkapaphbaomaaGreatDoor
