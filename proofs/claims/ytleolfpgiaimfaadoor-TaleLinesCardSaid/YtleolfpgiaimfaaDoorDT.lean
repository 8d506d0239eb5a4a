/- The document's line of any event. -/
import Derived.Test.YtleolfpgiaimfaaDoorDR
import Derived.Test.YtleolfpgiaimfaaDoorDS
namespace Go.Proofs.YtleolfpgiaimfaaDoor
set_option linter.unusedVariables false
set_option linter.unusedSimpArgs false
open Go.RowKit Go.Shelf

set_option maxRecDepth 100000 in
set_option maxHeartbeats 2000000 in
theorem rline_none (E : Ev) (A : Option Addr) (c : Nat) (w : World) (hf : formL E.kind = none) (hok : E.Ok) (hfit : E.body.length ≤ c) (hR : Rb w A E.body) :
    Calls Tryd.prog 8 #[.agg (evl E (.slice A E.body.length c)).toArray] w fun e w' => e = .returned (.string (bs (lineL E))) ∧ Below w.heap.size w w' := by
  have hr0 : Row (w.alloc (.cells (evl E (.slice A E.body.length c)).toArray 28)) w.heap.size 28 (evl E (.slice A E.body.length c)) := Row.new w _ _
  have hB0 : Below w.heap.size w (w.alloc (.cells (evl E (.slice A E.body.length c)).toArray 28)) := (Below.refl _ w).alloc (Nat.le_refl _) _
  have hc0 := hr0.cell (j := 0) rfl
  obtain ⟨X, hX⟩ : ∃ X, (evl E (.slice A E.body.length c)).toArray = X := ⟨_, rfl⟩
  rw [hX] at hB0 hc0 ⊢
  have hx : lineL E = [63] := by unfold lineL; rw [hf]
  have HX := Lib.hid hx
  have hk : ∀ n : Int, 1 ≤ n → n ≤ 9 → ¬ E.kind = n := by
    intro n h1 h2 h
    rw [h] at hf
    unfold formL at hf
    split at hf
    · cases hf
    repeat' (split at hf; · cases hf)
    omega
  have k1 : (E.kind == 1) = false := by rw [beq_eq_false_iff_ne]; exact hk 1 (by omega) (by omega)
  have k2 : (E.kind == 2) = false := by rw [beq_eq_false_iff_ne]; exact hk 2 (by omega) (by omega)
  have k3 : (E.kind == 3) = false := by rw [beq_eq_false_iff_ne]; exact hk 3 (by omega) (by omega)
  have k4 : (E.kind == 4) = false := by rw [beq_eq_false_iff_ne]; exact hk 4 (by omega) (by omega)
  have k5 : (E.kind == 5) = false := by rw [beq_eq_false_iff_ne]; exact hk 5 (by omega) (by omega)
  have k6 : (E.kind == 6) = false := by rw [beq_eq_false_iff_ne]; exact hk 6 (by omega) (by omega)
  have k7 : (E.kind == 7) = false := by rw [beq_eq_false_iff_ne]; exact hk 7 (by omega) (by omega)
  have k8 : (E.kind == 8) = false := by rw [beq_eq_false_iff_ne]; exact hk 8 (by omega) (by omega)
  have k9 : (E.kind == 9) = false := by rw [beq_eq_false_iff_ne]; exact hk 9 (by omega) (by omega)
  clear hk hx hX hr0 hf
  generalize E.kind = z at *
  go_enter Tryd.func8, Tryd.ntmps8
  go_wp2_with fail
  go_ret
  exact ⟨ret_str (by rw [HX.out]; rfl), hB0⟩
theorem rline_any (E : Ev) (A : Option Addr) (c : Nat) (w : World) (hsz : E.Sz) (hok : E.Ok) (hfit : E.body.length ≤ c) (hR : Rb w A E.body) :
    Calls Tryd.prog 8 #[.agg (evl E (.slice A E.body.length c)).toArray] w fun e w' => e = .returned (.string (bs (lineL E))) ∧ Below w.heap.size w w' := by
  cases hf : formL E.kind with
  | none => exact rline_none E A c w hf hok hfit hR
  | some p =>
    rcases formL_some hf with h | h | h | h | h | h | h | h | h
    · exact rline1 E A c w h hsz hok hfit hR
    · exact rline2 E A c w h hsz hok hfit hR
    · exact rline3 E A c w h hsz hok hfit hR
    · exact rline4 E A c w h hsz hok hfit hR
    · exact rline5 E A c w h hsz hok hfit hR
    · exact rline6 E A c w h hsz hok hfit hR
    · exact rline7 E A c w h hsz hok hfit hR
    · exact rline8 E A c w h hsz hok hfit hR
    · exact rline9 E A c w h hsz hok hfit hR

end Go.Proofs.YtleolfpgiaimfaaDoor
