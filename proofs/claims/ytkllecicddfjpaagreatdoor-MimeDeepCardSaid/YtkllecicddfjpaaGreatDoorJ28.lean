/- The part of an empty mail. -/
import Derived.Test.YtkllecicddfjpaaGreatDoorJ16
import Derived.Test.YtkllecicddfjpaaGreatDoorJ04
import Derived.Deep.RegionHeld3
namespace Go.Proofs.YtkllecicddfjpaaGreatDoor
set_option linter.unusedVariables false
set_option linter.unusedSimpArgs false
open Go.RowKit

/-- the test of a name, whose box is block B -/
def hasV0 (B : Nat) : Value := .func (.func 159) #[] #[.pointer (some ⟨B, 0, none⟩)]
theorem named0_any (nm : List UInt8) (w : World) :
    Calls Tryz.prog 89 #[.string (bs nm)] w fun e w' => e = .returned (hasV0 w.heap.size) ∧ w' = w.alloc (.cells #[.string (bs nm)] 9) := by
  go_enter Tryz.func89, Tryz.ntmps89
  go_wp2_with fail
  go_ret
  exact ⟨rfl, rfl⟩
theorem index0_any (B : Nat) (w : World) :
    Calls Tryz.prog 88 #[.slice none 0 0, hasV0 B] w fun e w' => e = .returned (.int .i64 (-1)) ∧ w = w' := by
  unfold hasV0
  go_enter Tryz.func88, Tryz.ntmps88
  go_wp2_with fail
  refine wp_loop_rounds 1 ?_
  rw [rounds_succ]
  go_wp2_with fail
  go_ret
  exact ⟨rfl, rfl⟩
set_option maxRecDepth 100000 in
set_option maxHeartbeats 2000000 in
theorem get0_any (nm : List UInt8) (w : World) :
    Calls Tryz.prog 43 #[.agg #[.slice none 0 0, .slice none 0 0], .string (bs nm)] w fun e w' => e = .returned (.tuple #[.string (bs []), .bool false]) ∧ Below w.heap.size w w' := by
  go_enter Tryz.func43, Tryz.ntmps43
  go_wp2_with fail
  have hB0 : Below w.heap.size w (w.alloc (.cells #[.slice none 0 0, .slice none 0 0] 39)) := (Below.refl _ _).alloc (Nat.le_refl _) _
  have r0 : Row (w.alloc (.cells #[.slice none 0 0, .slice none 0 0] 39)) w.heap.size 39 [.slice none 0 0, .slice none 0 0] := Row.new w #[.slice none 0 0, .slice none 0 0] 39
  generalize w.alloc (.cells #[.slice none 0 0, .slice none 0 0] 39) = W0 at *
  have c00 : W0.cell? ⟨w.heap.size, 0, none⟩ = some (.slice none 0 0) := r0.cell rfl
  have hD0 : Below W0.heap.size W0 (W0.drew.alloc (.cells #[.string (bs nm)] 9)) := ((Below.refl _ W0).drew).alloc (Nat.le_refl _) _
  have hB1 := hB0.trans (hD0.mono hB0.size)
  have hix := index0_any W0.heap.size (W0.drew.alloc (.cells #[.string (bs nm)] 9))
  have c10 := (hD0.cell (p := ⟨w.heap.size, 0, none⟩) (cell_lt c00)).trans c00
  go_region_held3 (fun w' => w'.cell? ⟨w.heap.size, 0, none⟩ = some (.slice none 0 0)) (assumption)
    (first
    | (go_at_call 89; refine (named0_any nm _).mono ?_; rintro e w4 ⟨rfl, rfl⟩)
    | (go_at_call 88; refine hix.mono ?_; rintro e w5 ⟨rfl, rfl⟩))
  go_wp2_with fail
  go_ret2
  exact ⟨rfl, hB1⟩
theorem small0_any (w : World) :
    Calls Tryz.prog 137 #[.string (bs [])] w fun e w' => e = .returned (.string (bs [])) ∧ Below w.heap.size w w' := by
  obtain ⟨cv, W, hcv, hown, hb, hsz⟩ := conv_bs (P := Tryz.prog) (src := 9) (dst := 22) (e := 5) Tryz.underlying9 Tryz.underlying22 Tryz.underlying5 w [] (by unfold maxLen; simp)
  go_enter Tryz.func137, Tryz.ntmps137
  go_wp2_with fail
  have hcs := conv_str (P := Tryz.prog) (w := W) (src := 22) (dst := 9) (e := 5) Tryz.underlying22 Tryz.underlying5 Tryz.underlying9 (A := some ⟨w.heap.size, 0, none⟩) (l := []) (n := 0) (c := cv) (Rb.nil _ _) rfl
  refine wp_loop_rounds 1 ?_
  rw [rounds_succ]
  go_wp2_with fail
  go_ret
  exact ⟨rfl, hb⟩

set_option maxRecDepth 100000 in
set_option maxHeartbeats 2000000 in
theorem leaf0_any (w : World) :
    Calls Tryz.prog 71 #[.agg #[.slice none 0 0, .slice none 0 0]] w fun e w' => (∃ A c, e = .returned (.tuple #[.int .i64 0, .slice A 0 c, .int .i64 0])) ∧ Below w.heap.size w w' := by
  have hB0 : Below w.heap.size w (w.alloc (.cells #[.slice none 0 0, .slice none 0 0] 39)) := (Below.refl _ _).alloc (Nat.le_refl _) _
  have c00 : (w.alloc (.cells #[.slice none 0 0, .slice none 0 0] 39)).cell? ⟨w.heap.size, 0, none⟩ = some (.slice none 0 0) := by simp
  have c01 : (w.alloc (.cells #[.slice none 0 0, .slice none 0 0] 39)).cell? ⟨w.heap.size, 1, none⟩ = some (.slice none 0 0) := by simp
  go_enter Tryz.func71, Tryz.ntmps71
  go_wp2_with fail
  generalize w.alloc (.cells #[.slice none 0 0, .slice none 0 0] 39) = W0 at *
  have hg := get0_any [67, 111, 110, 116, 101, 110, 116, 45, 84, 114, 97, 110, 115, 102, 101, 114, 45, 69, 110, 99, 111, 100, 105, 110, 103] W0
  refine hg.mono ?_
  rintro e w1 ⟨rfl, hb1⟩
  have hB1 := hB0.trans (hb1.mono hB0.size)
  have c11 := (hb1.cell (p := ⟨w.heap.size, 1, none⟩) (cell_lt c01)).trans c01
  go_wp2_with fail
  refine (trim_any [] w1 (by simp)).mono ?_
  rintro e w2 ⟨rfl, hb2⟩
  have hB2 := hB1.trans (hb2.mono hB1.size)
  have c21 := (hb2.cell (p := ⟨w.heap.size, 1, none⟩) (cell_lt c11)).trans c11
  go_wp2_with fail
  refine (small0_any w2).mono ?_
  rintro e w3 ⟨rfl, hb3⟩
  have hB3 := hB2.trans (hb3.mono hB2.size)
  have c31 := (hb3.cell (p := ⟨w.heap.size, 1, none⟩) (cell_lt c21)).trans c21
  go_wp2_with fail
  refine (clone_any none [] 0 0 w3 rfl (Rb.nil _ _) (Nat.le_refl _) (.inl ⟨rfl, rfl⟩) (by omega)).mono ?_
  rintro e w4 ⟨⟨v, rfl, hown⟩, hb4⟩
  obtain ⟨A4, c4, rfl, _, _, _, _⟩ := own_slice hown
  go_wp2_with fail
  go_ret3
  exact ⟨⟨A4, c4, rfl⟩, hB3.trans (hb4.mono hB3.size)⟩

set_option maxRecDepth 100000 in
set_option maxHeartbeats 2000000 in
theorem read0_any (d : Int) (w : World) :
    Calls Tryz.prog 32 #[.agg #[.slice none 0 0, .slice none 0 0], .int .i64 d] w fun e w' => (∃ A c, e = .returned (.tuple #[.agg #[.string (bs [116, 101, 120, 116, 47, 112, 108, 97, 105, 110]), .slice none 0 0, .int .i64 0, .slice A 0 c, .slice none 0 0], .int .i64 0])) ∧ Below w.heap.size w w' := by
  have hB0 : Below w.heap.size w (w.alloc (.cells #[.slice none 0 0, .slice none 0 0] 39)) := (Below.refl _ _).alloc (Nat.le_refl _) _
  go_enter Tryz.func32, Tryz.ntmps32
  go_wp2_with fail
  have hB1 : Below w.heap.size w ((w.alloc (.cells #[.slice none 0 0, .slice none 0 0] 39)).alloc (.cells #[.string (bs [116, 101, 120, 116, 47, 112, 108, 97, 105, 110]), .slice none 0 0, .int .i64 0, .slice none 0 0, .slice none 0 0] 34)) := hB0.trans (((Below.refl _ _).alloc (Nat.le_refl _) _).mono hB0.size)
  have r1 := Row.new (w.alloc (.cells #[.slice none 0 0, .slice none 0 0] 39)) #[.string (bs [116, 101, 120, 116, 47, 112, 108, 97, 105, 110]), .slice none 0 0, .int .i64 0, .slice none 0 0, .slice none 0 0] 34
  have r0 := (Row.new w #[.slice none 0 0, .slice none 0 0] 39).below ((Below.refl (w.alloc (.cells #[.slice none 0 0, .slice none 0 0] 39)).heap.size (w.alloc (.cells #[.slice none 0 0, .slice none 0 0] 39))).alloc (Nat.le_refl _) (.cells #[.string (bs [116, 101, 120, 116, 47, 112, 108, 97, 105, 110]), .slice none 0 0, .int .i64 0, .slice none 0 0, .slice none 0 0] 34))
  rw [World.size_alloc] at r1
  have hg := get0_any [67, 111, 110, 116, 101, 110, 116, 45, 84, 121, 112, 101] ((w.alloc (.cells #[.slice none 0 0, .slice none 0 0] 39)).alloc (.cells #[.string (bs [116, 101, 120, 116, 47, 112, 108, 97, 105, 110]), .slice none 0 0, .int .i64 0, .slice none 0 0, .slice none 0 0] 34))
  have hs1 : w.heap.size + 2 ≤ ((w.alloc (.cells #[.slice none 0 0, .slice none 0 0] 39)).alloc (.cells #[.string (bs [116, 101, 120, 116, 47, 112, 108, 97, 105, 110]), .slice none 0 0, .int .i64 0, .slice none 0 0, .slice none 0 0] 34)).heap.size := by simp
  refine hg.mono ?_
  rintro e w2 ⟨rfl, hb2⟩
  have hB2 := hB1.trans (hb2.mono hB1.size)
  have r12 := r1.below hb2
  have r02 := r0.below hb2
  have hs2 := hb2.size
  have c20 := r12.cell (j := 0) rfl
  have l0 := r02.cell (j := 0) rfl
  have l1 := r02.cell (j := 1) rfl
  have hpx : Lib.hasPrefix (bs [116, 101, 120, 116, 47, 112, 108, 97, 105, 110]).data.toList (⟨#[109, 117, 108, 116, 105, 112, 97, 114, 116, 47]⟩ : ByteArray).data.toList = false := by decide
  go_wp2_with fail
  refine (Tryz.strings_HasPrefix _ _ _).mono ?_
  rintro e w' ⟨rfl, hw⟩
  rw [hw, hpx]
  clear hw hpx
  go_wp2_with fail
  refine (leaf0_any w2).mono ?_
  rintro e w3 ⟨⟨A, c, rfl⟩, hb3⟩
  have hB3 := hB2.trans (hb3.mono hB2.size)
  have r3 := r12.below hb3
  have hs3 := hb3.size
  clear r02 r12 c20 l0 l1 hg r0 r1 hb2 hb3 hB0 hB1 hB2
  have k0 := r3.cell (j := 0) rfl
  have k1 := r3.cell (j := 1) rfl
  have k2 := r3.cell (j := 2) rfl
  have k3 := r3.cell (j := 3) rfl
  have k4 := r3.cell (j := 4) rfl
  have f0 := r3.frozen 0
  have f1 := r3.frozen 1
  have f2 := r3.frozen 2
  have f3 := r3.frozen 3
  have f4 := r3.frozen 4
  go_wp2_with fail
  have rF := ((((((r3.set 2 (.int .i64 0)).set 3 (.slice A 0 c)).set 0 (.string (bs [116, 101, 120, 116, 47, 112, 108, 97, 105, 110]))).set 1 (.slice none 0 0)).set 2 (.int .i64 0)).set 3 (.slice A 0 c)).set 4 (.slice none 0 0)
  have hBF := ((((((hB3.setCell (p := ⟨w.heap.size + 1, 2, none⟩) (by simp) (.int .i64 0)).setCell (p := ⟨w.heap.size + 1, 3, none⟩) (by simp) (.slice A 0 c)).setCell (p := ⟨w.heap.size + 1, 0, none⟩) (by simp) (.string (bs [116, 101, 120, 116, 47, 112, 108, 97, 105, 110]))).setCell (p := ⟨w.heap.size + 1, 1, none⟩) (by simp) (.slice none 0 0)).setCell (p := ⟨w.heap.size + 1, 2, none⟩) (by simp) (.int .i64 0)).setCell (p := ⟨w.heap.size + 1, 3, none⟩) (by simp) (.slice A 0 c)).setCell (p := ⟨w.heap.size + 1, 4, none⟩) (by simp) (.slice none 0 0)
  obtain ⟨WF, hWF⟩ : ∃ WF, (((((((w3.setCell ⟨w.heap.size + 1, 2, none⟩ (.int .i64 0)).setCell ⟨w.heap.size + 1, 3, none⟩ (.slice A 0 c)).setCell ⟨w.heap.size + 1, 0, none⟩ (.string (bs [116, 101, 120, 116, 47, 112, 108, 97, 105, 110]))).setCell ⟨w.heap.size + 1, 1, none⟩ (.slice none 0 0)).setCell ⟨w.heap.size + 1, 2, none⟩ (.int .i64 0)).setCell ⟨w.heap.size + 1, 3, none⟩ (.slice A 0 c)).setCell ⟨w.heap.size + 1, 4, none⟩ (.slice none 0 0)) = WF := ⟨_, rfl⟩
  rw [hWF] at rF hBF ⊢
  have e0 := rF.cell (j := 0) rfl
  have e1 := rF.cell (j := 1) rfl
  have e2 := rF.cell (j := 2) rfl
  have e3 := rF.cell (j := 3) rfl
  have e4 := rF.cell (j := 4) rfl
  exact bodyPost_ret (v := .tuple #[.agg #[.string (bs [116, 101, 120, 116, 47, 112, 108, 97, 105, 110]), .slice none 0 0, .int .i64 0, .slice A 0 c, .slice none 0 0], .int .i64 0]) (by simp [results, Tryz.results32, go_sem, e0, e1, e2, e3, e4]) rfl ⟨⟨A, c, rfl⟩, hBF⟩

set_option maxRecDepth 100000 in
set_option maxHeartbeats 2000000 in
theorem mread0_any (w : World) :
    Calls Tryz.prog 15 #[.agg #[.slice none 0 0, .slice none 0 0]] w fun e w' => (∃ A c, e = .returned (.tuple #[.agg #[.string (bs [116, 101, 120, 116, 47, 112, 108, 97, 105, 110]), .slice none 0 0, .int .i64 0, .slice A 0 c, .slice none 0 0], .int .i64 0])) ∧ Below w.heap.size w w' := by
  have hB0 : Below w.heap.size w (w.alloc (.cells #[.slice none 0 0, .slice none 0 0] 39)) := (Below.refl _ _).alloc (Nat.le_refl _) _
  go_enter Tryz.func15, Tryz.ntmps15
  go_wp2_with fail
  have hB1 : Below w.heap.size w ((w.alloc (.cells #[.slice none 0 0, .slice none 0 0] 39)).alloc (.cells #[.string ⟨#[]⟩, .slice none 0 0, .int .i64 0, .slice none 0 0, .slice none 0 0] 34)) := hB0.trans (((Below.refl _ _).alloc (Nat.le_refl _) _).mono hB0.size)
  have r1 := Row.new (w.alloc (.cells #[.slice none 0 0, .slice none 0 0] 39)) #[.string ⟨#[]⟩, .slice none 0 0, .int .i64 0, .slice none 0 0, .slice none 0 0] 34
  rw [World.size_alloc] at r1
  refine (read0_any 0 _).mono ?_
  rintro e w3 ⟨⟨A, c, rfl⟩, hb3⟩
  have hB3 := hB1.trans (hb3.mono hB1.size)
  have r3 := r1.below hb3
  clear r1 hb3 hB0 hB1
  have k0 := r3.cell (j := 0) rfl
  have k1 := r3.cell (j := 1) rfl
  have k2 := r3.cell (j := 2) rfl
  have k3 := r3.cell (j := 3) rfl
  have k4 := r3.cell (j := 4) rfl
  have f0 := r3.frozen 0
  have f1 := r3.frozen 1
  have f2 := r3.frozen 2
  have f3 := r3.frozen 3
  have f4 := r3.frozen 4
  go_wp2_with fail
  have rF := ((((r3.set 0 (.string (bs [116, 101, 120, 116, 47, 112, 108, 97, 105, 110]))).set 1 (.slice none 0 0)).set 2 (.int .i64 0)).set 3 (.slice A 0 c)).set 4 (.slice none 0 0)
  have hBF := ((((hB3.setCell (p := ⟨w.heap.size + 1, 0, none⟩) (by simp) (.string (bs [116, 101, 120, 116, 47, 112, 108, 97, 105, 110]))).setCell (p := ⟨w.heap.size + 1, 1, none⟩) (by simp) (.slice none 0 0)).setCell (p := ⟨w.heap.size + 1, 2, none⟩) (by simp) (.int .i64 0)).setCell (p := ⟨w.heap.size + 1, 3, none⟩) (by simp) (.slice A 0 c)).setCell (p := ⟨w.heap.size + 1, 4, none⟩) (by simp) (.slice none 0 0)
  obtain ⟨WF, hWF⟩ : ∃ WF, (((((w3.setCell ⟨w.heap.size + 1, 0, none⟩ (.string (bs [116, 101, 120, 116, 47, 112, 108, 97, 105, 110]))).setCell ⟨w.heap.size + 1, 1, none⟩ (.slice none 0 0)).setCell ⟨w.heap.size + 1, 2, none⟩ (.int .i64 0)).setCell ⟨w.heap.size + 1, 3, none⟩ (.slice A 0 c)).setCell ⟨w.heap.size + 1, 4, none⟩ (.slice none 0 0)) = WF := ⟨_, rfl⟩
  rw [hWF] at rF hBF ⊢
  have e0 := rF.cell (j := 0) rfl
  have e1 := rF.cell (j := 1) rfl
  have e2 := rF.cell (j := 2) rfl
  have e3 := rF.cell (j := 3) rfl
  have e4 := rF.cell (j := 4) rfl
  exact bodyPost_ret (v := .tuple #[.agg #[.string (bs [116, 101, 120, 116, 47, 112, 108, 97, 105, 110]), .slice none 0 0, .int .i64 0, .slice A 0 c, .slice none 0 0], .int .i64 0]) (by simp [results, Tryz.results15, go_sem, e0, e1, e2, e3, e4]) rfl ⟨⟨A, c, rfl⟩, hBF⟩
end Go.Proofs.YtkllecicddfjpaaGreatDoor
