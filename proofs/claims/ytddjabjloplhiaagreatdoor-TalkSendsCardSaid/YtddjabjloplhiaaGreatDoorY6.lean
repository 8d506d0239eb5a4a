/- The talk's Post: NewPost, Closed; one line is fed. -/
import Derived.Test.YtddjabjloplhiaaGreatDoorY5
namespace Go.Proofs.YtddjabjloplhiaaGreatDoor
set_option linter.unusedVariables false
set_option linter.unusedSimpArgs false
open Go.RowKit

/-- a Post: where the talk stands, what has no end yet -/
def PostAt (w : World) (base p : Nat) (s : Ps) (left : List UInt8) (kv : Value) : Prop := ∃ lv tv, Row w p 52 [.int .i64 s.st, lv, .string (bs s.frm), tv, .slice none 0 0, kv] ∧
  OwnM w base 5 1 lv left.length (left.map bv) ∧ OwnM w base 9 1 tv s.tos.length (s.tos.map sv) ∧ base ≤ p ∧ lv.ownBlock ≠ some p ∧ tv.ownBlock ≠ some p ∧ (lv.ownBlock = none ∨ lv.ownBlock ≠ tv.ownBlock)
theorem PostAt.lt {w : World} {base p : Nat} {s : Ps} {left : List UInt8} {kv : Value} (h : PostAt w base p s left kv) : p < w.heap.size := by
  obtain ⟨lv, tv, h, _⟩ := h
  exact h.lt
theorem PostAt.below {w w' : World} {base p : Nat} {s : Ps} {left : List UInt8} {kv : Value} (h : PostAt w base p s left kv) (hb : Below w.heap.size w w') : PostAt w' base p s left kv := by
  obtain ⟨lv, tv, h, h1, h2, h3⟩ := h
  exact ⟨lv, tv, h.below hb, h1.below hb, h2.below hb, h3⟩

set_option maxHeartbeats 400000 in
theorem newPost_any (w : World) : Calls Tryz.prog 7 #[] w fun e w' => e = .returned (.pointer (some ⟨w.heap.size, 0, none⟩)) ∧ PostAt w' w.heap.size w.heap.size ⟨0, [], []⟩ [] (.slice none 0 0) ∧ Below w.heap.size w w' ∧ w.heap.size < w'.heap.size := by
  go_enter Tryz.func7, Tryz.ntmps7
  go_wp2_with fail
  go_ret
  refine ⟨rfl, ⟨.slice none 0 0, .slice none 0 0, Row.new w _ _, OwnM.nil _ _ _ _, OwnM.nil _ _ _ _, Nat.le_refl _, by simp [Value.ownBlock], by simp [Value.ownBlock], .inl rfl⟩, (Below.refl _ _).alloc (Nat.le_refl _) _, by simp⟩

set_option maxHeartbeats 400000 in
theorem closed_any (w : World) (base p : Nat) (s : Ps) (left : List UInt8) (kv : Value) (h : PostAt w base p s left kv) :
    Calls Tryz.prog 11 #[.pointer (some ⟨p, 0, none⟩)] w fun e w' => e = .returned (.bool (decide (s.st = 5))) ∧ w' = w := by
  obtain ⟨lv, tv, h, _⟩ := h
  have c0 := h.cell (j := 0) rfl
  by_cases h5 : s.st = 5
  · have e : ((s.st : Int) == 5) = true := by rw [beq_iff_eq]; omega
    rw [decide_eq_true h5]
    clear h5 h
    go_enter Tryz.func11, Tryz.ntmps11
    go_wp2_with fail
    go_ret
    exact ⟨rfl, rfl⟩
  · have e : ((s.st : Int) == 5) = false := by rw [beq_eq_false_iff_ne]; omega
    rw [decide_eq_false h5]
    clear h5 h
    go_enter Tryz.func11, Tryz.ntmps11
    go_wp2_with fail
    go_ret
    exact ⟨rfl, rfl⟩
/-- the cell of MaxLen lies below all that the talk makes -/
def MxB (w : World) (base : Nat) : Prop := Mx w ∧ 0 < base
theorem MxB.ext {w w' : World} {base : Nat} (h : MxB w base) (hx : Ext (fun k => base ≤ k) w w') : MxB w' base := by
  obtain ⟨⟨m, hm⟩, hb⟩ := h
  refine ⟨⟨m, ?_⟩, hb⟩
  have hl := cell_lt hm
  have := hx.block _ hl (by show ¬ base ≤ _; omega)
  unfold World.cell? at hm ⊢
  simp only at hm ⊢
  rw [this]
  exact hm
end Go.Proofs.YtddjabjloplhiaaGreatDoor
