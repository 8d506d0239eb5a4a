/- TalkOrder's walk. -/
import Derived.Test.YtddjabjloplhiaaGreatDoorY8
namespace Go.Proofs.YtddjabjloplhiaaGreatDoor
set_option linter.unusedVariables false
set_option linter.unusedSimpArgs false
open Go.RowKit

theorem Mx.base {w : World} (h : Mx w) : MxB w w.heap.size := by
  obtain ⟨m, hm⟩ := h
  exact ⟨⟨m, hm⟩, cell_lt hm⟩
theorem MxB.below {w w' : World} {base : Nat} (h : MxB w base) (hb : Below w.heap.size w w') : MxB w' base := ⟨h.1.below hb, h.2⟩
theorem MxB.belowB {w w' : World} {base : Nat} (h : MxB w base) (hb : Below base w w') : MxB w' base := by
  obtain ⟨⟨m, hm⟩, hl⟩ := h
  exact ⟨⟨m, (hb.cell (p := ⟨0, 0, none⟩) hl).trans hm⟩, hl⟩
theorem ex_late : cmd ⟨0, [], []⟩ [100, 97, 116, 97] = (lateB, ⟨0, [], []⟩) := by kernel_rfl

set_option maxRecDepth 100000 in
set_option maxHeartbeats 1000000 in
theorem speaks21_any (w : World) (hw : Mx w) : Calls Tryz.prog 5 #[] w fun e w' => e = .returned (.bool true) ∧ Below w.heap.size w w' := by
  have kc := fun (w : World) (C : Array Value) (n c : Nat) => Lib.run_convert_bytes_const (P := Tryz.prog) w 22 5 C n c Tryz.underlying22 Tryz.underlying5
  go_enter Tryz.func5, Tryz.ntmps5
  go_wp2_with fail
  refine (newPost_any w).mono ?_
  rintro e w1 ⟨rfl, hP, hb1, hlt⟩
  have hb2 : Below w1.heap.size w1 (w1.alloc (.cells #[.int .u8 100, .int .u8 97, .int .u8 116, .int .u8 97, .int .u8 13, .int .u8 10] 5 (6, 7))) := (Below.refl _ _).alloc (Nat.le_refl _) _
  have hf := feedLine_any w.heap.size w.heap.size ⟨0, [], []⟩ [100, 97, 116, 97] (.slice none 0 0) (some ⟨w1.heap.size, 0, none⟩) 6 6 (w1.alloc (.cells #[.int .u8 100, .int .u8 97, .int .u8 116, .int .u8 97, .int .u8 13, .int .u8 10] 5 (6, 7)))
    ((hw.base.below hb1).below hb2) (by decide) rfl rfl (show Rb _ _ [100, 97, 116, 97, 13, 10] from Rb_new w1 [100, 97, 116, 97, 13, 10] _ _ rfl 6 (6, 7)) (Nat.le_refl _) (hP.below hb2) (by have := hb2.size; omega) (by decide) (by decide) (by decide) (by rw [ex_late]; decide)
  rw [ex_late] at hf
  have hB2 := hb1.trans (hb2.mono hb1.size)
  clear hP hb2
  go_wp2_with fail
  refine hf.mono ?_
  rintro e w3 ⟨⟨v, rfl, ho⟩, _, hb3⟩
  obtain ⟨A5, c5, rfl, _, _, hR5, _, _, _⟩ := ho.form
  have hcs := conv_str (P := Tryz.prog) (src := 22) (dst := 9) (e := 5) (c := c5) (n := lateB.length + 2) Tryz.underlying22 Tryz.underlying5 Tryz.underlying9 (show Rb w3 A5 (lateB ++ [13, 10]) from hR5) rfl
  clear hf ho hR5
  go_wp2_with fail
  go_ret
  exact ⟨ret_bool (by first | rfl | decide), hB2.trans hb3⟩

set_option maxHeartbeats 400000 in
theorem mails_none (w : World) (base p : Nat) (s : Ps) (left : List UInt8) (h : PostAt w base p s left (.slice none 0 0)) :
    Calls Tryz.prog 10 #[.pointer (some ⟨p, 0, none⟩)] w fun e w' => e = .returned (.slice none 0 0) ∧ w' = w := by
  obtain ⟨lv, tv, h, _⟩ := h
  have c5 := h.cell (j := 5) rfl
  clear h
  go_enter Tryz.func10, Tryz.ntmps10
  go_wp2_with fail
  go_loopw [2, 4, 10] (fun v _ i wr => i = .int .i64 0 ∧ v = .slice none 0 0 ∧ wr = w) (fun _ _ i _ => 0)
  case atStart => exact ⟨rfl, rfl, rfl⟩
  case round =>
    obtain ⟨rfl, rfl, rfl⟩ := hrel
    go_wp2_with fail
    go_ret
    exact ⟨rfl, rfl⟩

theorem crlf_tests (c : UInt8) : ((c.toNat : Int) == 13) = true ∨ (((c.toNat : Int) == 13) = false ∧ ((c.toNat : Int) == 10) = true) ∨ (((c.toNat : Int) == 13) = false ∧ ((c.toNat : Int) == 10) = false ∧ (c ≠ 13 ∧ c ≠ 10)) := by
  have e1 : ((c.toNat : Int) == 13) = (c == 13) := u8_test c 13 rfl
  have e2 : ((c.toNat : Int) == 10) = (c == 10) := u8_test c 10 rfl
  rw [e1, e2]
  by_cases h1 : c = 13
  · exact .inl (by simp [h1])
  · by_cases h2 : c = 10
    · exact .inr (.inl ⟨by simp [h1], by simp [h2]⟩)
    · exact .inr (.inr ⟨by simp [h1], by simp [h2], h1, h2⟩)
theorem takeAll {α : Type} {P : α → Prop} {l : List α} {k : Nat} {x : α} (h : l[k]? = some x) (ha : ∀ p ∈ l.take k, P p) (hx : P x) : ∀ p ∈ l.take (k + 1), P p := by
  intro p hp
  rw [take_succ_of h] at hp
  rcases List.mem_append.1 hp with hp | hp
  · exact ha p hp
  · simp at hp
    rw [hp]
    exact hx


end Go.Proofs.YtddjabjloplhiaaGreatDoor
