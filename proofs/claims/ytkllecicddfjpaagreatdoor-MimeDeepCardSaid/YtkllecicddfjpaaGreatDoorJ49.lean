/- The statement MimeDeep: the walk of the law. -/
import Derived.Test.YtkllecicddfjpaaGreatDoorJ48
import Derived.Test.YtkllecicddfjpaaGreatDoorJ39
namespace Go.Proofs.YtkllecicddfjpaaGreatDoor
set_option linter.unusedVariables false
set_option linter.unusedSimpArgs false
open Go.RowKit

/-- the digits of the boundary of level j -/
theorem bnDig : ∀ j : Fin 10, bs ([98] ++ [UInt8.ofNat (48 + j.1)]) = bs (bn j.1) := by decide +kernel

theorem and3z (z : Int) : bits .and .i64 z 3 = z % 4 := by
  have h127 : (BitVec.ofInt 64 3).toNat = 2 ^ 2 - 1 := by decide
  have key : (BitVec.ofInt 64 z &&& BitVec.ofInt 64 3).toNat = (z % ((2 ^ 64 : Nat) : Int)).toNat % 2 ^ 2 := by
    rw [BitVec.toNat_and, BitVec.toNat_ofInt, h127, Nat.and_two_pow_sub_one_eq_mod]
  show IntKind.i64.wrap ((BitVec.ofInt 64 z &&& BitVec.ofInt 64 3).toNat : Nat) = z % 4
  rw [key, IntKind.wrap_i64]
  omega
theorem rounds (z : Int) : ∃ N : Nat, 6 ≤ N ∧ N ≤ 9 ∧ wrap64 (6 + bits .and .i64 z 3) = (N : Int) := by
  rw [and3z]
  refine ⟨(6 + z % 4).toNat, by omega, by omega, ?_⟩
  unfold wrap64
  omega

/-- one multipart more about what lies there -/
theorem RL_up {b : List UInt8} {j : Nat} {wr w' : World} {p : Pv} {F : Nat → Prop} {T : Nat} (h : RL b j wr p F) (hF : ∀ k, F k → k ≠ T ∧ k < wr.heap.size) (hT : T < wr.heap.size)
    (hk : ∀ k, k < wr.heap.size → k ≠ T → w'.heap[k]? = wr.heap[k]?) (hz : w'.heap.size = wr.heap.size + 2)
    (h1 : Rv w' (some ⟨wr.heap.size, 0, none⟩) (Tk.pcells [(bdN, bn j)])) (h2 : Rv w' (some ⟨wr.heap.size + 1, 0, none⟩) (pvs [p])) :
    RL b (j + 1) w' ⟨mixN, some ⟨wr.heap.size, 0, none⟩, 1, 1, 0, none, 0, 0, some ⟨wr.heap.size + 1, 0, none⟩, 1, 1⟩ (fun k => F k ∨ k = wr.heap.size ∨ k = wr.heap.size + 1) ∧
      ∀ k, (F k ∨ k = wr.heap.size ∨ k = wr.heap.size + 1) → k ≠ T ∧ k < w'.heap.size := by
  refine ⟨⟨rfl, rfl, rfl, rfl, ⟨h1, ?_⟩, rfl, [(p, F)], rfl, ⟨h2, ?_⟩, ?_⟩, ?_⟩
  · intro b' o e _
    cases e
    exact .inr (.inl rfl)
  · intro b' o e _
    cases e
    exact .inr (.inr rfl)
  · intro q R x hR hx
    match q, hR, hx with
    | 0, hR, hx =>
      cases hR
      cases hx
      exact ⟨RL_stab b j _ _ _ _ h fun k hkk => hk k (hF k hkk).2 (hF k hkk).1, fun k hkk => .inl hkk⟩
  · rintro k (hkk | rfl | rfl)
    · have := hF k hkk
      exact ⟨this.1, by omega⟩
    · exact ⟨by omega, by omega⟩
    · exact ⟨by omega, by omega⟩

/-- two rows more, and the box written -/
theorem box_two (wr : World) (T : Nat) (X Y : Array Value) (tx ty : TypeId) (u0 u1 u2 u3 u4 : Value) (hT : T < wr.heap.size) :
    (∀ k, k < wr.heap.size → k ≠ T → (((((((wr.alloc (.cells X tx)).alloc (.cells Y ty)).setCell ⟨T, 0, none⟩ u0).setCell ⟨T, 1, none⟩ u1).setCell ⟨T, 2, none⟩ u2).setCell ⟨T, 3, none⟩ u3).setCell ⟨T, 4, none⟩ u4).heap[k]? = wr.heap[k]?) ∧
    (((((((wr.alloc (.cells X tx)).alloc (.cells Y ty)).setCell ⟨T, 0, none⟩ u0).setCell ⟨T, 1, none⟩ u1).setCell ⟨T, 2, none⟩ u2).setCell ⟨T, 3, none⟩ u3).setCell ⟨T, 4, none⟩ u4).heap.size = wr.heap.size + 2 ∧
    Row (((((((wr.alloc (.cells X tx)).alloc (.cells Y ty)).setCell ⟨T, 0, none⟩ u0).setCell ⟨T, 1, none⟩ u1).setCell ⟨T, 2, none⟩ u2).setCell ⟨T, 3, none⟩ u3).setCell ⟨T, 4, none⟩ u4) wr.heap.size tx X.toList ∧
    Row (((((((wr.alloc (.cells X tx)).alloc (.cells Y ty)).setCell ⟨T, 0, none⟩ u0).setCell ⟨T, 1, none⟩ u1).setCell ⟨T, 2, none⟩ u2).setCell ⟨T, 3, none⟩ u3).setCell ⟨T, 4, none⟩ u4) (wr.heap.size + 1) ty Y.toList ∧
    ∀ (w : World) (B : Nat), B ≤ T → Below B w wr → Below B w (((((((wr.alloc (.cells X tx)).alloc (.cells Y ty)).setCell ⟨T, 0, none⟩ u0).setCell ⟨T, 1, none⟩ u1).setCell ⟨T, 2, none⟩ u2).setCell ⟨T, 3, none⟩ u3).setCell ⟨T, 4, none⟩ u4) := by
  have r1 : Row ((wr.alloc (.cells X tx)).alloc (.cells Y ty)) wr.heap.size tx X.toList := (Row.new wr X tx).alloc _
  have r2 : Row ((wr.alloc (.cells X tx)).alloc (.cells Y ty)) (wr.heap.size + 1) ty Y.toList := by
    have := Row.new (wr.alloc (.cells X tx)) Y ty
    rw [World.size_alloc] at this
    exact this
  have n1 : ∀ j, (⟨T, j, none⟩ : Addr).block ≠ wr.heap.size := fun j => by show T ≠ _; omega
  have n2 : ∀ j, (⟨T, j, none⟩ : Addr).block ≠ wr.heap.size + 1 := fun j => by show T ≠ _; omega
  refine ⟨fun k hk hne => ?_, by simp only [World.size_setCell, World.size_alloc], ?_, ?_, fun w B h1 h => ?_⟩
  · have n3 : ∀ j, k ≠ (⟨T, j, none⟩ : Addr).block := fun j => hne
    rw [Below.heap_setCell _ _ _ k (n3 4), Below.heap_setCell _ _ _ k (n3 3), Below.heap_setCell _ _ _ k (n3 2), Below.heap_setCell _ _ _ k (n3 1), Below.heap_setCell _ _ _ k (n3 0),
      Below.heap_alloc _ _ k (by rw [World.size_alloc]; omega), Below.heap_alloc _ _ k hk]
  · exact ((((r1.far (n1 0) u0).far (n1 1) u1).far (n1 2) u2).far (n1 3) u3).far (n1 4) u4
  · exact ((((r2.far (n2 0) u0).far (n2 1) u1).far (n2 2) u2).far (n2 3) u3).far (n2 4) u4
  · have n4 : ∀ j, B ≤ (⟨T, j, none⟩ : Addr).block := fun j => h1
    exact (((((((h.alloc (by omega) _).alloc (by rw [World.size_alloc]; omega) _).setCell (n4 0) u0).setCell (n4 1) u1).setCell (n4 2) u2).setCell (n4 3) u3).setCell (n4 4) u4)
theorem Rv_ofRow {w : World} {g : Nat} {t : TypeId} {xs : List Value} (h : Row w g t xs) : Rv w (some ⟨g, 0, none⟩) xs :=
  fun _ => ⟨g, 0, rfl, fun j v hj => by rw [Nat.zero_add]; exact h.cell hj⟩
theorem digits : ∀ j : Fin 10, (⟨#[98]⟩ : ByteArray) ++ (⟨#[48, 49, 50, 51, 52, 53, 54, 55, 56, 57]⟩ : ByteArray).extract j.1 (j.1 + 1) = bs (bn j.1) := by decide +kernel

set_option maxRecDepth 100000 in
set_option maxHeartbeats 4000000 in
theorem mimeDeep_any (A : Option Addr) (b : List UInt8) (m c : Nat) (n : Int) (w : World) (hm : b.length = m) (hA : Rb w A b) (hmc : m ≤ c) (hn2 : m ≤ 9223372036854775807) (hG : Gm w) :
    Calls Tryz.prog 4 #[.slice A m c, .int .i64 n] w fun e w' => e = .returned (.bool true) ∧ Below w.heap.size w w' := by
  have HN := Lib.hid hm
  have hsp := speaks_any w
  clear hm
  go_enter Tryz.func4, Tryz.ntmps4
  go_wp2_with fail
  refine hsp.mono ?_
  rintro e w1 ⟨rfl, hb1⟩
  by_cases h300 : 300 < m
  · go_wp2_with fail
    go_ret
    exact ⟨rfl, hb1⟩
  · go_wp2_with fail
    obtain ⟨N, hN6, hN9, hNe⟩ := rounds n
    rw [hNe]
    have hB1 : Below w.heap.size w (w1.alloc (.cells #[.string ⟨#[97, 47, 98]⟩, .slice none 0 0, .int .i64 1, .slice A m c, .slice none 0 0] 34)) := hb1.alloc hb1.size _
    have rp := Row.new w1 #[.string ⟨#[97, 47, 98]⟩, .slice none 0 0, .int .i64 1, .slice A m c, .slice none 0 0] 34
    have hF : ∀ k, k < w1.heap.size → k ≠ w1.heap.size ∧ k < (w1.alloc (.cells #[.string ⟨#[97, 47, 98]⟩, .slice none 0 0, .int .i64 1, .slice A m c, .slice none 0 0] 34)).heap.size := fun k hk => ⟨by omega, by rw [World.size_alloc]; omega⟩
    have hRL : RL b 0 (w1.alloc (.cells #[.string ⟨#[97, 47, 98]⟩, .slice none 0 0, .int .i64 1, .slice A m c, .slice none 0 0] 34)) ⟨abN, none, 0, 0, 1, A, m, c, none, 0, 0⟩ (fun k => k < w1.heap.size) := by
      refine ⟨rfl, rfl, rfl, HN.out.symm, by rw [HN.out]; exact hmc, ⟨Rv.nil _ _, fun b' o _ h0 => absurd h0 (by simp [Tk.pcells])⟩, ⟨hA.below hB1, fun b' o e h0 => ?_⟩, rfl⟩
      obtain ⟨b1, o1, e1, hc⟩ := hA h0
      rw [e1] at e
      cases e
      obtain ⟨v, hv⟩ : ∃ v, (b.map bv)[0]? = some v := ⟨_, List.getElem?_eq_getElem h0⟩
      have h9 : b' < w.heap.size := cell_lt (hc 0 v hv)
      exact Nat.lt_of_lt_of_le h9 hb1.size
    generalize (w1.alloc (.cells #[.string ⟨#[97, 47, 98]⟩, .slice none 0 0, .int .i64 1, .slice A m c, .slice none 0 0] 34)) = W1 at *
    go_loopw [7] (fun s7 wr => ∃ (j : Nat) (p : Pv) (F : Nat → Prop), s7 = .int .i64 j ∧ j ≤ N ∧ Row wr w1.heap.size 34 p.cells ∧ RL b j wr p F ∧ (∀ k, F k → k ≠ w1.heap.size ∧ k < wr.heap.size) ∧ Below w.heap.size w wr) (fun s7 _ => N - (intOf s7).toNat)
    case atStart => exact ⟨0, ⟨abN, none, 0, 0, 1, A, m, c, none, 0, 0⟩, _, rfl, by omega, rp, hRL, hF, hB1⟩
    case round =>
      obtain ⟨j, ⟨pk, pA, pn, pc, pcode, pB, pnb, pcb, pC, pnq, pcc⟩, F, rfl, hj, rP, hR, hF, hB⟩ := hrel
      simp only [Pv.cells] at rP
      have t0 := rP.cell (j := 0) rfl
      have t1 := rP.cell (j := 1) rfl
      have t2 := rP.cell (j := 2) rfl
      have t3 := rP.cell (j := 3) rfl
      have t4 := rP.cell (j := 4) rfl
      have fz0 := rP.frozen 0
      have fz1 := rP.frozen 1
      have fz2 := rP.frozen 2
      have fz3 := rP.frozen 3
      have fz4 := rP.frozen 4
      by_cases hlt : j < N
      · have rA := rP.below ((Below.refl _ wr).alloc (Nat.le_refl _) (.cells #[.string ⟨#[98, 111, 117, 110, 100, 97, 114, 121]⟩, .string (⟨#[98]⟩ ++ (⟨#[48, 49, 50, 51, 52, 53, 54, 55, 56, 57]⟩ : ByteArray).extract j (j + 1))] 36))
        have t0 := rA.cell (j := 0) rfl
        have t1 := rA.cell (j := 1) rfl
        have t2 := rA.cell (j := 2) rfl
        have t3 := rA.cell (j := 3) rfl
        have t4 := rA.cell (j := 4) rfl
        have rB := rA.below ((Below.refl _ _).alloc (Nat.le_refl _) (.cells #[.string (bs pk), .slice pA pn pc, .int .i64 pcode, .slice pB pnb pcb, .slice pC pnq pcc] 34))
        have u0 := rB.cell (j := 0) rfl
        have v0 := rB.frozen 0
        have rB0 := rB.set 0 (.string ⟨#[109, 117, 108, 116, 105, 112, 97, 114, 116, 47, 109, 105, 120, 101, 100]⟩)
        have u1 := rB0.cell (j := 1) rfl
        have v1 := rB0.frozen 1
        have rB1 := rB0.set 1 (.slice (some ⟨wr.heap.size, 0, none⟩) 1 1)
        have u2 := rB1.cell (j := 2) rfl
        have v2 := rB1.frozen 2
        have rB2 := rB1.set 2 (.int .i64 0)
        have u3 := rB2.cell (j := 3) rfl
        have v3 := rB2.frozen 3
        have rB3 := rB2.set 3 (.slice none 0 0)
        have u4 := rB3.cell (j := 4) rfl
        have v4 := rB3.frozen 4
        have rB4 := rB3.set 4 (.slice (some ⟨wr.heap.size + 1, 0, none⟩) 1 1)
        go_wp2_with fail
        go_roundw
        case rel =>
          refine ⟨j + 1, ⟨mixN, some ⟨wr.heap.size, 0, none⟩, 1, 1, 0, none, 0, 0, some ⟨wr.heap.size + 1, 0, none⟩, 1, 1⟩, (fun k => F k ∨ k = wr.heap.size ∨ k = wr.heap.size + 1), by simp, by omega, ?_, ?_⟩
          · exact rB4
          · obtain ⟨k1, k2, k3, k4, k5⟩ := box_two wr w1.heap.size #[.string ⟨#[98, 111, 117, 110, 100, 97, 114, 121]⟩, .string (⟨#[98]⟩ ++ (⟨#[48, 49, 50, 51, 52, 53, 54, 55, 56, 57]⟩ : ByteArray).extract j (j + 1))] #[.string (bs pk), .slice pA pn pc, .int .i64 pcode, .slice pB pnb pcb, .slice pC pnq pcc] 36 34
              (.string ⟨#[109, 117, 108, 116, 105, 112, 97, 114, 116, 47, 109, 105, 120, 101, 100]⟩) (.slice (some ⟨wr.heap.size, 0, none⟩) 1 1) (.int .i64 0) (.slice none 0 0) (.slice (some ⟨wr.heap.size + 1, 0, none⟩) 1 1) rP.lt
            have e3 : (#[.string ⟨#[98, 111, 117, 110, 100, 97, 114, 121]⟩, .string (⟨#[98]⟩ ++ (⟨#[48, 49, 50, 51, 52, 53, 54, 55, 56, 57]⟩ : ByteArray).extract j (j + 1))] : Array Value).toList = Tk.pcells [(bdN, bn j)] := by
              have hdg := digits ⟨j, by omega⟩
              simp only at hdg
              rw [hdg]
              rfl
            have k3' := Rv_ofRow k3
            rw [e3] at k3'
            obtain ⟨hU1, hU2⟩ := RL_up hR hF rP.lt k1 k2 k3' (Rv_ofRow k4)
            exact ⟨hU1, hU2, k5 w w.heap.size hb1.size hB⟩
        case measure => simp [intOf]; omega
      · obtain rfl : j = N := by omega
        have hbl : b.length ≤ 300 := by rw [HN.out]; omega
        have hPt := RL_PtL b j wr _ F hR
        go_wp2_with fail
        refine (mwrite_any _ _ _ _ _ (outL b j 0) wr (fun W hW => wl_any b hbl j 0 _ W (by omega) (hPt.below hW) ((hG.below hB).below hW))).mono ?_
        rintro e w2 ⟨hwo, hb2⟩
        have hB2 := hB.trans (hb2.mono hB.size)
        have rP2 := rP.below hb2
        by_cases h8 : j ≤ 8
        · rw [outL_ok b hbl j 0 (by omega)] at hwo
          obtain ⟨A3, c3, B3, d3, rfl, hRf, hRb, hd3, hmx, hpl⟩ := hwo
          have hb3 : Below w2.heap.size w2 (w2.alloc (.cells #[.slice A3 (mailL b j).1.length c3, .slice B3 (mailL b j).2.length d3] 39)) := (Below.refl _ _).alloc (Nat.le_refl _) _
          have rL := Row.new w2 #[.slice A3 (mailL b j).1.length c3, .slice B3 (mailL b j).2.length d3] 39
          have l0 := rL.cell (j := 0) rfl
          have l1 := rL.cell (j := 1) rfl
          go_wp2_with fail
          have hB3 := hB2.trans (hb3.mono hB2.size)
          have rP3 := rP2.below hb3
          have hrd := mread_any (.slice A3 (mailL b j).1.length c3) (.slice B3 (mailL b j).2.length d3) (.ok (RL b j)) (w2.alloc (.cells #[.slice A3 (mailL b j).1.length c3, .slice B3 (mailL b j).2.length d3] 39)) (fun R hR' => by cases hR'; exact RL_stab b j) (fun W hW => rl_any b hbl j 0 W A3 c3 B3 d3 (by omega) ((hG.below hB3).below hW) ((hRf.below hb3).below hW) ((hRb.below hb3).below hW) hd3 hmx hpl)
          generalize (w2.alloc (.cells #[.slice A3 (mailL b j).1.length c3, .slice B3 (mailL b j).2.length d3] 39)) = W2 at *
          refine hrd.mono ?_
          rintro e w3 ⟨⟨q, F', rfl, hq, _⟩, hb4⟩
          have hB4 := hB3.trans (hb4.mono hB3.size)
          have rP4 := rP3.below hb4
          have hPq := RL_PtL b j w3 q F' hq
          have hPp := hPt.below (hb2.trans ((hb3.trans (hb4.mono hb3.size)).mono hb2.size))
          obtain ⟨qk, qA, qn, qc, qcode, qB, qnb, qcb, qC, qnq, qcc⟩ := q
          simp only [Pv.val]
          have hb5 : Below w3.heap.size w3 (w3.alloc (.cells #[.string (bs qk), .slice qA qn qc, .int .i64 qcode, .slice qB qnb qcb, .slice qC qnq qcc] 34)) := (Below.refl _ _).alloc (Nat.le_refl _) _
          have rP5 := rP4.below hb5
          have p0 := rP5.cell (j := 0) rfl
          have p1 := rP5.cell (j := 1) rfl
          have p2 := rP5.cell (j := 2) rfl
          have p3 := rP5.cell (j := 3) rfl
          have p4 := rP5.cell (j := 4) rfl
          go_wp2_with fail
          have hB5 := hB4.trans (hb5.mono hB4.size)
          refine (same12 b hbl j ⟨pk, pA, pn, pc, pcode, pB, pnb, pcb, pC, pnq, pcc⟩ ⟨qk, qA, qn, qc, qcode, qB, qnb, qcb, qC, qnq, qcc⟩ _ (hPp.below hb5) (hPq.below hb5)).mono ?_
          rintro e w4 ⟨rfl, hb6⟩
          have hB6 := hB5.trans (hb6.mono hB5.size)
          go_wp2_with fail
          go_ret
          exact ⟨rfl, hB6⟩
        · obtain rfl : j = 9 := by omega
          rw [outL_deep b 8 0 (by omega)] at hwo
          obtain rfl := hwo
          have hb3 : Below w2.heap.size w2 (w2.alloc (.cells #[.slice none 0 0, .slice none 0 0] 39)) := (Below.refl _ _).alloc (Nat.le_refl _) _
          have rL := Row.new w2 #[.slice none 0 0, .slice none 0 0] 39
          have l0 := rL.cell (j := 0) rfl
          have l1 := rL.cell (j := 1) rfl
          have hB3 := hB2.trans (hb3.mono hB2.size)
          go_wp2_with fail
          go_ret
          exact ⟨rfl, hB3⟩
end Go.Proofs.YtkllecicddfjpaaGreatDoor
