/- The talk's Post in memory: restart, quit, reset, data, from, to. -/
import Derived.Test.YtddjabjloplhiaaGreatDoorY2
namespace Go.Proofs.YtddjabjloplhiaaGreatDoor
set_option linter.unusedVariables false
set_option linter.unusedSimpArgs false
open Go.RowKit

/-- what lies outside of S is as it was -/
structure Ext (S : Nat → Prop) (w w' : World) : Prop where
  os : w'.os = w.os
  tape : w'.tape = w.tape
  output : w'.output = w.output
  size : w.heap.size ≤ w'.heap.size
  block : ∀ k, k < w.heap.size → ¬ S k → w'.heap[k]? = w.heap[k]?
section
variable {S T : Nat → Prop} {w w' w'' : World}
theorem Ext.refl (S : Nat → Prop) (w : World) : Ext S w w := ⟨rfl, rfl, rfl, Nat.le_refl _, fun _ _ _ => rfl⟩
theorem Ext.trans (h : Ext S w w') (k : Ext T w' w'') (hT : ∀ b, T b → S b ∨ w.heap.size ≤ b) : Ext S w w'' :=
  ⟨k.os.trans h.os, k.tape.trans h.tape, k.output.trans h.output, Nat.le_trans h.size k.size, fun b hb hs =>
    (k.block b (Nat.lt_of_lt_of_le hb h.size) fun ht => (hT b ht).elim hs (fun hl => by omega)).trans (h.block b hb hs)⟩
theorem Ext.of_below (S : Nat → Prop) (h : Below w.heap.size w w') : Ext S w w' := ⟨h.os, h.tape, h.output, h.size, fun k hk _ => h.block k hk⟩
theorem Ext.of_grown {row : Option Nat} (h : w.grownBy w' row) (hS : ∀ k, row = some k → S k) : Ext S w w' := by
  obtain ⟨h1, h2, h3, h4, h5⟩ := h
  exact ⟨h1, h2, h3, h4, fun k hk hs => h5 k hk fun e => hs (hS k e.symm)⟩
theorem Ext.setCell (S : Nat → Prop) (w : World) (a : Addr) (v : Value) (hS : S a.block) : Ext S w (w.setCell a v) := ⟨rfl, rfl, rfl, by simp, fun k _ hs => Below.heap_setCell w a v k (fun e => hs (e ▸ hS))⟩
theorem Ext.set (h : Ext S w w') (a : Addr) (v : Value) (hS : S a.block) : Ext S w (w'.setCell a v) := h.trans (Ext.setCell S w' a v hS) fun _ hb => .inl hb
theorem Ext.drew (h : Ext S w w') : Ext S w w'.drew := ⟨h.os, h.tape, h.output, h.size, h.block⟩
theorem Ext.alloc (h : Ext S w w') (o : Obj) : Ext S w (w'.alloc o) := h.trans (Ext.of_below S ((Below.refl _ w').alloc (Nat.le_refl _) o)) fun _ hb => .inl hb
theorem Ext.belowR (h : Ext S w w') (hb : Below w'.heap.size w' w'') : Ext S w w'' := h.trans (Ext.of_below S hb) fun _ hb => .inl hb
theorem Ext.belowL (hb : Below w.heap.size w w') (h : Ext S w' w'') : Ext S w w'' := (Ext.of_below S hb).trans h fun _ hb => .inl hb
theorem Ext.mono (h : Ext S w w') (hT : ∀ b, S b → T b) : Ext T w w' := ⟨h.os, h.tape, h.output, h.size, fun k hk hn => h.block k hk fun hs => hn (hT k hs)⟩
theorem Ext.below {B : Nat} {w0 : World} (h : Ext S w w') (hB : Below B w0 w) (hBw : B ≤ w.heap.size) (hS : ∀ b, S b → B ≤ b) : Below B w0 w' :=
  hB.trans ⟨h.os, h.tape, h.output, h.size, fun k hk => h.block k (by omega) fun hs => by have := hS k hs; omega⟩
theorem Ext.row (h : Ext S w w') {g : Nat} {e : TypeId} {cs : List Value} (hr : Row w g e cs) (hg : ¬ S g) : Row w' g e cs := (h.block g hr.lt hg).trans hr
theorem Ext.own (h : Ext S w w') {base e size n : Nat} {v : Value} {xs : List Value} (hv : OwnM w base e size v n xs) (hg : ∀ k, v.ownBlock = some k → ¬ S k) : OwnM w' base e size v n xs := by
  refine ⟨hv.1, ?_⟩
  rcases hv.2 with hn | ⟨g, cap, cur, fz, rfl, hb, hgg, rest⟩
  · exact .inl hn
  · refine .inr ⟨g, cap, cur, fz, rfl, hb, ?_, rest⟩
    rw [h.block g (Array.getElem?_eq_some_iff.1 hgg).1 (hg g (by simp [Value.ownBlock]))]
    exact hgg
end

set_option maxHeartbeats 1000000 in
theorem restart_any (p : Nat) (st : Int) (a0 lv a2 tv mv kv : Value) (w : World) (h : Row w p 52 [a0, lv, a2, tv, mv, kv]) :
    Calls Tryz.prog 42 #[.pointer (some ⟨p, 0, none⟩), .int .i64 st] w fun e w' => e = .returned (.string (bs [50, 53, 48, 32, 111, 107])) ∧
      Row w' p 52 [.int .i64 st, lv, .string (bs []), .slice none 0 0, .slice none 0 0, kv] ∧ Ext (fun k => k = p) w w' := by
  have c0 := h.cell (j := 0) rfl
  have c1 := h.cell (j := 1) rfl
  have c2 := h.cell (j := 2) rfl
  have c3 := h.cell (j := 3) rfl
  have c4 := h.cell (j := 4) rfl
  have c5 := h.cell (j := 5) rfl
  have f0 := h.frozen 0
  have f2 := h.frozen 2
  have f3 := h.frozen 3
  have f4 := h.frozen 4
  go_enter Tryz.func42, Tryz.ntmps42
  go_wp2_with fail
  go_ret
  exact ⟨rfl, (((h.set 0 _).set 2 _).set 3 _).set 4 _, (((((Ext.refl (fun k => k = p) w).set ⟨p, 0, none⟩ _ rfl).set ⟨p, 2, none⟩ _ rfl).set ⟨p, 3, none⟩ _ rfl).set ⟨p, 4, none⟩ _ rfl)⟩

set_option maxHeartbeats 1000000 in
theorem quit_any (p : Nat) (a0 lv a2 tv mv kv : Value) (w : World) (h : Row w p 52 [a0, lv, a2, tv, mv, kv]) :
    Calls Tryz.prog 43 #[.pointer (some ⟨p, 0, none⟩)] w fun e w' => e = .returned (.string (bs [50, 50, 49, 32, 98, 121, 101])) ∧
      Row w' p 52 [.int .i64 5, .slice none 0 0, .string (bs []), .slice none 0 0, .slice none 0 0, kv] ∧ Ext (fun k => k = p) w w' := by
  have hr := restart_any p 5 a0 lv a2 tv mv kv w h
  go_enter Tryz.func43, Tryz.ntmps43
  go_wp2_with fail
  refine hr.mono ?_
  rintro e w1 ⟨rfl, h1, hx⟩
  have c1 := h1.cell (j := 1) rfl
  have f1 := h1.frozen 1
  clear hr h
  go_wp2_with fail
  go_ret
  exact ⟨rfl, h1.set 1 _, hx.set ⟨p, 1, none⟩ _ rfl⟩

theorem run_min_st {P : Program} (w : World) (at_ : Array TypeId) (ty : TypeId) (a : Nat) :
    (Builtin.min_ at_ ty #[.int .i64 (a : Int), .int .i64 1]).run P w = .ok (.int .i64 ((min a 1 : Nat) : Int)) w := by
  by_cases h : a ≤ 1
  · have e : min a 1 = a := by omega
    rw [e]
    have h' : ¬ (1 : Int) < (a : Int) := by omega
    have h2 : (a : Int) ≤ 1 := by omega
    simp [Builtin.min_, Builtin.min2, h', h2]
  · have e : min a 1 = 1 := by omega
    rw [e]
    have h' : (1 : Int) < (a : Int) := by omega
    have h2 : ¬ (a : Int) ≤ 1 := by omega
    simp [Builtin.min_, Builtin.min2, h', h2]
set_option maxHeartbeats 1000000 in
theorem reset_any (p : Nat) (st : Nat) (lv a2 tv mv kv : Value) (w : World) (h : Row w p 52 [.int .i64 st, lv, a2, tv, mv, kv]) :
    Calls Tryz.prog 44 #[.pointer (some ⟨p, 0, none⟩)] w fun e w' => e = .returned (.string (bs [50, 53, 48, 32, 111, 107])) ∧
      Row w' p 52 [.int .i64 ((min st 1 : Nat) : Int), lv, .string (bs []), .slice none 0 0, .slice none 0 0, kv] ∧ Ext (fun k => k = p) w w' := by
  have hr := restart_any p ((min st 1 : Nat) : Int) (.int .i64 st) lv a2 tv mv kv w h
  have hmin := fun W at_ ty => run_min_st (P := Tryz.prog) W at_ ty st
  have c0 := h.cell (j := 0) rfl
  obtain ⟨k, hk⟩ : ∃ k, min st 1 = k := ⟨_, rfl⟩
  rw [hk] at hr hmin ⊢
  clear hk
  go_enter Tryz.func44, Tryz.ntmps44
  go_wp2_with fail
  refine hr.mono ?_
  rintro e w1 ⟨rfl, h1, hx⟩
  clear hr h
  go_wp2_with fail
  go_ret
  exact ⟨rfl, h1, hx⟩

set_option maxHeartbeats 1000000 in
theorem data_any (p : Nat) (st : Nat) (lv a2 tv mv kv : Value) (w : World) (h : Row w p 52 [.int .i64 st, lv, a2, tv, mv, kv]) :
    Calls Tryz.prog 45 #[.pointer (some ⟨p, 0, none⟩)] w fun e w' => e = .returned (.string (bs (if st = 3 then [51, 53, 52, 32, 103, 111] else [53, 48, 51, 32, 111, 114, 100, 101, 114]))) ∧
      Row w' p 52 [.int .i64 ((if st = 3 then 4 else st : Nat) : Int), lv, a2, tv, mv, kv] ∧ Ext (fun k => k = p) w w' := by
  have c0 := h.cell (j := 0) rfl
  have f0 := h.frozen 0
  by_cases h3 : st = 3
  · subst h3
    have HR := Lib.hid h
    clear h
    go_enter Tryz.func45, Tryz.ntmps45
    go_wp2_with fail
    go_ret
    exact ⟨rfl, HR.out.set 0 _, (Ext.refl (fun k => k = p) w).set ⟨p, 0, none⟩ _ rfl⟩
  · have hne : ((st : Int) != 3) = true := by rw [bne_iff_ne]; omega
    rw [if_neg h3, if_neg h3]
    go_enter Tryz.func45, Tryz.ntmps45
    go_wp2_with fail
    go_ret
    exact ⟨rfl, h, Ext.refl _ w⟩

set_option maxHeartbeats 1000000 in
theorem from_any (p : Nat) (s : List UInt8) (st : Nat) (lv a2 tv mv kv : Value) (w : World) (hw : Mx w) (hl : s.length ≤ 1000000) (h : Row w p 52 [.int .i64 st, lv, a2, tv, mv, kv]) :
    Calls Tryz.prog 39 #[.pointer (some ⟨p, 0, none⟩), .string (bs s)] w fun e w' =>
      ((adrOk s = false ∧ e = .returned (.string (bs [53, 48, 49, 32, 102, 111, 114, 109])) ∧ Row w' p 52 [.int .i64 st, lv, a2, tv, mv, kv]) ∨
       (adrOk s = true ∧ st ≠ 1 ∧ e = .returned (.string (bs [53, 48, 51, 32, 111, 114, 100, 101, 114])) ∧ Row w' p 52 [.int .i64 st, lv, a2, tv, mv, kv]) ∨
       (adrOk s = true ∧ st = 1 ∧ e = .returned (.string (bs [50, 53, 48, 32, 111, 107])) ∧ Row w' p 52 [.int .i64 2, lv, .string (bs (adr s)), tv, mv, kv])) ∧ Ext (fun k => k = p) w w' := by
  have ha := address_any s w hw hl
  obtain ⟨a, hae⟩ : ∃ a, adr s = a := ⟨_, rfl⟩
  rw [hae] at ha ⊢
  clear hae
  rcases Bool.eq_false_or_eq_true (adrOk s) with q | q
  · rw [q] at ha ⊢
    by_cases h1 : st = 1
    · subst h1
      go_enter Tryz.func39, Tryz.ntmps39
      go_wp2_with fail
      refine ha.mono ?_
      rintro e w1 ⟨rfl, hb1⟩
      have hr := h.below hb1
      have c0 := hr.cell (j := 0) rfl
      have c2 := hr.cell (j := 2) rfl
      have f0 := hr.frozen 0
      have f2 := hr.frozen 2
      clear ha
      go_wp2_with fail
      go_ret
      exact ⟨.inr (.inr ⟨by first | rfl | trivial, by first | rfl | trivial, rfl, (hr.set 0 _).set 2 _⟩), ((Ext.of_below (fun k => k = p) hb1).set ⟨p, 0, none⟩ _ rfl).set ⟨p, 2, none⟩ _ rfl⟩
    · have hne : ((st : Int) != 1) = true := by rw [bne_iff_ne]; omega
      go_enter Tryz.func39, Tryz.ntmps39
      go_wp2_with fail
      refine ha.mono ?_
      rintro e w1 ⟨rfl, hb1⟩
      have hr := h.below hb1
      have c0 := hr.cell (j := 0) rfl
      clear ha
      go_wp2_with fail
      go_ret
      exact ⟨.inr (.inl ⟨by first | rfl | trivial, h1, rfl, hr⟩), Ext.of_below _ hb1⟩
  · rw [q] at ha ⊢
    go_enter Tryz.func39, Tryz.ntmps39
    go_wp2_with fail
    refine ha.mono ?_
    rintro e w1 ⟨rfl, hb1⟩
    have hr := h.below hb1
    clear ha
    go_wp2_with fail
    go_ret
    exact ⟨.inl ⟨by first | rfl | trivial, rfl, hr⟩, Ext.of_below _ hb1⟩
end Go.Proofs.YtddjabjloplhiaaGreatDoor
