/- The talk's Post: take. -/
import Derived.Test.YtddjabjloplhiaaGreatDoorZ3
import Derived.Deep.RegionHeldLaw
namespace Go.Proofs.YtddjabjloplhiaaGreatDoor
set_option linter.unusedVariables false
set_option linter.unusedSimpArgs false
open Go.RowKit

theorem step_appM {P : Program} {w : World} {ops : Array Oper} {o : Oper} {a : Act} {K : Act → World → Prop} {Q : Exit → Act → World → Prop} {E : Prop} (hgd : o.guard = none) (s x : Operand) (t tx : TypeId)
    (ho : o.op = .call { callee := .builtin .append, args := #[s, x], argTypes := #[t, tx] }) {e : TypeId} {size bytes : Nat} (T : ElT P t e size bytes) {base : Nat} {v : Value} {n : Nat} {xs : List Value}
    (hown : OwnM w base e size v n xs) (hs : a.eval s = v) {y : Value} {m : Nat} {news : List Value} (hsrc : Src P size tx y m news w) (hx : a.eval x = y) (hb : (n + m) * bytes ≤ 140737488355328) (hbase : base ≤ w.heap.size)
    (h : ∀ v' w', OwnM w' base e size v' (n + m) (xs ++ news) → w.grownBy w' v.ownBlock → (v'.ownBlock = v.ownBlock ∨ v'.ownBlock = some w.heap.size) → K (a.put o.dst v') w') :
    if Region.wanted o (yielded ops a.tmps) = true then Oper.wp P o a w K Q else E := by
  have hw : Region.wanted o (yielded ops a.tmps) = true := by simp [Region.wanted, hgd]
  rw [if_pos hw]
  exact wp_appM s x t tx ho T hown hs hsrc hx hb hbase h
set_option maxRecDepth 100000 in
set_option maxHeartbeats 1000000 in
theorem take_any (p base : Nat) (s : Ps) (lv tv kv mv : Value) (ts : List Tm) (M : Option Addr) (n c : Nat) (w : World) (h : Row w p 52 [.int .i64 s.st, lv, .string (bs s.frm), tv, .slice none 0 0, kv])
    (hk : OwnM w base 38 3 kv ts.length (pcs ts)) (hkp : ¬ nb kv p) (hbase : base ≤ w.heap.size) (hn : n ≤ 2097152) (htl : ts.length ≤ 1000000) (htv : ∃ T a b, tv = .slice T a b) :
    Calls Tryz.prog 21 #[.pointer (some ⟨p, 0, none⟩), .slice M n c] w fun e w' => e = .returned (.string (bs okayB)) ∧ ∃ kv', Row w' p 52 [.int .i64 1, lv, .string (bs []), .slice none 0 0, .slice none 0 0, kv'] ∧
      OwnM w' base 38 3 kv' (ts.length + 1) (pcs ts ++ [.string (bs s.frm), tv, .slice M n c]) ∧ (∀ k, nb kv' k → nb kv k ∨ w.heap.size ≤ k) ∧ Ext (fun k => k = p ∨ nb kv k) w w' := by
  have c0 := h.cell (j := 0) rfl
  have c2 := h.cell (j := 2) rfl
  have c3 := h.cell (j := 3) rfl
  have c4 := h.cell (j := 4) rfl
  have f0 := h.frozen 0
  have f2 := h.frozen 2
  have f3 := h.frozen 3
  have f4 := h.frozen 4
  have hpl := h.lt
  have hnn : ¬ (2097152 : Int) < (n : Int) := by omega
  obtain ⟨At, nt, ct, rfl⟩ := htv
  obtain ⟨Ak, ck, rfl, _, _, _, _, _, _⟩ := hk.form
  go_enter Tryz.func21, Tryz.ntmps21
  go_wp2_with fail
  obtain ⟨w4, hw4⟩ : ∃ w4, ((((w.setCell ⟨p, 0, none⟩ (.int .i64 1)).setCell ⟨p, 2, none⟩ (.string ⟨#[]⟩)).setCell ⟨p, 3, none⟩ (.slice none 0 0)).setCell ⟨p, 4, none⟩ (.slice none 0 0)) = w4 := ⟨_, rfl⟩
  have hr4 : Row w4 p 52 [.int .i64 1, lv, .string (bs []), .slice none 0 0, .slice none 0 0, .slice Ak ts.length ck] := by
    rw [← hw4]
    exact (((h.set 0 _).set 2 _).set 3 _).set 4 _
  have hx4 : Ext (fun k => k = p) w w4 := by
    rw [← hw4]
    exact (((((Ext.refl (fun k => k = p) w).set ⟨p, 0, none⟩ _ rfl).set ⟨p, 2, none⟩ _ rfl).set ⟨p, 3, none⟩ _ rfl).set ⟨p, 4, none⟩ _ rfl)
  have hs4 : w4.heap.size = w.heap.size := by
    rw [← hw4]
    simp
  rw [hw4]
  have hk4 := hx4.own hk (fun k h1 h2 => hkp (h2 ▸ h1))
  clear hw4 h hk c0 c2 c3 c4 f0 f2 f3 f4
  have hbox : Row (w4.alloc (.cells #[.string (bs s.frm), .slice At nt ct, .slice M n c] 38)) w4.heap.size 38 [.string (bs s.frm), .slice At nt ct, .slice M n c] := Row.new w4 _ _
  have hr5 := hr4.alloc (.cells #[.string (bs s.frm), .slice At nt ct, .slice M n c] 38)
  have hk5 := hk4.alloc (.cells #[.string (bs s.frm), .slice At nt ct, .slice M n c] 38)
  have hx5 := hx4.alloc (.cells #[.string (bs s.frm), .slice At nt ct, .slice M n c] 38)
  rw [hs4] at hbox
  obtain ⟨w5, hw5⟩ : ∃ w5, w4.alloc (.cells #[.string (bs s.frm), .slice At nt ct, .slice M n c] 38) = w5 := ⟨_, rfl⟩
  have hs5 : w5.heap.size = w.heap.size + 1 := by rw [← hw5]; simp [hs4]
  rw [hw5] at hbox hr5 hk5 hx5 ⊢
  clear hw5 hr4 hk4 hx4 hs4 w4
  have c5 := hr5.cell (j := 5) rfl
  have f5 := hr5.frozen 5
  have b0 := hbox.cell (j := 0) rfl
  have b1 := hbox.cell (j := 1) rfl
  have b2 := hbox.cell (j := 2) rfl
  have hrA := hr5.alloc (.cells #[.string (bs s.frm), .slice At nt ct, .slice M n c] 38)
  have c5a := hrA.cell (j := 5) rfl
  have HOWN := Lib.hid (show OwnM (w5.alloc (.cells #[.string (bs s.frm), .slice At nt ct, .slice M n c] 38)).drew base 38 3 (.slice Ak ts.length ck) ts.length (pcs ts) from hk5.alloc _)
  have HSRC := Lib.hid (show Src Tryz.prog 3 31 (.slice (some ⟨w5.heap.size, 0, none⟩) 1 1) 1 [.string (bs s.frm), .slice At nt ct, .slice M n c] (w5.alloc (.cells #[.string (bs s.frm), .slice At nt ct, .slice M n c] 38)).drew from Src_rv (news := [.string (bs s.frm), .slice At nt ct, .slice M n c]) Tryz.underlying31 rfl (Rv_new w5 _ _ _ rfl) (by simp [Value.oneCell']) (by omega))
  have hszA : base ≤ (w5.alloc (.cells #[.string (bs s.frm), .slice At nt ct, .slice M n c] 38)).drew.heap.size := by simp; omega
  have hbt : (ts.length + 1) * 64 ≤ 140737488355328 := by omega
  have HKP := Lib.hid hkp
  have HRA := Lib.hid hrA
  have HX5 := Lib.hid hx5
  clear hkp hrA hr5 hk5 hx5 hbox
  go_region_law (refine step_appM rfl (.tmp 26) (.tmp 28) _ _ rfl TPo HOWN.out (by simp [Act.eval, Act.put]) HSRC.out (by simp [Act.eval, Act.put]) hbt hszA ?_; intro v6 w6 hown6 hgr6 hat6; have HO6 := Lib.hid hown6; have HG6 := Lib.hid hgr6; have HA6 := Lib.hid hat6; obtain ⟨A6, c6, rfl, _, _, _, _, _, _⟩ := hown6.form; have hr6 := (Ext.of_grown (S := fun k => nb (.slice Ak ts.length ck) k) hgr6 (fun k e => e)).row (show Row (w5.alloc (.cells #[.string (bs s.frm), .slice At nt ct, .slice M n c] 38)).drew p _ _ from HRA.out) HKP.out; have d5 := hr6.cell (j := 5) rfl; have z5 := hr6.frozen 5; have HR6 := Lib.hid hr6; clear hown6 hgr6 hat6 hr6)
  all_goals
    go_wp2_with fail
    go_ret
    have hx6 : Ext (fun k => k = p ∨ nb (.slice Ak ts.length ck) k) w w6 := ((HX5.out.mono fun b e => .inl e).alloc (.cells #[.string (bs s.frm), .slice At nt ct, .slice M n c] 38)).drew.trans (Ext.of_grown (S := fun k => nb (.slice Ak ts.length ck) k) HG6.out fun k e => e) fun b e => .inl (.inr e)
    have hv6 : ∀ k, nb (.slice A6 (ts.length + 1) c6) k → nb (.slice Ak ts.length ck) k ∨ w.heap.size + 2 ≤ k := fun k hk => by
      unfold nb at hk ⊢
      rcases HA6.out with h | h
      · rw [h] at hk; exact .inl hk
      · rw [h] at hk
        have := Option.some.inj hk
        simp at this
        exact .inr (by omega)
    refine ⟨rfl, _, HR6.out.set 5 _, Ext.own ((Ext.refl (fun k => k = p) w6).set ⟨p, 5, none⟩ _ rfl) HO6.out (fun k hk e => ?_), fun k hk => (hv6 k hk).elim .inl fun h => .inr (by omega), hx6.set ⟨p, 5, none⟩ _ (.inl rfl)⟩
    rcases hv6 k hk with h | h
    · exact HKP.out (e ▸ h)
    · omega

end Go.Proofs.YtddjabjloplhiaaGreatDoor
