/- The table of the fields' functions: each field's word, and what its reading makes of an event. -/
import Derived.Test.YtleolfpgiaimfaaDoorD8
namespace Go.Proofs.YtleolfpgiaimfaaDoor
set_option linter.unusedVariables false
set_option linter.unusedSimpArgs false
open Go.RowKit Go.Shelf

/-- a field's two functions -/
def fvs : Fk → Nat → Value × Value
  | .who, box => (fnB 46 box, fnB 47 box)
  | .dst, box => (fnB 46 box, fnB 47 box)
  | .n, box => (fnB 46 box, fnB 47 box)
  | .m, box => (fnB 46 box, fnB 47 box)
  | .thread, box => (fnB 48 box, fnB 49 box)
  | .sec, box => (fnB 54 box, fnB 56 box)
  | .stays, box => (fnB 54 box, fnB 56 box)
  | .rk, box => (fnB 46 box, fnB 47 box)
  | .rn, box => (fnB 46 box, fnB 47 box)
  | .rm, box => (fnB 46 box, fnB 47 box)
  | .rt, box => (fnB 48 box, fnB 49 box)
  | .body, _ => (fnV 24, fnV 26)
  | .fresh, _ => (fnV 28, fnV 29)
  | .turn, _ => (fnV 30, fnV 32)
/-- what the box that they have captured holds -/
def boxC : Fk → Option (TypeId × Nat)
  | .who => some (57, 18)
  | .dst => some (57, 19)
  | .n => some (57, 20)
  | .m => some (57, 21)
  | .thread => some (60, 23)
  | .sec => some (69, 39)
  | .stays => some (69, 40)
  | .rk => some (57, 34)
  | .rn => some (57, 35)
  | .rm => some (57, 36)
  | .rt => some (60, 37)
  | .body => none
  | .fresh => none
  | .turn => none
/-- the box holds it -/
def BoxOk (w : World) (x : Fk) (box : Nat) : Prop := ∀ t f, boxC x = some (t, f) → Row w box t [fnV f]
/-- a field, as it lies in memory -/
def FldOk (w : World) (x : Fk) (v : Value) : Prop := ∃ box, v = .agg #[(fvs x box).1, (fvs x box).2] ∧ BoxOk w x box
/-- all that lies in cells is as it was -/
def KeepC (w w' : World) : Prop := ∀ (g : Nat) (cs : Array Value) (t : TypeId) (fz : Nat × Nat), w.heap[g]? = some (Obj.cells cs t fz) → w'.heap[g]? = some (Obj.cells cs t fz)
theorem KeepC.refl (w : World) : KeepC w w := fun _ _ _ _ h => h
theorem KeepC.trans {a b c : World} (h : KeepC a b) (k : KeepC b c) : KeepC a c := fun g cs t fz hg => k g cs t fz (h g cs t fz hg)
theorem KeepC.below {w w' : World} (h : Below w.heap.size w w') : KeepC w w' := fun g _ _ _ hg => (h.block g (Array.getElem?_eq_some_iff.1 hg).1).trans hg
theorem KeepC.row {w w' : World} (h : KeepC w w') {g : Nat} {e : TypeId} {cs : List Value} (hr : Row w g e cs) : Row w' g e cs := h g _ _ _ hr
theorem BoxOk.keep {w w' : World} {x : Fk} {box : Nat} (h : BoxOk w x box) (k : KeepC w w') : BoxOk w' x box := fun t f e => k.row (h t f e)
theorem FldOk.keep {w w' : World} {x : Fk} {v : Value} (h : FldOk w x v) (k : KeepC w w') : FldOk w' x v := by
  obtain ⟨box, e, hb⟩ := h
  exact ⟨box, e, hb.keep k⟩

/-- texts of bounded lengths -/
structure Ev.Sz (E : Ev) : Prop where
  thread : E.thread.length ≤ 1000000
  body : E.body.length ≤ 1000000
  rt : E.rt.length ≤ 1000000
/-- the call of a function's value -/
def Does (v : Value) (args : Array Value) (w : World) (R : Ending → World → Prop) : Prop := ∃ (f : Nat) (caps : Array Value), v = .func (.func f) #[] caps ∧ (∀ args w, (callFunc f args).run Tryd.prog w = .ok (.enter f args) w) ∧ Calls Tryd.prog f (args ++ caps) w R

theorem cell_row {w : World} {g : Nat} {e : TypeId} {v : Value} (h : Row w g e [v]) : w.cell? ⟨g, 0, none⟩ = some v := h.cell (j := 0) rfl
theorem fresh_rb {w : World} {b c : Nat} {E : Ev} {A : Option Addr} (h : EvR w b E A c) (hf : E.fresh.length = 32) : Rb w (some ⟨b, 10, none⟩) E.fresh := fun _ => by
  refine ⟨b, 10, rfl, fun j v hj => ?_⟩
  have hlt := lt_of_get hj
  rw [List.length_map, hf] at hlt
  rw [h.row.cell (evl_fresh hf hlt), ← hj, List.getElem?_map, List.getD_eq_getElem?_getD, List.getElem?_eq_getElem (by omega)]
  rfl
theorem word_any (x : Fk) (box b c : Nat) (E : Ev) (A : Option Addr) (w : World) (hbx : BoxOk w x box) (hE : EvR w b E A c) (hok : E.Ok) (hsz : E.Sz) (hG : Gt w) :
    Does (fvs x box).1 #[.pointer (some ⟨b, 0, none⟩)] w fun e w' => e = .returned (.string (bs (x.word E))) ∧ Below w.heap.size w w' := by
  have hg := evl_get (E := E) (vb := .slice A E.body.length c) hok.fresh
  cases x with
  | who => exact ⟨_, _, rfl, enters_of Tryd.func46 (by kernel_rfl) rfl, number1_any _ 1 box b E.who w sel_who (cell_row (hbx _ _ rfl)) (hE.row.cell (j := 1) rfl) hok.who hG⟩
  | dst => exact ⟨_, _, rfl, enters_of Tryd.func46 (by kernel_rfl) rfl, number1_any _ 2 box b E.dst w sel_dst (cell_row (hbx _ _ rfl)) (hE.row.cell (j := 2) rfl) hok.dst hG⟩
  | n => exact ⟨_, _, rfl, enters_of Tryd.func46 (by kernel_rfl) rfl, number1_any _ 3 box b E.n w sel_n (cell_row (hbx _ _ rfl)) (hE.row.cell (j := 3) rfl) hok.n hG⟩
  | m => exact ⟨_, _, rfl, enters_of Tryd.func46 (by kernel_rfl) rfl, number1_any _ 4 box b E.m w sel_m (cell_row (hbx _ _ rfl)) (hE.row.cell (j := 4) rfl) hok.m hG⟩
  | thread => exact ⟨_, _, rfl, enters_of Tryd.func48 (by kernel_rfl) rfl, text1_any _ 5 box b E.thread w sel_thread (cell_row (hbx _ _ rfl)) (hE.row.cell (j := 5) rfl) hsz.thread⟩
  | sec => exact ⟨_, _, rfl, enters_of Tryd.func54 (by kernel_rfl) rfl, yes1_any _ 7 box b E.sec w sel_sec (cell_row (hbx _ _ rfl)) (hE.row.cell (j := 7) rfl)⟩
  | stays => exact ⟨_, _, rfl, enters_of Tryd.func54 (by kernel_rfl) rfl, yes1_any _ 8 box b E.stays w sel_stays (cell_row (hbx _ _ rfl)) (hE.row.cell (j := 8) rfl)⟩
  | rk => exact ⟨_, _, rfl, enters_of Tryd.func46 (by kernel_rfl) rfl, number1_any _ 42 box b E.rk w sel_rk (cell_row (hbx _ _ rfl)) (hE.row.cell (j := 42) hg.1) hok.rk hG⟩
  | rn => exact ⟨_, _, rfl, enters_of Tryd.func46 (by kernel_rfl) rfl, number1_any _ 43 box b E.rn w sel_rn (cell_row (hbx _ _ rfl)) (hE.row.cell (j := 43) hg.2.1) hok.rn hG⟩
  | rm => exact ⟨_, _, rfl, enters_of Tryd.func46 (by kernel_rfl) rfl, number1_any _ 44 box b E.rm w sel_rm (cell_row (hbx _ _ rfl)) (hE.row.cell (j := 44) hg.2.2.1) hok.rm hG⟩
  | rt => exact ⟨_, _, rfl, enters_of Tryd.func48 (by kernel_rfl) rfl, text1_any _ 45 box b E.rt w sel_rt (cell_row (hbx _ _ rfl)) (hE.row.cell (j := 45) hg.2.2.2) hsz.rt⟩
  | body => exact ⟨_, _, rfl, enters_of Tryd.func24 (by kernel_rfl) rfl, body1_any b _ c A E.body w (hE.row.cell (j := 6) rfl) rfl hE.body hsz.body⟩
  | fresh => exact ⟨_, _, rfl, enters_of Tryd.func28 (by kernel_rfl) rfl, fresh1_any b E.fresh w hok.fresh (fresh_rb hE hok.fresh)⟩
  | turn => exact ⟨_, _, rfl, enters_of Tryd.func30 (by kernel_rfl) rfl, turn1_any b E.turn w (hE.row.cell (j := 9) rfl) hG⟩

theorem Rb.extF {S : Nat → Prop} {w w' : World} {A : Option Addr} {l : List UInt8} {n c : Nat} (h : Rb w A l) (k : Ext S w w') (hS : ∀ x, (Value.slice A n c).ownBlock = some x → ¬ S x) : Rb w' A l := fun hp => by
  obtain ⟨b0, o0, rfl, hc⟩ := h hp
  refine ⟨b0, o0, rfl, fun j v hj => ?_⟩
  have h1 := hc j v hj
  rw [World.cell?_of_block (k.block b0 (cell_lt h1) (hS b0 rfl))]
  exact h1
theorem over_cells {E : Ev} {vb : Value} (L : List UInt8) (hf : E.fresh.length = 32) : (evl E vb).take 10 ++ (L.take 32).map bv ++ (evl E vb).drop (10 + ((L.take 32).map bv).length) = evl { E with fresh := over E.fresh L } vb := by
  unfold evl over
  rw [List.take_left' (by simp), List.drop_append, List.drop_eq_nil_of_le (by simp), List.nil_append]
  simp only [List.length_map, List.length_take, List.length_cons, List.length_nil]
  rw [show 10 + min 32 L.length - (0 + 1 + 1 + 1 + 1 + 1 + 1 + 1 + 1 + 1 + 1) = min 32 L.length by omega, List.drop_append, List.length_map, hf, show min 32 L.length - 32 = 0 by omega, List.drop_zero, List.map_append, ← List.map_drop]
  have e : E.fresh.drop (min 32 L.length) = E.fresh.drop L.length := by
    rcases Nat.le_total L.length 32 with h | h
    · rw [Nat.min_eq_right h]
    · rw [Nat.min_eq_left h, List.drop_eq_nil_of_le (by omega), List.drop_eq_nil_of_le (by omega)]
  rw [e]
  simp
/-- one block turned, its body left -/
theorem EvAt.step {w w2 w' : World} {b c : Nat} {E E' : Ev} {A : Option Addr} (h : EvAt w b E A c) (hb : Below w.heap.size w w2) (k : Ext (fun i => i = b) w2 w') (hr : Row w' b 28 (evl E' (.slice A E.body.length c))) (he : E'.body = E.body) :
    EvAt w' b E' A c ∧ Ext (fun i => i = b) w w' :=
  ⟨⟨⟨by rw [he]; exact hr, by rw [he]; exact h.fit, by rw [he]; exact Rb.extF (n := E.body.length) (c := c) (h.body.below hb) k h.far⟩, by rw [he]; exact h.far⟩, Ext.belowL hb k⟩
/-- what a field's reading does -/
def ReadAt (x : Fk) (s : List UInt8) (E : Ev) (A0 : Option Addr) (c0 : Nat) (b : Nat) (w : World) (e : Ending) (w' : World) : Prop := e = .returned (.bool (x.read E s).2) ∧ ∃ (A : Option Addr) (c : Nat), EvAt w' b (x.read E s).1 A c ∧ Ext (fun i => i = b) w w' ∧ ∀ k, (Value.slice A (x.read E s).1.body.length c).ownBlock = some k → (Value.slice A0 E.body.length c0).ownBlock = some k ∨ w.heap.size ≤ k
theorem read_any (x : Fk) (box b c : Nat) (E : Ev) (A : Option Addr) (s : List UInt8) (w : World) (hbx : BoxOk w x box) (hE : EvAt w b E A c) (hok : E.Ok) (hs : s.length ≤ 1000000) (hG : Gt w) :
    Does (fvs x box).2 #[.pointer (some ⟨b, 0, none⟩), .string (bs s)] w (ReadAt x s E A c b w) := by
  have hg := evl_get (E := E) (vb := .slice A E.body.length c) hok.fresh
  have hst := fun z l => evl_set (E := E) (vb := .slice A E.body.length c) hok.fresh z l
  have hfz := fun j => hE.row.frozen j
  cases x with
  | who =>
    refine ⟨_, _, rfl, enters_of Tryd.func47 (by kernel_rfl) rfl, (number2_any _ 1 box b s _ w sel_who (cell_row (hbx _ _ rfl)) (hE.row.cell (j := 1) rfl) (hfz 1) hs hG).mono ?_⟩
    rintro e w' ⟨rfl, w2, hb2, rfl⟩
    obtain ⟨h1, h2⟩ := hE.step (E' := { E with who := (atoiZ s).1 }) hb2 (Ext.setCell (fun i => i = b) w2 ⟨b, 1, none⟩ (.int .i64 (atoiZ s).1) rfl) ((hE.row.below hb2).set 1 (.int .i64 (atoiZ s).1)) rfl
    exact ⟨rfl, A, c, h1, h2, fun _ h => .inl h⟩
  | dst =>
    refine ⟨_, _, rfl, enters_of Tryd.func47 (by kernel_rfl) rfl, (number2_any _ 2 box b s _ w sel_dst (cell_row (hbx _ _ rfl)) (hE.row.cell (j := 2) rfl) (hfz 2) hs hG).mono ?_⟩
    rintro e w' ⟨rfl, w2, hb2, rfl⟩
    obtain ⟨h1, h2⟩ := hE.step (E' := { E with dst := (atoiZ s).1 }) hb2 (Ext.setCell (fun i => i = b) w2 ⟨b, 2, none⟩ (.int .i64 (atoiZ s).1) rfl) ((hE.row.below hb2).set 2 (.int .i64 (atoiZ s).1)) rfl
    exact ⟨rfl, A, c, h1, h2, fun _ h => .inl h⟩
  | n =>
    refine ⟨_, _, rfl, enters_of Tryd.func47 (by kernel_rfl) rfl, (number2_any _ 3 box b s _ w sel_n (cell_row (hbx _ _ rfl)) (hE.row.cell (j := 3) rfl) (hfz 3) hs hG).mono ?_⟩
    rintro e w' ⟨rfl, w2, hb2, rfl⟩
    obtain ⟨h1, h2⟩ := hE.step (E' := { E with n := (atoiZ s).1 }) hb2 (Ext.setCell (fun i => i = b) w2 ⟨b, 3, none⟩ (.int .i64 (atoiZ s).1) rfl) ((hE.row.below hb2).set 3 (.int .i64 (atoiZ s).1)) rfl
    exact ⟨rfl, A, c, h1, h2, fun _ h => .inl h⟩
  | m =>
    refine ⟨_, _, rfl, enters_of Tryd.func47 (by kernel_rfl) rfl, (number2_any _ 4 box b s _ w sel_m (cell_row (hbx _ _ rfl)) (hE.row.cell (j := 4) rfl) (hfz 4) hs hG).mono ?_⟩
    rintro e w' ⟨rfl, w2, hb2, rfl⟩
    obtain ⟨h1, h2⟩ := hE.step (E' := { E with m := (atoiZ s).1 }) hb2 (Ext.setCell (fun i => i = b) w2 ⟨b, 4, none⟩ (.int .i64 (atoiZ s).1) rfl) ((hE.row.below hb2).set 4 (.int .i64 (atoiZ s).1)) rfl
    exact ⟨rfl, A, c, h1, h2, fun _ h => .inl h⟩
  | thread =>
    refine ⟨_, _, rfl, enters_of Tryd.func49 (by kernel_rfl) rfl, (text2_any _ 5 box b s _ w sel_thread (cell_row (hbx _ _ rfl)) (hE.row.cell (j := 5) rfl) (hfz 5) hs).mono ?_⟩
    rintro e w' ⟨rfl, w2, hb2, rfl⟩
    obtain ⟨h1, h2⟩ := hE.step (E' := { E with thread := (unhexL s).1 }) hb2 (Ext.setCell (fun i => i = b) w2 ⟨b, 5, none⟩ (.string (bs (unhexL s).1)) rfl) ((hE.row.below hb2).set 5 (.string (bs (unhexL s).1))) rfl
    exact ⟨rfl, A, c, h1, h2, fun _ h => .inl h⟩
  | sec =>
    refine ⟨_, _, rfl, enters_of Tryd.func56 (by kernel_rfl) rfl, (yes2_any _ 7 box b s _ w sel_sec (cell_row (hbx _ _ rfl)) (hE.row.cell (j := 7) rfl) (hfz 7)).mono ?_⟩
    rintro e w' ⟨rfl, rfl⟩
    have hb2 := Below.refl w.heap.size w
    obtain ⟨h1, h2⟩ := hE.step (E' := { E with sec := decide (s = [49]) }) hb2 (Ext.setCell (fun i => i = b) w ⟨b, 7, none⟩ (.bool (decide (s = [49]))) rfl) ((hE.row.below hb2).set 7 (.bool (decide (s = [49])))) rfl
    exact ⟨rfl, A, c, h1, h2, fun _ h => .inl h⟩
  | stays =>
    refine ⟨_, _, rfl, enters_of Tryd.func56 (by kernel_rfl) rfl, (yes2_any _ 8 box b s _ w sel_stays (cell_row (hbx _ _ rfl)) (hE.row.cell (j := 8) rfl) (hfz 8)).mono ?_⟩
    rintro e w' ⟨rfl, rfl⟩
    have hb2 := Below.refl w.heap.size w
    obtain ⟨h1, h2⟩ := hE.step (E' := { E with stays := decide (s = [49]) }) hb2 (Ext.setCell (fun i => i = b) w ⟨b, 8, none⟩ (.bool (decide (s = [49]))) rfl) ((hE.row.below hb2).set 8 (.bool (decide (s = [49])))) rfl
    exact ⟨rfl, A, c, h1, h2, fun _ h => .inl h⟩
  | rk =>
    refine ⟨_, _, rfl, enters_of Tryd.func47 (by kernel_rfl) rfl, (number2_any _ 42 box b s _ w sel_rk (cell_row (hbx _ _ rfl)) (hE.row.cell (j := 42) hg.1) (hfz 42) hs hG).mono ?_⟩
    rintro e w' ⟨rfl, w2, hb2, rfl⟩
    obtain ⟨h1, h2⟩ := hE.step (E' := { E with rk := (atoiZ s).1 }) hb2 (Ext.setCell (fun i => i = b) w2 ⟨b, 42, none⟩ (.int .i64 (atoiZ s).1) rfl) (by have h := (hE.row.below hb2).set 42 (.int .i64 (atoiZ s).1); rw [(hst (atoiZ s).1 (unhexL s).1).1] at h; exact h) rfl
    exact ⟨rfl, A, c, h1, h2, fun _ h => .inl h⟩
  | rn =>
    refine ⟨_, _, rfl, enters_of Tryd.func47 (by kernel_rfl) rfl, (number2_any _ 43 box b s _ w sel_rn (cell_row (hbx _ _ rfl)) (hE.row.cell (j := 43) hg.2.1) (hfz 43) hs hG).mono ?_⟩
    rintro e w' ⟨rfl, w2, hb2, rfl⟩
    obtain ⟨h1, h2⟩ := hE.step (E' := { E with rn := (atoiZ s).1 }) hb2 (Ext.setCell (fun i => i = b) w2 ⟨b, 43, none⟩ (.int .i64 (atoiZ s).1) rfl) (by have h := (hE.row.below hb2).set 43 (.int .i64 (atoiZ s).1); rw [(hst (atoiZ s).1 (unhexL s).1).2.1] at h; exact h) rfl
    exact ⟨rfl, A, c, h1, h2, fun _ h => .inl h⟩
  | rm =>
    refine ⟨_, _, rfl, enters_of Tryd.func47 (by kernel_rfl) rfl, (number2_any _ 44 box b s _ w sel_rm (cell_row (hbx _ _ rfl)) (hE.row.cell (j := 44) hg.2.2.1) (hfz 44) hs hG).mono ?_⟩
    rintro e w' ⟨rfl, w2, hb2, rfl⟩
    obtain ⟨h1, h2⟩ := hE.step (E' := { E with rm := (atoiZ s).1 }) hb2 (Ext.setCell (fun i => i = b) w2 ⟨b, 44, none⟩ (.int .i64 (atoiZ s).1) rfl) (by have h := (hE.row.below hb2).set 44 (.int .i64 (atoiZ s).1); rw [(hst (atoiZ s).1 (unhexL s).1).2.2.1] at h; exact h) rfl
    exact ⟨rfl, A, c, h1, h2, fun _ h => .inl h⟩
  | rt =>
    refine ⟨_, _, rfl, enters_of Tryd.func49 (by kernel_rfl) rfl, (text2_any _ 45 box b s _ w sel_rt (cell_row (hbx _ _ rfl)) (hE.row.cell (j := 45) hg.2.2.2) (hfz 45) hs).mono ?_⟩
    rintro e w' ⟨rfl, w2, hb2, rfl⟩
    obtain ⟨h1, h2⟩ := hE.step (E' := { E with rt := (unhexL s).1 }) hb2 (Ext.setCell (fun i => i = b) w2 ⟨b, 45, none⟩ (.string (bs (unhexL s).1)) rfl) (by have h := (hE.row.below hb2).set 45 (.string (bs (unhexL s).1)); rw [(hst (atoiZ s).1 (unhexL s).1).2.2.2] at h; exact h) rfl
    exact ⟨rfl, A, c, h1, h2, fun _ h => .inl h⟩
  | body =>
    refine ⟨_, _, rfl, enters_of Tryd.func26 (by kernel_rfl) rfl, (body2_any b s _ w (hE.row.cell (j := 6) rfl) (hfz 6) hs).mono ?_⟩
    rintro e w' ⟨rfl, w2, A2, c2, hb2, rfl, hlc, hR, hge⟩
    have hfar : ∀ x, (Value.slice A2 (unhexL s).1.length c2).ownBlock = some x → x ≠ b := fun x hx he => by
      have := hge x hx
      have := hE.row.lt
      omega
    exact ⟨rfl, A2, c2, ⟨⟨(hE.row.below hb2).set 6 _, hlc, Rb.extF (n := (unhexL s).1.length) (c := c2) hR (Ext.setCell (fun i => i = b) w2 ⟨b, 6, none⟩ _ rfl) hfar⟩, hfar⟩, Ext.belowL hb2 (Ext.setCell (fun i => i = b) w2 ⟨b, 6, none⟩ _ rfl), fun x hx => .inr (hge x hx)⟩
  | fresh =>
    refine ⟨_, _, rfl, enters_of Tryd.func29 (by kernel_rfl) rfl, (fresh2_any b s w (fun j hj => ⟨_, hE.row.cell (evl_fresh hok.fresh hj)⟩) hfz hs).mono ?_⟩
    rintro e w' ⟨rfl, w2, hb2, rfl⟩
    have hl := evl_len (E := E) (vb := .slice A E.body.length c) hok.fresh
    have hr := Row.setCells (((unhexL s).1.take 32).map bv) 10 w2 _ (hE.row.below hb2) (by rw [hl, List.length_map, List.length_take]; omega)
    have he := over_cells (E := E) (vb := .slice A E.body.length c) (unhexL s).1 hok.fresh
    rw [he] at hr
    obtain ⟨h1, h2⟩ := hE.step (E' := { E with fresh := over E.fresh (unhexL s).1 }) hb2 (Ext.setCells (S := fun i => i = b) rfl _ 10 w2) hr rfl
    exact ⟨rfl, A, c, h1, h2, fun _ h => .inl h⟩
  | turn =>
    refine ⟨_, _, rfl, enters_of Tryd.func32 (by kernel_rfl) rfl, (turn2_any b s _ w (hE.row.cell (j := 9) rfl) (hfz 9) hs hG).mono ?_⟩
    rintro e w' ⟨rfl, w2, hb2, rfl⟩
    obtain ⟨h1, h2⟩ := hE.step (E' := { E with turn := UInt8.ofNat ((atoiZ s).1 % 256).toNat }) hb2 (Ext.setCell (fun i => i = b) w2 ⟨b, 9, none⟩ _ rfl) ((hE.row.below hb2).set 9 _) rfl
    exact ⟨rfl, A, c, h1, h2, fun _ h => .inl h⟩

end Go.Proofs.YtleolfpgiaimfaaDoor
