/- Events in memory; the functions of a body, of fresh bytes, of a turn. -/
import Derived.Test.YtleolfpgiaimfaaDoorD6
import Derived.Laws.IdiomCopy
namespace Go.Proofs.YtleolfpgiaimfaaDoor
set_option linter.unusedVariables false
set_option linter.unusedSimpArgs false
open Go.RowKit Go.Shelf

/-- an event's cells -/
def evl (E : Ev) (vb : Value) : List Value :=
  [.int .i64 E.kind, .int .i64 E.who, .int .i64 E.dst, .int .i64 E.n, .int .i64 E.m, .string (bs E.thread), vb, .bool E.sec, .bool E.stays, bv E.turn] ++ (E.fresh.map bv ++ [.int .i64 E.rk, .int .i64 E.rn, .int .i64 E.rm, .string (bs E.rt)])
/-- an event in a block of its own -/
structure EvR (w : World) (b : Nat) (E : Ev) (A : Option Addr) (c : Nat) : Prop where
  row : Row w b 28 (evl E (.slice A E.body.length c))
  fit : E.body.length ≤ c
  body : Rb w A E.body
/-- its body lies in no cell of it -/
structure EvAt (w : World) (b : Nat) (E : Ev) (A : Option Addr) (c : Nat) : Prop extends EvR w b E A c where
  far : ∀ x, (Value.slice A E.body.length c).ownBlock = some x → x ≠ b

theorem evl_get {E : Ev} {vb : Value} (hf : E.fresh.length = 32) : (evl E vb)[42]? = some (.int .i64 E.rk) ∧ (evl E vb)[43]? = some (.int .i64 E.rn) ∧ (evl E vb)[44]? = some (.int .i64 E.rm) ∧ (evl E vb)[45]? = some (.string (bs E.rt)) := by
  unfold evl
  refine ⟨?_, ?_, ?_, ?_⟩ <;> (rw [List.getElem?_append_right (by simp), List.getElem?_append_right (by simp [hf])]; simp [hf])
theorem evl_fresh {E : Ev} {vb : Value} (hf : E.fresh.length = 32) {j : Nat} (hj : j < 32) : (evl E vb)[10 + j]? = some (bv (E.fresh.getD j 0)) := by
  unfold evl
  rw [List.getElem?_append_right (by simp), List.getElem?_append_left (by simp [hf]; exact hj)]
  simp only [List.length_cons, List.length_nil, List.getElem?_map]
  rw [show 10 + j - (0 + 1 + 1 + 1 + 1 + 1 + 1 + 1 + 1 + 1 + 1) = j by omega, List.getElem?_eq_getElem (by omega), List.getD_eq_getElem?_getD, List.getElem?_eq_getElem (by omega)]
  rfl
theorem evl_len {E : Ev} {vb : Value} (hf : E.fresh.length = 32) : (evl E vb).length = 46 := by simp [evl, hf]
theorem set_right {α : Type} (a b : List α) (n k : Nat) (v : α) (h : n = a.length + k) : (a ++ b).set n v = a ++ b.set k v := by
  subst h
  rw [List.set_append_right _ _ (by omega)]
  congr 2
  omega
theorem evl_set {E : Ev} {vb : Value} (hf : E.fresh.length = 32) (z : Int) (l : List UInt8) :
    (evl E vb).set 42 (.int .i64 z) = evl { E with rk := z } vb ∧ (evl E vb).set 43 (.int .i64 z) = evl { E with rn := z } vb ∧ (evl E vb).set 44 (.int .i64 z) = evl { E with rm := z } vb ∧ (evl E vb).set 45 (.string (bs l)) = evl { E with rt := l } vb := by
  unfold evl
  refine ⟨?_, ?_, ?_, ?_⟩
  · rw [set_right _ _ 42 32 _ (by simp), set_right _ _ 32 0 _ (by simp [hf])]; rfl
  · rw [set_right _ _ 43 33 _ (by simp), set_right _ _ 33 1 _ (by simp [hf])]; rfl
  · rw [set_right _ _ 44 34 _ (by simp), set_right _ _ 34 2 _ (by simp [hf])]; rfl
  · rw [set_right _ _ 45 35 _ (by simp), set_right _ _ 35 3 _ (by simp [hf])]; rfl

/-- a body's word -/
theorem body1_any (b n c : Nat) (A : Option Addr) (l : List UInt8) (w : World) (hc : w.cell? ⟨b, 6, none⟩ = some (.slice A n c)) (hn : l.length = n) (hR : Rb w A l) (hl : n ≤ 1000000) :
    Calls Tryd.prog 24 #[.pointer (some ⟨b, 0, none⟩)] w fun e w' => e = .returned (.string (bs (hexL l))) ∧ Below w.heap.size w w' := by
  have hH := hex_any A l n c w hn hR hl
  go_enter Tryd.func24, Tryd.ntmps24
  go_wp2_with (go_at_call 25; refine hH.mono ?_; rintro e w2 ⟨rfl, hb2⟩)
  go_ret
  exact ⟨rfl, hb2⟩
theorem body2_any (b : Nat) (s : List UInt8) (u : Value) (w : World) (hc : w.cell? ⟨b, 6, none⟩ = some u) (hfz : w.frozen? ⟨b, 6, none⟩ = false) (hl : s.length ≤ 1000000) :
    Calls Tryd.prog 26 #[.pointer (some ⟨b, 0, none⟩), .string (bs s)] w fun e w' => e = .returned (.bool (unhexL s).2) ∧ ∃ (w2 : World) (A : Option Addr) (c : Nat), Below w.heap.size w w2 ∧ w' = w2.setCell ⟨b, 6, none⟩ (.slice A (unhexL s).1.length c) ∧ (unhexL s).1.length ≤ c ∧ Rb w2 A (unhexL s).1 ∧ (∀ x, (Value.slice A (unhexL s).1.length c).ownBlock = some x → w.heap.size ≤ x) := by
  have hI := unhex_any s w hl
  go_enter Tryd.func26, Tryd.ntmps26
  go_wp2_with (go_at_call 27; refine hI.mono ?_; rintro e w2 ⟨A, c, rfl, hlc, hRb, hge, hb2⟩; refine Hid.out ?_)
  refine Lib.hid ?_
  have hc2 := (hb2.cell (p := ⟨b, 6, none⟩) (cell_lt hc)).trans hc
  have hfz2 := (hb2.frozen (p := ⟨b, 6, none⟩) (cell_lt hc)).trans hfz
  clear hc hfz hI
  go_wp2_with fail
  go_ret
  exact ⟨rfl, w2, A, c, hb2, rfl, hlc, hRb, hge⟩
/-- fresh bytes' word -/
theorem fresh1_any (b : Nat) (l : List UInt8) (w : World) (hn : l.length = 32) (hR : Rb w (some ⟨b, 10, none⟩) l) :
    Calls Tryd.prog 28 #[.pointer (some ⟨b, 0, none⟩)] w fun e w' => e = .returned (.string (bs (hexL l))) ∧ Below w.heap.size w w' := by
  have hH := hex_any (some ⟨b, 10, none⟩) l 32 32 w hn hR (by omega)
  go_enter Tryd.func28, Tryd.ntmps28
  go_wp2_with (go_at_call 25; refine hH.mono ?_; rintro e w2 ⟨rfl, hb2⟩)
  go_ret
  exact ⟨rfl, hb2⟩
/-- a turn's word -/
theorem turn1_any (b : Nat) (t : UInt8) (w : World) (hc : w.cell? ⟨b, 9, none⟩ = some (bv t)) (hG : Gt w) :
    Calls Tryd.prog 30 #[.pointer (some ⟨b, 0, none⟩)] w fun e w' => e = .returned (.string (bs (Lib.itoa (t.toNat : Int)))) ∧ Below w.heap.size w w' := by
  have hI := itoa_any (t.toNat : Int) w (isInt_byte t) hG
  have h1 := isInt_byte t
  unfold bv at hc
  have h2 := u8_ge t
  have h3 := u8_lt t
  unfold isInt at h1
  generalize (t.toNat : Int) = z at *
  go_enter Tryd.func30, Tryd.ntmps30
  go_wp2_with (go_at_call 31; refine hI.mono ?_; rintro e w2 ⟨rfl, hb2⟩)
  go_ret
  exact ⟨rfl, hb2⟩
theorem turn_byte (z : Int) : Value.int .u8 (z % 256) = bv (UInt8.ofNat (z % 256).toNat) := by
  unfold bv
  have h1 := Int.emod_nonneg z (by omega : (256 : Int) ≠ 0)
  have h2 := Int.emod_lt_of_pos z (by omega : (0 : Int) < 256)
  rw [UInt8.toNat_ofNat']
  congr 1
  omega
theorem turn2_any (b : Nat) (s : List UInt8) (u : Value) (w : World) (hc : w.cell? ⟨b, 9, none⟩ = some u) (hfz : w.frozen? ⟨b, 9, none⟩ = false) (hl : s.length ≤ 1000000) (hG : Gt w) :
    Calls Tryd.prog 32 #[.pointer (some ⟨b, 0, none⟩), .string (bs s)] w fun e w' => e = .returned (.bool (atoiZ s).2) ∧ ∃ w2, Below w.heap.size w w2 ∧ w' = w2.setCell ⟨b, 9, none⟩ (bv (UInt8.ofNat ((atoiZ s).1 % 256).toNat)) := by
  have hI := atoi_any s w hl hG
  go_enter Tryd.func32, Tryd.ntmps32
  go_wp2_with (go_at_call 33; refine hI.mono ?_; rintro e w2 ⟨ev, rfl, hev, hb2⟩; refine Hid.out ?_)
  refine Lib.hid ?_
  have hc2 := (hb2.cell (p := ⟨b, 9, none⟩) (cell_lt hc)).trans hc
  have hfz2 := (hb2.frozen (p := ⟨b, 9, none⟩) (cell_lt hc)).trans hfz
  clear hc hfz hI
  obtain ⟨z, hz⟩ : ∃ z, atoiZ s = z := ⟨_, rfl⟩
  rw [hz] at hev ⊢
  obtain ⟨z1, z2⟩ := z
  simp only at hev ⊢
  rcases hev with ⟨rfl, rfl⟩ | ⟨⟨te, pe, rfl⟩, rfl⟩
  · go_wp2_with fail
    go_ret
    exact ⟨ret_bool (a := true) (by rw [hz]), _, hb2, by rw [hz, ← turn_byte]⟩
  · go_wp2_with fail
    go_ret
    exact ⟨ret_bool (a := false) (by rw [hz]), _, hb2, by rw [hz, ← turn_byte]⟩

end Go.Proofs.YtleolfpgiaimfaaDoor
