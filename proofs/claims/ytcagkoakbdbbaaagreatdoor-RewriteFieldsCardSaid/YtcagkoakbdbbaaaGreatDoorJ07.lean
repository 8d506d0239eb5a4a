/- bytes.Lines: what its iterator hands to each round. · A made row, told by its block: its cells, and stores into it. Nothing of the program. -/
import Derived.Test.YtcagkoakbdbbaaaGreatDoorJ01
import Derived.Test.YtcagkoakbdbbaaaGreatDoorJ02
import Derived.Test.YtcagkoakbdbbaaaGreatDoorJ04
import Derived.Test.YtcagkoakbdbbaaaGreatDoorJ06
import Derived.Shelf.Abstract
import Derived.OwnWalkIn
import Derived.TacticsInMore
import Derived.LoopNIn
import Derived.LoopIn
import Derived.Sort.BigQuietIn
import Derived.BigRegionIn
namespace Go.Proofs.YtcagkoakbdbbaaaGreatDoor
set_option linter.unusedVariables false
set_option linter.unusedSimpArgs false
open Go.RowKit Go.Shelf

attribute [local go_sem] Oper.semAt_some

theorem ibL_any (b o : Nat) (l : List UInt8) (n c : Nat) (s : UInt8) (w : World) (hn : l.length = n) (hA : Rb w (some ⟨b, o, none⟩) l) :
    Calls Tryz.prog 69 #[.slice (some ⟨b, o, none⟩) n c, .int .u8 (s.toNat : Int)] w fun e w' => e = .returned (.int .i64 (Lib.indexByte l s)) ∧ w = w' := by
  subst hn
  have h := Tryz.bytes_IndexByte b o l.length c (nums l) (s.toNat : Int) w (nums_len l) (fun i hi => by
    rw [nums_getD l i hi]
    obtain ⟨b', o', x, e, hx, hc⟩ := hA.one hi
    cases e
    have hx' : l[i] = x := by have := hx.out; rw [List.getElem?_eq_getElem hi] at this; exact Option.some.inj this
    rw [hc, hx'])
  rw [bytesOf_nums] at h
  refine h.mono ?_
  rintro e w' ⟨rfl, rfl⟩
  refine ⟨?_, rfl⟩
  congr 3
  simp
theorem idxL_cases (l : List UInt8) (c : UInt8) : (Lib.indexByte l c = -1 ∧ ∀ x ∈ l, x ≠ c) ∨ ∃ k : Nat, Lib.indexByte l c = (k : Int) ∧ l[k]? = some c ∧ (∀ x ∈ l.take k, x ≠ c) := by
  have hge := Lib.indexByte_ge l c
  by_cases h : Lib.indexByte l c = -1
  · left
    refine ⟨h, fun x hx e => ?_⟩
    obtain ⟨k, hk⟩ := List.mem_iff_getElem?.1 hx
    exact Lib.indexByte_none h k (by rw [hk, e])
  · right
    obtain ⟨k, hk⟩ : ∃ k : Nat, Lib.indexByte l c = (k : Int) := ⟨(Lib.indexByte l c).toNat, by omega⟩
    obtain ⟨h1, h2⟩ := Lib.indexByte_some hk
    refine ⟨k, hk, h1, fun x hx e => ?_⟩
    obtain ⟨j, hj⟩ := List.mem_iff_getElem?.1 hx
    rw [List.getElem?_take] at hj
    split at hj
    · exact h2 j (by assumption) (by rw [hj, e])
    · cases hj

/-- a line, as a value -/
def lnV (A : Option Addr) (p : Nat × Nat) : Value := .slice (A.map fun a => ⟨a.block, a.off + p.1, none⟩) (p.2 - p.1) (p.2 - p.1)
/-- what the rounds must keep: the slice's box, the bytes -/
def LnK (Bs : Nat) (A : Option Addr) (b : List UInt8) (W W' : World) : Prop := W'.heap[Bs]? = W.heap[Bs]? ∧ (Rb W A b → Rb W' A b)
theorem LnK.trans {Bs : Nat} {A : Option Addr} {b : List UInt8} {X Y Z : World} (h : LnK Bs A b X Y) (k : LnK Bs A b Y Z) : LnK Bs A b X Z := ⟨k.1.trans h.1, fun hr => k.2 (h.2 hr)⟩
/-- how long the slice in the box is -/
def lnM (Bs : Nat) (W : World) : Nat := match W.cell? ⟨Bs, 0, none⟩ with | some (.slice _ m _) => m | _ => 0
theorem lnM_of {Bs : Nat} {W : World} {X : Option Addr} {m Y : Nat} (h : W.cell? ⟨Bs, 0, none⟩ = some (.slice X m Y)) : lnM Bs W = m := by unfold lnM; rw [h]
/-- bytes lie in no box of a slice -/
theorem rb_box {W : World} {B : Nat} {t : TypeId} {X : Option Addr} {m Y : Nat} {A : Option Addr} {l : List UInt8} (hr : Boxed W B t (.slice X m Y)) (h : Rb W A l) (h0 : 0 < l.length) : ∀ b o, A = some ⟨b, o, none⟩ → b ≠ B := by
  rintro b o rfl e
  obtain ⟨b1, o1, x, e1, _, hc⟩ := h.one h0
  cases e1
  subst e
  simp only [World.cell?, show W.heap[b]? = _ from hr] at hc
  rcases o with _ | o
  · simp at hc
  · simp at hc

theorem sl_to {P : Program} {t e : TypeId} (ht : P.underlying t = some (.slice e)) (hsz : ∀ w, (sizeOf e).run P w = .ok 1 w) (b o m Y k : Nat) (hk : k + 1 ≤ Y) :
    ∀ K w, (Instr.slice t (.slice (some ⟨b, o, none⟩) m Y) none (some (.int K ((k : Int) + 1))) none).run P w = .ok (.slice (some ⟨b, o, none⟩) (k + 1) Y) w := by
  intro K w
  have e1 : ((k : Int) + 1).toNat = k + 1 := by omega
  rw [run_slice_h w t _ m Y (elem_of ht) K ((k : Int) + 1) (by omega) (by omega), elem_eq ht, hsz, e1]
  simp [Result.andThen, sliced, Addr.add]
theorem sl_from {P : Program} {t e : TypeId} (ht : P.underlying t = some (.slice e)) (hsz : ∀ w, (sizeOf e).run P w = .ok 1 w) (b o m Y k : Nat) (hk : k + 1 ≤ m) :
    ∀ K w, (Instr.slice t (.slice (some ⟨b, o, none⟩) m Y) (some (.int K ((k : Int) + 1))) none none).run P w = .ok (.slice (some ⟨b, if Y = k + 1 then o else o + (k + 1), none⟩) (m - (k + 1)) (Y - (k + 1))) w := by
  intro K w
  have e1 : ((k : Int) + 1).toNat = k + 1 := by omega
  rw [run_slice_l w t _ m Y (elem_of ht) K ((k : Int) + 1) (by omega) (by omega), elem_eq ht, hsz, e1]
  have hadd : (⟨b, o, none⟩ : Addr).add (k + 1) = ⟨b, o + (k + 1), none⟩ := by unfold Addr.add; split <;> simp_all
  by_cases hY : Y = k + 1
  · simp [Result.andThen, sliced, hY]
  · simp [Result.andThen, sliced, hY, hadd]
theorem sl_cap {P : Program} {t e : TypeId} (ht : P.underlying t = some (.slice e)) (hsz : ∀ w, (sizeOf e).run P w = .ok 1 w) (b o m Y k : Nat) (hk : k + 1 ≤ Y) :
    ∀ K K2 w, (Instr.slice t (.slice (some ⟨b, o, none⟩) m Y) none (some (.int K ((k : Int) + 1))) (some (.int K2 ((k : Int) + 1)))).run P w = .ok (.slice (some ⟨b, o, none⟩) (k + 1) (k + 1)) w := by
  intro K K2 w
  have e1 : ((k : Int) + 1).toNat = k + 1 := by omega
  rw [run_slice_hm w t _ m Y (elem_of ht) K K2 ((k : Int) + 1) ((k : Int) + 1) (by omega) (by omega) (by omega), elem_eq ht, hsz, e1]
  simp [Result.andThen, sliced, Addr.add]

set_option maxHeartbeats 400000 in
theorem lines_in (f : Nat) (A : Option Addr) (n c : Nat) (w : World) :
    CallsIn Fence.wide f Tryz.prog 55 #[.slice A n c] w fun e w' =>
      e = .returned (.func (.func 81) #[] #[.pointer (some ⟨w.heap.size, 0, none⟩)]) ∧ w' = w.alloc (.cells #[.slice A n c] 22) := by
  refine callsIn_of_wp Tryz.func55 rfl trivial ?_ rfl
  simp only [Tryz.ntmps55, List.size_toArray, List.length_cons, List.length_nil, Nat.reduceAdd, Nat.reduceSub, Array.replicate_succ, Array.replicate_zero, List.push_toArray, List.append_toArray, List.nil_append, List.cons_append]
  gi_wp2
  go_ret
  exact ⟨rfl, rfl⟩

set_option maxRecDepth 100000 in
set_option maxHeartbeats 2000000 in
theorem lines1_in (f : Nat) (l Bs n c : Nat) (A : Option Addr) (b : List UInt8) (hn : b.length = n) (hnc : n ≤ c) (hb : n ≤ 1000000000)
    (J Jx : List (Nat × Nat) → World → Prop)
    (hJ : ∀ s X Y, J s X → X.grownBy Y (some Bs) → J s Y)
    (hY : ∀ pre x W, J pre W → LnOk b (lnEnd pre) x → YieldAt Fence.wide (f - 1) Tryz.prog l #[lnV A x] W fun e W' =>
      (e = .returned (.bool true) ∧ J (pre ++ [x]) W' ∧ LnK Bs A b W W') ∨ (e = .returned (.bool false) ∧ Jx (pre ++ [x]) W'))
    (W : World) (hBs : Boxed W Bs 22 (.slice A n c)) (hA : Rb W A b) (h0 : J [] W) :
    CallsIn Fence.wide f Tryz.prog 81 #[.func (.yield l) #[] #[], .pointer (some ⟨Bs, 0, none⟩)] W fun e W' => (∃ v, e = .returned v) ∧
      ((∃ ys, lnEnd ys = b.length ∧ J ys W') ∨ (∃ pre, True ∧ Jx pre W')) := by
  have HN := Lib.hid hn
  clear hn
  refine callsIn_of_wp Tryz.func81 rfl trivial ?_ rfl
  simp only [Tryz.ntmps81, List.size_toArray, List.length_cons, List.length_nil, Nat.reduceAdd, Nat.reduceSub, Array.replicate_succ, Array.replicate_zero, List.push_toArray, List.append_toArray, List.nil_append, List.cons_append]
  gi_wp2
  gi_loopw [3] (fun _ wr => ∃ (q : Nat) (ys : List (Nat × Nat)) (X : Option Addr) (Y : Nat), q ≤ n ∧ Hid (lnEnd ys = q) ∧ J ys wr ∧ Hid (Boxed wr Bs 22 (.slice X (n - q) Y)) ∧ Rb wr A b ∧ Hid (q < n → Y = c - q ∧ ∃ b0 o0, A = some ⟨b0, o0, none⟩ ∧ X = some ⟨b0, o0 + q, none⟩ ∧ b0 ≠ Bs))
    (fun _ wr => lnM Bs wr)
  case atStart =>
    refine ⟨0, [], A, c, by omega, Lib.hid rfl, h0, Lib.hid hBs, hA, Lib.hid fun hp => ⟨rfl, ?_⟩⟩
    obtain ⟨b0, o0, rfl, _⟩ := hA (by have := HN.out; simp; omega)
    exact ⟨b0, o0, rfl, rfl, rb_box hBs hA (by have := HN.out; omega) b0 o0 rfl⟩
  case round =>
    obtain ⟨q, ys, X, Y, hq, HQ, hJs, HB, hR, HX⟩ := hrel
    clear hBs hA h0
    have hc0 := HB.out.cell
    have hfz := HB.out.frozen
    have hMs := lnM_of hc0
    by_cases hlt : q < n
    · obtain ⟨rfl, b0, o0, rfl, rfl, hne⟩ := HX.out hlt
      have hR1 : Rb wr (some ⟨b0, o0 + q, none⟩) (b.drop q) := hR.drop q
      have hib := ibL_any b0 (o0 + q) (b.drop q) (n - q) (c - q) 10 _ (by rw [List.length_drop, HN.out]) hR1
      obtain ⟨m, hm⟩ : ∃ m, n - q = m + 1 := ⟨n - q - 1, by omega⟩
      rw [hm] at hib hc0 hMs
      rw [hm] at HB
      rcases idxL_cases (b.drop q) 10 with ⟨hi, hno⟩ | ⟨k, hi, h10, hno⟩
      · have HLN : Hid (LnOk b (lnEnd ys) (q, n)) := Lib.hid (by
          have h := ln_last (b := b) (q := q) (by rw [HN.out]; exact hlt) hno
          rw [HQ.out, ← HN.out]
          exact h)
        rw [hi] at hib
        clear hno hi hR1
        have hcap := sl_cap (P := Tryz.prog) Tryz.underlying22 Tryz.sizeOf5 b0 (o0 + q) (m + 1) (c - q) m (by omega)
        have hyy := hY ys (q, n) (wr.setCell ⟨Bs, 0, none⟩ (.slice none 0 0)) (hJ _ _ _ hJs (grownBy_setCell' _ _ _)) HLN.out
        have hlv : lnV (some ⟨b0, o0, none⟩) (q, n) = .slice (some ⟨b0, o0 + q, none⟩) (m + 1) (m + 1) := by simp [lnV, hm]
        rw [hlv] at hyy
        obtain ⟨fn, tmps, assign, body, hy, hRn⟩ := hyy
        gi_wp2
        refine ⟨trivial, fun h => by simp [Fence.wide] at h, ?_⟩
        refine (callsIn_wide.2 hib).mono ?_
        rintro e w' ⟨rfl, rfl⟩
        gi_wp2
        refine ⟨fun h => by simp [Fence.wide] at h, ?_⟩
        refine hRn.mono ?_
        rintro e W3 (⟨rfl, hJ3, hk3⟩ | ⟨rfl, hJx3⟩)
        · have HB3 : Boxed W3 Bs 22 (.slice none 0 0) := hk3.1.trans (HB.out.set _)
          have hR3 : Rb W3 (some ⟨b0, o0, none⟩) b := hk3.2 (hR.setFar (fun e => hne e.symm) _)
          have hM3 := lnM_of HB3.cell
          clear hJ hY hib hcap hR hJs HB hc0 hfz
          gi_wp2
          go_roundw
          case rel => exact ⟨n, ys ++ [(q, n)], none, 0, Nat.le_refl _, Lib.hid (by simp), hJ3, Lib.hid (by rw [Nat.sub_self]; exact HB3), hR3, Lib.hid (fun h => absurd h (Nat.lt_irrefl _))⟩
          case measure => rw [hM3, hMs]; omega
        · gi_wp2
          refine bodyPost_ret (results_none rfl _ _ _) rfl ?_
          exact ⟨⟨_, rfl⟩, .inr ⟨_, trivial, hJx3⟩⟩
      · have hkl := lt_of_get h10
        rw [List.length_drop, HN.out] at hkl
        rw [List.getElem?_drop] at h10
        have HLN : Hid (LnOk b (lnEnd ys) (q, q + k + 1)) := Lib.hid (by
          rw [HQ.out]
          exact ln_hit h10 hno)
        rw [hi] at hib
        clear hno hi hR1 h10
        have hcap := sl_cap (P := Tryz.prog) Tryz.underlying22 Tryz.sizeOf5 b0 (o0 + q) (k + 1) (c - q) k (by omega)
        have hto := sl_to (P := Tryz.prog) Tryz.underlying22 Tryz.sizeOf5 b0 (o0 + q) (m + 1) (c - q) k (by omega)
        have hfrom := sl_from (P := Tryz.prog) Tryz.underlying22 Tryz.sizeOf5 b0 (o0 + q) (m + 1) (c - q) k (by omega)
        obtain ⟨X2, hX2⟩ : ∃ X2, (some (⟨b0, if c - q = k + 1 then o0 + q else o0 + q + (k + 1), none⟩ : Addr)) = X2 := ⟨_, rfl⟩
        obtain ⟨m2, hm2⟩ : ∃ m2, m + 1 - (k + 1) = m2 := ⟨_, rfl⟩
        obtain ⟨c2, hc2⟩ : ∃ c2, c - q - (k + 1) = c2 := ⟨_, rfl⟩
        rw [hX2, hm2, hc2] at hfrom
        have hyy := hY ys (q, q + k + 1) ((wr.setCell ⟨Bs, 0, none⟩ (.slice X2 m2 c2)).drew) (hJ _ _ _ hJs (by have h := grownBy_setCell' wr Bs (.slice X2 m2 c2); exact ⟨h.os, h.tape, h.output, h.size, h.block⟩)) HLN.out
        have hlv : lnV (some ⟨b0, o0, none⟩) (q, q + k + 1) = .slice (some ⟨b0, o0 + q, none⟩) (k + 1) (k + 1) := by
          have : q + k + 1 - q = k + 1 := by omega
          simp [lnV, this]
        rw [hlv] at hyy
        obtain ⟨fn, tmps, assign, body, hy, hRn⟩ := hyy
        gi_wp2
        refine ⟨trivial, fun h => by simp [Fence.wide] at h, ?_⟩
        refine (callsIn_wide.2 hib).mono ?_
        rintro e w' ⟨rfl, rfl⟩
        have hc1 : wr.drew.cell? ⟨Bs, 0, none⟩ = some (.slice (some ⟨b0, o0 + q, none⟩) (m + 1) (c - q)) := hc0
        have hfz1 : wr.drew.frozen? ⟨Bs, 0, none⟩ = false := hfz
        have HBd : Boxed wr.drew Bs 22 (.slice (some ⟨b0, o0 + q, none⟩) (m + 1) (c - q)) := HB.out
        have hRd : Rb wr.drew (some ⟨b0, o0, none⟩) b := hR
        gi_wp2
        gi_region
        gi_wp2
        gi_wp2
        refine ⟨fun h => by simp [Fence.wide] at h, ?_⟩
        refine hRn.mono ?_
        rintro e W3 (⟨rfl, hJ3, hk3⟩ | ⟨rfl, hJx3⟩)
        · have HB3 : Boxed W3 Bs 22 (.slice X2 m2 c2) := hk3.1.trans (HBd.set _)
          have hR3 : Rb W3 (some ⟨b0, o0, none⟩) b := hk3.2 (hRd.setFar (fun e => hne e.symm) _)
          rw [← hX2, ← hm2, ← hc2] at HB3
          have hM3 := lnM_of HB3.cell
          clear hJ hY hib hcap hR hJs HB hc0 hfz hto hfrom hc1 hfz1 HBd hRd
          gi_wp2
          go_roundw
          case rel =>
            refine ⟨q + k + 1, ys ++ [(q, q + k + 1)], some ⟨b0, if c - q = k + 1 then o0 + q else o0 + q + (k + 1), none⟩, c - q - (k + 1), by omega, Lib.hid (by simp), hJ3, Lib.hid ?_, hR3, Lib.hid fun h => ⟨by omega, b0, o0, rfl, ?_, hne⟩⟩
            · have e1 : n - (q + k + 1) = m + 1 - (k + 1) := by omega
              rw [e1]
              exact HB3
            · rw [if_neg (by omega), Nat.add_assoc q k 1, ← Nat.add_assoc o0 q (k + 1)]
          case measure => rw [hM3, hMs]; omega
        · gi_wp2
          refine bodyPost_ret (results_none rfl _ _ _) rfl ?_
          exact ⟨⟨_, rfl⟩, .inr ⟨_, trivial, hJx3⟩⟩
    · obtain rfl : q = n := by omega
      rw [Nat.sub_self] at hc0
      gi_wp2
      go_end0
      exact ⟨⟨_, rfl⟩, .inl ⟨ys, by rw [HQ.out, HN.out], hJs⟩⟩
end Go.Proofs.YtcagkoakbdbbaaaGreatDoor

namespace Go.Proofs.YtcagkoakbdbbaaaGreatDoor
set_option linter.unusedVariables false
set_option linter.unusedSimpArgs false
open Go.RowKit

/-- the block g is the call's own row of these cells -/
def Row (w : World) (g : Nat) (e : TypeId) (cs : List Value) : Prop := w.heap[g]? = some (.cells cs.toArray e (0, 0))
section
variable {w w' : World} {g : Nat} {e : TypeId} {cs : List Value}
theorem Row.lt (h : Row w g e cs) : g < w.heap.size := (Array.getElem?_eq_some_iff.1 h).1
theorem Row.cell (h : Row w g e cs) {j : Nat} {v : Value} (hv : cs[j]? = some v) : w.cell? ⟨g, j, none⟩ = some v := by
  simp only [World.cell?, show w.heap[g]? = _ from h]
  simpa using hv
theorem Row.frozen (h : Row w g e cs) (j : Nat) : w.frozen? ⟨g, j, none⟩ = false := frozen_of_row w g j _ e h
theorem Row.block (h : Row w g e cs) (hb : w'.heap[g]? = w.heap[g]?) : Row w' g e cs := hb.trans h
theorem Row.below (h : Row w g e cs) (hb : Below w.heap.size w w') : Row w' g e cs := h.block (hb.block _ h.lt)
theorem Row.new (w : World) (X : Array Value) (e : TypeId) : Row (w.alloc (.cells X e)) w.heap.size e X.toList := by
  unfold Row
  simpa using World.alloc_heap_new w (.cells X e)
theorem Row.alloc (h : Row w g e cs) (o : Obj) : Row (w.alloc o) g e cs := h.block (Below.heap_alloc w o g h.lt)
theorem Row.set (h : Row w g e cs) (j : Nat) (v : Value) : Row (w.setCell ⟨g, j, none⟩ v) g e (cs.set j v) := by
  obtain ⟨hlt, hk⟩ := Array.getElem?_eq_some_iff.1 h
  show (w.heap.modify g _)[g]? = _
  rw [Array.getElem?_eq_getElem (by rw [Array.size_modify]; exact hlt), Array.getElem_modify_self, hk]
  simp [Array.setIfInBounds_def]
  exact fun h => (List.set_eq_of_length_le h).symm
theorem Row.far (h : Row w g e cs) {a : Addr} (ha : a.block ≠ g) (v : Value) : Row (w.setCell a v) g e cs := h.block (Below.heap_setCell w a v g (fun e => ha e.symm))
/-- a slice of integers that came in -/
theorem Ri_row {k : IntKind} {w : World} {a : Option Addr} {len cap : Nat} {zs : List Int} (h : (a = none ∧ len = 0 ∧ cap = 0 ∧ zs = []) ∨
    ∃ x, a = some x ∧ len ≤ cap ∧ cap ≤ maxLen ∧ zs.length = cap ∧ (∀ i, i < zs.length → w.cell? (x.add i) = some (.int k (zs.getD i 0))) ∧ ∀ n ∈ zs, (Lit.int k n).wf = true) :
    ∃ l : List Int, l.length = len ∧ len ≤ cap ∧ cap ≤ maxLen ∧ Rv w a (l.map (Value.int k)) ∧ ∀ n ∈ l, (Lit.int k n).wf = true := by
  rcases h with ⟨rfl, rfl, rfl, rfl⟩ | ⟨x, rfl, h1, h2, h3, hc, hw⟩
  · exact ⟨[], rfl, Nat.le_refl _, by unfold maxLen; omega, Rv.nil _ _, by simp⟩
  · refine ⟨zs.take len, by simp; omega, h1, h2, fun hp => ?_, fun n hn => hw n (List.mem_of_mem_take hn)⟩
    have hp' : 0 < zs.length := by simp at hp; omega
    have h0 := hc 0 hp'
    have hx0 : x.add 0 = x := by unfold Addr.add; simp
    rw [hx0] at h0
    have hs := Addr_spot h0
    obtain ⟨b, o, s⟩ := x
    simp only at hs
    subst hs
    refine ⟨b, o, rfl, fun j v hj => ?_⟩
    have hjl := lt_of_get hj
    simp only [List.length_map, List.length_take] at hjl
    have hplain : (⟨b, o, none⟩ : Addr).add j = ⟨b, o + j, none⟩ := by unfold Addr.add; split <;> simp_all
    have hcj := hc j (by omega)
    rw [hplain] at hcj
    rw [hcj, ← hj]
    simp [List.getElem?_take, show j < len by omega, List.getElem?_eq_getElem (show j < zs.length by omega), List.getD]
theorem set_at {α : Type} (ds rs : List α) (x v : α) : (ds ++ x :: rs).set ds.length v = (ds ++ [v]) ++ rs := by
  rw [List.set_append_right _ _ (Nat.le_refl _)]
  simp
theorem set_step {α β : Type} (f : α → β) {sp : List α} {k : Nat} {p : α} {X : List β} (hp : sp[k]? = some p) (hX : X.length = sp.length) :
    ((sp.take k).map f ++ X.drop k).set k (f p) = (sp.take (k + 1)).map f ++ X.drop (k + 1) := by
  have hk := lt_of_get hp
  rw [take_succ_of hp, List.map_append, List.drop_eq_getElem_cons (by omega : k < X.length)]
  have hl : ((sp.take k).map f).length = k := by simp; omega
  have := set_at ((sp.take k).map f) (X.drop (k + 1)) X[k] (f p)
  rw [hl] at this
  exact this
end
end Go.Proofs.YtcagkoakbdbbaaaGreatDoor
