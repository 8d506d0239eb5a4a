/- Apply at a kind that is none: the bytes as they are. · The library's slices.Chunk over bytes: what its iterator hands to each round. -/
import Derived.Test.YtcagkoakbdbbaaaGreatDoorJ30
import Derived.RangeFuncLeaves
import Derived.RangeFuncNested
import Derived.Shelf.Abstract
import Derived.OwnWalkIn
import Derived.TacticsInMore
import Derived.LoopNIn
import Derived.LoopIn
import Derived.Sort.BigQuietIn
import Derived.Test.YtcagkoakbdbbaaaGreatDoorChecked
import Derived.Test.YtcagkoakbdbbaaaGreatDoorJ03
namespace Go.Proofs.YtcagkoakbdbbaaaGreatDoor
set_option linter.unusedVariables false
set_option linter.unusedSimpArgs false
open Go.RowKit

theorem flat_ge {fs : List (List UInt8)} (h : ∀ f ∈ fs, f ≠ []) : fs.length ≤ fs.flatten.length := by
  induction fs with
  | nil => simp
  | cons a r ih =>
    have h2 := List.length_pos_iff.2 (h a List.mem_cons_self)
    have h3 := ih (fun f hf => h f (List.mem_cons_of_mem _ hf))
    rw [List.flatten_cons, List.length_append, List.length_cons]
    omega

set_option maxRecDepth 100000 in
set_option maxHeartbeats 600000 in
theorem apply_none (A : Option Addr) (b : List UInt8) (n c : Nat) (z N M : Int) (T : ByteArray) (w : World) (hn : b.length = n) (hA : Rb w A b) (hpl : Pl A c) (hnc : n ≤ c) (hb : n ≤ 1000000) (hN : -9223372036854775808 ≤ N ∧ N ≤ 9223372036854775807)
    (z1 : z ≠ 1) (z2 : z ≠ 2) (z3 : z ≠ 3) (z4 : z ≠ 4) (z5 : z ≠ 5) (z6 : z ≠ 6) (z7 : z ≠ 7) (z8 : z ≠ 8) :
    Calls Tryz.prog 7 #[.slice A n c, .agg #[.int .i64 z, .int .i64 N, .int .i64 M, .string T]] w fun e w' => BOut b e w' ∧ Below w.heap.size w w' := by
  have hB0 : Below w.heap.size w (w.alloc (.cells #[.int .i64 z, .int .i64 N, .int .i64 M, .string T] 26)) := (Below.refl _ _).alloc (Nat.le_refl _) _
  have r0 := Row.new w #[.int .i64 z, .int .i64 N, .int .i64 M, .string T] 26
  have hrd := read_any A b n c (w.alloc (.cells #[.int .i64 z, .int .i64 N, .int .i64 M, .string T] 26)) hn (hA.below hB0) hnc hb
  have HN := Lib.hid hn
  have q1 : (z == 1) = false := by rw [beq_eq_false_iff_ne]; exact z1
  have q2 : (z == 2) = false := by rw [beq_eq_false_iff_ne]; exact z2
  have q6 : (z == 6) = false := by rw [beq_eq_false_iff_ne]; exact z6
  have q6b : (z != 6) = true := by rw [bne, q6]; rfl
  clear hn
  go_enter Tryz.func7, Tryz.ntmps7
  go_wp2_with fail
  refine hrd.mono ?_
  rintro e w1 ⟨hro, hb1⟩
  obtain ⟨A0, n0, c0, A1, n1, c1, A2, n2, c2, wh, ok, rfl⟩ := hro.form
  have HRO := Lib.hid hro
  have hB1 := hB0.trans (hb1.mono hB0.size)
  have r1 := r0.below hb1
  have r3 := r1.alloc (.cells #[.slice A0 n0 c0, .slice A1 n1 c1, .slice A2 n2 c2] 49)
  have t3 := Row.new w1 #[.slice A0 n0 c0, .slice A1 n1 c1, .slice A2 n2 c2] 49
  have hm3 := mark_below w1 #[.slice A0 n0 c0, .slice A1 n1 c1, .slice A2 n2 c2] 49 (0, 0)
  have hB3 := hB1.trans (hm3.mono hB1.size)
  clear hro hrd
  go_upto_region 2 with fail
  obtain ⟨w3, hw3⟩ : ∃ w3, w1.alloc (.cells #[.slice A0 n0 c0, .slice A1 n1 c1, .slice A2 n2 c2] 49) = w3 := ⟨_, rfl⟩
  rw [hw3] at r3 t3 hB3 hm3 ⊢
  clear hw3 r1 r0
  have x0 := r3.cell (j := 0) rfl
  have x1 := r3.cell (j := 1) rfl
  have x2 := r3.cell (j := 2) rfl
  have x3 := r3.cell (j := 3) rfl
  have m0 := t3.cell (j := 0) rfl
  have m1 := t3.cell (j := 1) rfl
  have m2 := t3.cell (j := 2) rfl
  cases ok with
  | false =>
    have hcl := clone_any A b n c w3 HN.out (hA.below hB3) hnc hpl (by omega)
    go_wp2_with fail
    refine hcl.mono ?_
    rintro e w4 ⟨⟨v, rfl, hov⟩, hb4⟩
    obtain ⟨A5, c5, e5, g1, g2, g3, g4⟩ := BOut.own hov
    cases e5
    go_wp2_with fail
    go_ret
    exact ⟨⟨A5, c5, rfl, g1, g2, g3, g4⟩, hB3.trans (hb4.mono hB3.size)⟩
  | true =>
    have hro := HRO.out
    unfold ReadOut at hro
    cases hr : readG [] (fl b) with
    | none => rw [hr] at hro; cases hro
    | some p =>
      obtain ⟨fs, en, bd⟩ := p
      rw [hr] at hro
      obtain ⟨fv, Ae, ce, Ab, cb, he, hF, hE, hce, hD, hcb⟩ := hro
      have hrb := read_bytes hr
      obtain ⟨Af, nf, cf, hfv, hfn⟩ : ∃ Af nf cf, fv = .slice Af nf cf ∧ fs.length = nf := by
        obtain ⟨vs, ho, _⟩ := hF
        obtain ⟨Af, cf, hv, _⟩ := own_form ho
        exact ⟨Af, _, cf, hv, rfl⟩
      subst hfv
      injection he with he
      injection he with he
      simp only [Array.mk.injEq, List.cons.injEq, Value.agg.injEq, Value.slice.injEq, Value.bool.injEq, and_true, true_and] at he
      obtain ⟨⟨⟨rfl, rfl, rfl⟩, ⟨rfl, e11, rfl⟩, ⟨rfl, e21, rfl⟩⟩, rfl, hok⟩ := he
      have hfl : fs.flatten.length ≤ 1000000 ∧ en.length ≤ 1000000 ∧ bd.length ≤ 1000000 := by
        have h := congrArg List.length hrb
        rw [List.length_append, List.length_append, HN.out] at h
        omega
      have hnf0 : 0 < n0 := by
        rw [← hfn]
        cases fs with
        | nil => simp at hok
        | cons a r => simp
      have hnf1 : n0 ≤ 1000000 := by
        have h1 := flat_ge (read_ne hr).1
        omega
      have F3 := hF.below hm3
      have hs0 : (w.alloc (.cells #[.int .i64 z, .int .i64 N, .int .i64 M, .string T] 26)).heap.size + 1 ≤ w3.heap.size := by
        have h1 := hB3.size
        have h2 := r3.lt
        have h3 := hm3.size
        have h4 := t3.lt
        rw [World.size_alloc]
        have h5 : w.heap.size < w1.heap.size := by
          have := hb1.size
          rw [World.size_alloc] at this
          omega
        omega
      have hch := change_none A0 A1 A2 fs _ n0 c0 c1 c2 n1 n2 z N M T w3 F3 hs0 hnf0 hnf1 hN z3 z4 z5 z7 z8
      have hE3 := hE
      have HFL := Lib.hid hfl
      have HRB := Lib.hid hrb
      have hB3' : Below (w.alloc (.cells #[.int .i64 z, .int .i64 N, .int .i64 M, .string T] 26)).heap.size (w.alloc (.cells #[.int .i64 z, .int .i64 N, .int .i64 M, .string T] 26)) w3 := hb1.trans (hm3.mono hb1.size)
      have HE1 := Lib.hid e11
      have HE2 := Lib.hid e21
      clear hok hr hrb hfl e11 e21 hfn
      go_wp2_with fail
      refine hch.mono ?_
      rintro e w4 ⟨rfl, hb4⟩
      have hB4 := hB3.trans (hb4.mono hB3.size)
      have hB4' := hB3'.trans (hb4.mono hB3'.size)
      have hbt := bytes_any A0 A1 A2 fs en bd _ n0 c0 c1 c2 n1 n2 w4 (F3.below hb4) (hE w4 hB4') (hD w4 hB4') HE1.out.symm HE2.out.symm (Nat.le_trans hs0 hb4.size) hnf1 HFL.out.1 (by rw [HE1.out]; exact HFL.out.2.1) (by rw [HE2.out]; exact HFL.out.2.2)
      rw [HRB.out] at hbt
      go_wp2_with fail
      refine hbt.mono ?_
      rintro e w5 ⟨⟨A5, c5, rfl, g1, g2, g3, g4⟩, hb5⟩
      go_wp2_with fail
      go_ret
      exact ⟨⟨A5, c5, rfl, g1, g2, g3, g4⟩, hB4.trans (hb5.mono hB4.size)⟩
end Go.Proofs.YtcagkoakbdbbaaaGreatDoor

namespace Go.Proofs.YtcagkoakbdbbaaaGreatDoor
set_option linter.unusedVariables false
set_option linter.unusedSimpArgs false
open Go.RowKit Go.Shelf

attribute [local go_sem] Oper.semAt_some

theorem run_min_int {P : Program} (w : World) (at_ : Array TypeId) (ty : TypeId) (a b : Int) :
    (Builtin.min_ at_ ty #[.int .i64 a, .int .i64 b]).run P w = .ok (.int .i64 (if a ≤ b then a else b)) w := by
  simp [Builtin.min_, Builtin.min2]
  split <;> split <;> first | rfl | (exfalso; omega) | (congr; omega)

/-- the places of the chunks -/
abbrev Cj (k n : Nat) := { j : Nat // j * k < n }

/-- chunk j of the slice at ⟨b, o⟩ -/
def chv (b o k n j : Nat) : Value := .slice (some ⟨b, o + j * k, none⟩) (min k (n - j * k)) (min k (n - j * k))

set_option maxHeartbeats 400000 in
theorem chunk_in (f : Nat) (A : Option Addr) (n c k : Nat) (hk : 1 ≤ k) (w : World) :
    CallsIn Fence.wide f Tryz.prog 75 #[.slice A n c, .int .i64 k] w fun e w' =>
      e = .returned (.func (.func 96) #[] #[.pointer (some ⟨w.heap.size, 0, none⟩), .pointer (some ⟨w.heap.size + 1, 0, none⟩)]) ∧
      w' = (w.alloc (.cells #[.slice A n c] 22)).alloc (.cells #[.int .i64 k] 3) := by
  refine callsIn_of_wp Tryz.func75 rfl trivial ?_ rfl
  simp only [Tryz.ntmps75, List.size_toArray, List.length_cons, List.length_nil, Nat.reduceAdd, Nat.reduceSub, Array.replicate_succ, Array.replicate_zero, List.push_toArray, List.append_toArray, List.nil_append, List.cons_append]
  gi_wp2
  go_ret
  exact ⟨rfl, rfl⟩

set_option maxRecDepth 100000 in
set_option maxHeartbeats 2000000 in
theorem chunk1_in (f : Nat) (l Bs b o n c k : Nat) (A : Option Addr) (hA : 0 < n → A = some ⟨b, o, none⟩) (hk1 : 1 ≤ k) (hk2 : k ≤ 1000000) (hnc : n ≤ c) (hn : n ≤ 9000000000000000000)
    (J Jx : List (Cj k n) → World → Prop)
    (hY : ∀ pre x W, J pre W → pre.length < n → YieldAt Fence.wide (f - 1) Tryz.prog l #[chv b o k n x.1] W fun e W' =>
      (e = .returned (.bool true) ∧ J (pre ++ [x]) W' ∧ Kept Bs (Bs + 2) W W') ∨ (e = .returned (.bool false) ∧ Jx (pre ++ [x]) W'))
    (hJw : ∀ ys W q, J ys W → J ys (World.drewN W q))
    (W : World) (hBs : W.cell? ⟨Bs, 0, none⟩ = some (.slice A n c)) (hBk : W.cell? ⟨Bs + 1, 0, none⟩ = some (.int .i64 k)) (h0 : J [] W) :
    CallsIn Fence.wide f Tryz.prog 96 #[.func (.yield l) #[] #[], .pointer (some ⟨Bs, 0, none⟩), .pointer (some ⟨Bs + 1, 0, none⟩)] W fun e W' => (∃ v, e = .returned v) ∧
      ((∃ ys, (∃ m, ys.map Subtype.val = List.range m ∧ n ≤ m * k) ∧ J ys W') ∨ (∃ pre, True ∧ Jx pre W')) := by
  refine callsIn_of_wp Tryz.func96 rfl trivial ?_ rfl
  simp only [Tryz.ntmps96, List.size_toArray, List.length_cons, List.length_nil, Nat.reduceAdd, Nat.reduceSub, Array.replicate_succ, Array.replicate_zero, List.push_toArray, List.append_toArray, List.nil_append, List.cons_append]
  gi_wp2
  gi_loopw [4] (fun i wr => ∃ (m q : Nat) (ys : List (Cj k n)), i = .int .i64 q ∧ m * k = q ∧ q < n + k ∧ ys.map Subtype.val = List.range m ∧ m ≤ n ∧ J ys wr ∧ Kept Bs (Bs + 2) W wr)
    (fun i _ => n - (intOf i).toNat)
  case atStart => exact ⟨0, 0, [], rfl, by simp, by omega, rfl, by omega, h0, Kept.refl _ _ _⟩
  case round =>
    obtain ⟨m, q, ys, rfl, hmq, hq, hys, hmn, hJs, hnx⟩ := hrel
    have HQ := Lib.hid hmq
    have HY := Lib.hid hys
    clear hmq hys
    have hcS : wr.cell? ⟨Bs, 0, none⟩ = some (.slice A n c) := (hnx.cell (by omega) (by omega)).trans hBs
    have hcK : wr.cell? ⟨Bs + 1, 0, none⟩ = some (.int .i64 k) := (hnx.cell (by omega) (by omega)).trans hBk
    by_cases hlt : q < n
    · obtain rfl := hA (by omega)
      have hmlt : m < n := by
        have h1 : m ≤ m * k := Nat.le_mul_of_pos_right m hk1
        rw [HQ.out] at h1; omega
      have hyl : ys.length = m := by have := congrArg List.length HY.out; simpa using this
      by_cases hkn : k ≤ n - q
      · have hv : chv b o k n m = .slice (some ⟨b, o + q, none⟩) k k := by unfold chv; rw [HQ.out, Nat.min_eq_left hkn]
        have hmin : ∀ W at_ ty, (Builtin.min_ at_ ty #[.int .i64 (k : Int), .int .i64 ((n - q : Nat) : Int)]).run Tryz.prog W = .ok (.int .i64 (k : Int)) W := fun W at_ ty => by rw [run_min_int]; split <;> first | rfl | (exfalso; omega)
        gi_wp2
        gi_big_quiet_th (fail)
        rename_i nq
        have hyy := hY ys ⟨m, by rw [HQ.out]; exact hlt⟩ _ (hJw ys wr nq hJs) (by rw [hyl]; exact hmlt)
        simp only at hyy
        rw [hv] at hyy
        obtain ⟨fn, tmps, assign, body, hy, hR⟩ := hyy
        gi_wp2
        refine ⟨fun h => by simp [Fence.wide] at h, ?_⟩
        refine hR.mono ?_
        rintro e W3 (⟨rfl, hJ3, hk3⟩ | ⟨rfl, hJx3⟩)
        · have hcK3 : W3.cell? ⟨Bs + 1, 0, none⟩ = some (.int .i64 k) := (hk3.cell (by omega) (by omega)).trans hcK
          gi_wp2
          go_roundw
          case rel => exact ⟨m + 1, q + k, ys ++ [⟨m, by rw [HQ.out]; exact hlt⟩], by go_num, by rw [Nat.add_mul, HQ.out]; omega, by omega, by rw [List.map_append, HY.out, List.range_succ]; rfl, by omega, hJ3, hnx.trans hk3⟩
          case measure => simp [intOf]; omega
        · gi_wp2
          refine bodyPost_ret (results_none rfl _ _ _) rfl ?_
          exact ⟨⟨_, rfl⟩, .inr ⟨_, trivial, hJx3⟩⟩
      · have hv : chv b o k n m = .slice (some ⟨b, o + q, none⟩) (n - q) (n - q) := by unfold chv; rw [HQ.out, Nat.min_eq_right (by omega)]
        have hmin : ∀ W at_ ty, (Builtin.min_ at_ ty #[.int .i64 (k : Int), .int .i64 ((n - q : Nat) : Int)]).run Tryz.prog W = .ok (.int .i64 ((n - q : Nat) : Int)) W := fun W at_ ty => by rw [run_min_int]; split <;> first | rfl | (exfalso; omega)
        gi_wp2
        gi_big_quiet_th (fail)
        rename_i nq
        have hyy := hY ys ⟨m, by rw [HQ.out]; exact hlt⟩ _ (hJw ys wr nq hJs) (by rw [hyl]; exact hmlt)
        simp only at hyy
        rw [hv] at hyy
        obtain ⟨fn, tmps, assign, body, hy, hR⟩ := hyy
        gi_wp2
        refine ⟨fun h => by simp [Fence.wide] at h, ?_⟩
        refine hR.mono ?_
        rintro e W3 (⟨rfl, hJ3, hk3⟩ | ⟨rfl, hJx3⟩)
        · have hcK3 : W3.cell? ⟨Bs + 1, 0, none⟩ = some (.int .i64 k) := (hk3.cell (by omega) (by omega)).trans hcK
          gi_wp2
          go_roundw
          case rel => exact ⟨m + 1, q + k, ys ++ [⟨m, by rw [HQ.out]; exact hlt⟩], by go_num, by rw [Nat.add_mul, HQ.out]; omega, by omega, by rw [List.map_append, HY.out, List.range_succ]; rfl, by omega, hJ3, hnx.trans hk3⟩
          case measure => simp [intOf]; omega
        · gi_wp2
          refine bodyPost_ret (results_none rfl _ _ _) rfl ?_
          exact ⟨⟨_, rfl⟩, .inr ⟨_, trivial, hJx3⟩⟩
    · gi_wp2
      go_end0
      refine ⟨⟨_, rfl⟩, .inl ⟨ys, ⟨m, HY.out, by rw [HQ.out]; omega⟩, hJs⟩⟩


theorem chunk_stops (f : Nat) (Bs b o n c k : Nat) (A : Option Addr) (hA : 0 < n → A = some ⟨b, o, none⟩) (hk1 : 1 ≤ k) (hk2 : k ≤ 1000000) (hnc : n ≤ c) (hn : n ≤ 9000000000000000000) (w : World)
    (hbs : Bs + 1 < w.heap.size) (hBs : w.cell? ⟨Bs, 0, none⟩ = some (.slice A n c)) (hBk : w.cell? ⟨Bs + 1, 0, none⟩ = some (.int .i64 k)) :
    SeqStopsK Fence.wide f Tryz.prog 96 #[.pointer (some ⟨Bs, 0, none⟩), .pointer (some ⟨Bs + 1, 0, none⟩)] (fun x : Cj k n => #[chv b o k n x.1]) (Kept Bs (Bs + 2))
      (fun ys => ∃ m, ys.map Subtype.val = List.range m ∧ n ≤ m * k) (fun _ => True) n w := fun l J Jx W hW hJa _ hY h0 =>
  chunk1_in f l Bs b o n c k A hA hk1 hk2 hnc hn J Jx hY
    (fun ys W' q h => hJa ys W' _ none h ⟨rfl, rfl, rfl, Nat.le_refl _, fun _ _ _ => rfl⟩ (fun r e => by cases e)) W ((hW.cell (p := ⟨Bs, 0, none⟩) (by simp; omega)).trans hBs) ((hW.cell (p := ⟨Bs + 1, 0, none⟩) hbs).trans hBk) h0
end Go.Proofs.YtcagkoakbdbbaaaGreatDoor
