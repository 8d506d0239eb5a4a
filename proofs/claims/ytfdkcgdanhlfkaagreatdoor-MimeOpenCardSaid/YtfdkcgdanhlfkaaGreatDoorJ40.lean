/- The library's slices.Chunk over bytes: what its iterator hands to each round. -/
import Derived.RangeFuncLeaves
import Derived.RangeFuncNested
import Derived.Shelf.Abstract
import Derived.OwnWalkIn
import Derived.TacticsInMore
import Derived.LoopNIn
import Derived.LoopIn
import Derived.Sort.BigQuietIn
import Derived.Test.YtfdkcgdanhlfkaaGreatDoorChecked
import Derived.Test.YtfdkcgdanhlfkaaGreatDoorJ02
namespace Go.Proofs.YtfdkcgdanhlfkaaGreatDoor
namespace Ar
set_option linter.unusedVariables false
set_option linter.unusedSimpArgs false
open Go.RowKit Go.Shelf

attribute [local go_sem] Oper.semAt_some

theorem run_min_int {P : Program} (w : World) (at_ : Array TypeId) (ty : TypeId) (a b : Int) :
    (Builtin.min_ at_ ty #[.int .i64 a, .int .i64 b]).run P w = .ok (.int .i64 (if a ≤ b then a else b)) w := by
  simp [Builtin.min_, Builtin.min2]
  split <;> split <;> first | rfl | (exfalso; omega) | (congr; omega)

/-- the places of the chunks -/
abbrev Cj (k n : Nat) := { j : Nat // j * k < n }

/-- chunk j of the slice at ⟨b, o⟩ -/
def chv (b o k n j : Nat) : Value := .slice (some ⟨b, o + j * k, none⟩) (min k (n - j * k)) (min k (n - j * k))

set_option maxHeartbeats 400000 in
theorem chunk_in (f : Nat) (A : Option Addr) (n c k : Nat) (hk : 1 ≤ k) (w : World) :
    CallsIn Fence.wide f Tryz.prog 112 #[.slice A n c, .int .i64 k] w fun e w' =>
      e = .returned (.func (.func 138) #[] #[.pointer (some ⟨w.heap.size, 0, none⟩), .pointer (some ⟨w.heap.size + 1, 0, none⟩)]) ∧
      w' = (w.alloc (.cells #[.slice A n c] 22)).alloc (.cells #[.int .i64 k] 3) := by
  refine callsIn_of_wp Tryz.func112 rfl trivial ?_ rfl
  simp only [Tryz.ntmps112, List.size_toArray, List.length_cons, List.length_nil, Nat.reduceAdd, Nat.reduceSub, Array.replicate_succ, Array.replicate_zero, List.push_toArray, List.append_toArray, List.nil_append, List.cons_append]
  gi_wp2
  go_ret
  exact ⟨rfl, rfl⟩

set_option maxRecDepth 100000 in
set_option maxHeartbeats 2000000 in
theorem chunk1_in (f : Nat) (l Bs b o n c k : Nat) (A : Option Addr) (hA : 0 < n → A = some ⟨b, o, none⟩) (hk1 : 1 ≤ k) (hk2 : k ≤ 1000000) (hnc : n ≤ c) (hn : n ≤ 9000000000000000000)
    (J Jx : List (Cj k n) → World → Prop)
    (hY : ∀ pre x W, J pre W → pre.length < n → YieldAt Fence.wide (f - 1) Tryz.prog l #[chv b o k n x.1] W fun e W' =>
      (e = .returned (.bool true) ∧ J (pre ++ [x]) W' ∧ Kept Bs (Bs + 2) W W') ∨ (e = .returned (.bool false) ∧ Jx (pre ++ [x]) W'))
    (hJw : ∀ ys W q, J ys W → J ys (World.drewN W q))
    (W : World) (hBs : W.cell? ⟨Bs, 0, none⟩ = some (.slice A n c)) (hBk : W.cell? ⟨Bs + 1, 0, none⟩ = some (.int .i64 k)) (h0 : J [] W) :
    CallsIn Fence.wide f Tryz.prog 138 #[.func (.yield l) #[] #[], .pointer (some ⟨Bs, 0, none⟩), .pointer (some ⟨Bs + 1, 0, none⟩)] W fun e W' => (∃ v, e = .returned v) ∧
      ((∃ ys, (∃ m, ys.map Subtype.val = List.range m ∧ n ≤ m * k) ∧ J ys W') ∨ (∃ pre, True ∧ Jx pre W')) := by
  refine callsIn_of_wp Tryz.func138 rfl trivial ?_ rfl
  simp only [Tryz.ntmps138, List.size_toArray, List.length_cons, List.length_nil, Nat.reduceAdd, Nat.reduceSub, Array.replicate_succ, Array.replicate_zero, List.push_toArray, List.append_toArray, List.nil_append, List.cons_append]
  gi_wp2
  gi_loopw [4] (fun i wr => ∃ (m q : Nat) (ys : List (Cj k n)), i = .int .i64 q ∧ m * k = q ∧ q < n + k ∧ ys.map Subtype.val = List.range m ∧ m ≤ n ∧ J ys wr ∧ Kept Bs (Bs + 2) W wr)
    (fun i _ => n - (intOf i).toNat)
  case atStart => exact ⟨0, 0, [], rfl, by simp, by omega, rfl, by omega, h0, Kept.refl _ _ _⟩
  case round =>
    obtain ⟨m, q, ys, rfl, hmq, hq, hys, hmn, hJs, hnx⟩ := hrel
    have HQ := Lib.hid hmq
    have HY := Lib.hid hys
    clear hmq hys
    have hcS : wr.cell? ⟨Bs, 0, none⟩ = some (.slice A n c) := (hnx.cell (by omega) (by omega)).trans hBs
    have hcK : wr.cell? ⟨Bs + 1, 0, none⟩ = some (.int .i64 k) := (hnx.cell (by omega) (by omega)).trans hBk
    by_cases hlt : q < n
    · obtain rfl := hA (by omega)
      have hmlt : m < n := by
        have h1 : m ≤ m * k := Nat.le_mul_of_pos_right m hk1
        rw [HQ.out] at h1; omega
      have hyl : ys.length = m := by have := congrArg List.length HY.out; simpa using this
      by_cases hkn : k ≤ n - q
      · have hv : chv b o k n m = .slice (some ⟨b, o + q, none⟩) k k := by unfold chv; rw [HQ.out, Nat.min_eq_left hkn]
        have hmin : ∀ W at_ ty, (Builtin.min_ at_ ty #[.int .i64 (k : Int), .int .i64 ((n - q : Nat) : Int)]).run Tryz.prog W = .ok (.int .i64 (k : Int)) W := fun W at_ ty => by rw [run_min_int]; split <;> first | rfl | (exfalso; omega)
        gi_wp2
        gi_big_quiet_th (fail)
        rename_i nq
        have hyy := hY ys ⟨m, by rw [HQ.out]; exact hlt⟩ _ (hJw ys wr nq hJs) (by rw [hyl]; exact hmlt)
        simp only at hyy
        rw [hv] at hyy
        obtain ⟨fn, tmps, assign, body, hy, hR⟩ := hyy
        gi_wp2
        refine ⟨fun h => by simp [Fence.wide] at h, ?_⟩
        refine hR.mono ?_
        rintro e W3 (⟨rfl, hJ3, hk3⟩ | ⟨rfl, hJx3⟩)
        · have hcK3 : W3.cell? ⟨Bs + 1, 0, none⟩ = some (.int .i64 k) := (hk3.cell (by omega) (by omega)).trans hcK
          gi_wp2
          go_roundw
          case rel => exact ⟨m + 1, q + k, ys ++ [⟨m, by rw [HQ.out]; exact hlt⟩], by go_num, by rw [Nat.add_mul, HQ.out]; omega, by omega, by rw [List.map_append, HY.out, List.range_succ]; rfl, by omega, hJ3, hnx.trans hk3⟩
          case measure => simp [intOf]; omega
        · gi_wp2
          refine bodyPost_ret (results_none rfl _ _ _) rfl ?_
          exact ⟨⟨_, rfl⟩, .inr ⟨_, trivial, hJx3⟩⟩
      · have hv : chv b o k n m = .slice (some ⟨b, o + q, none⟩) (n - q) (n - q) := by unfold chv; rw [HQ.out, Nat.min_eq_right (by omega)]
        have hmin : ∀ W at_ ty, (Builtin.min_ at_ ty #[.int .i64 (k : Int), .int .i64 ((n - q : Nat) : Int)]).run Tryz.prog W = .ok (.int .i64 ((n - q : Nat) : Int)) W := fun W at_ ty => by rw [run_min_int]; split <;> first | rfl | (exfalso; omega)
        gi_wp2
        gi_big_quiet_th (fail)
        rename_i nq
        have hyy := hY ys ⟨m, by rw [HQ.out]; exact hlt⟩ _ (hJw ys wr nq hJs) (by rw [hyl]; exact hmlt)
        simp only at hyy
        rw [hv] at hyy
        obtain ⟨fn, tmps, assign, body, hy, hR⟩ := hyy
        gi_wp2
        refine ⟨fun h => by simp [Fence.wide] at h, ?_⟩
        refine hR.mono ?_
        rintro e W3 (⟨rfl, hJ3, hk3⟩ | ⟨rfl, hJx3⟩)
        · have hcK3 : W3.cell? ⟨Bs + 1, 0, none⟩ = some (.int .i64 k) := (hk3.cell (by omega) (by omega)).trans hcK
          gi_wp2
          go_roundw
          case rel => exact ⟨m + 1, q + k, ys ++ [⟨m, by rw [HQ.out]; exact hlt⟩], by go_num, by rw [Nat.add_mul, HQ.out]; omega, by omega, by rw [List.map_append, HY.out, List.range_succ]; rfl, by omega, hJ3, hnx.trans hk3⟩
          case measure => simp [intOf]; omega
        · gi_wp2
          refine bodyPost_ret (results_none rfl _ _ _) rfl ?_
          exact ⟨⟨_, rfl⟩, .inr ⟨_, trivial, hJx3⟩⟩
    · gi_wp2
      go_end0
      refine ⟨⟨_, rfl⟩, .inl ⟨ys, ⟨m, HY.out, by rw [HQ.out]; omega⟩, hJs⟩⟩


theorem chunk_stops (f : Nat) (Bs b o n c k : Nat) (A : Option Addr) (hA : 0 < n → A = some ⟨b, o, none⟩) (hk1 : 1 ≤ k) (hk2 : k ≤ 1000000) (hnc : n ≤ c) (hn : n ≤ 9000000000000000000) (w : World)
    (hbs : Bs + 1 < w.heap.size) (hBs : w.cell? ⟨Bs, 0, none⟩ = some (.slice A n c)) (hBk : w.cell? ⟨Bs + 1, 0, none⟩ = some (.int .i64 k)) :
    SeqStopsK Fence.wide f Tryz.prog 138 #[.pointer (some ⟨Bs, 0, none⟩), .pointer (some ⟨Bs + 1, 0, none⟩)] (fun x : Cj k n => #[chv b o k n x.1]) (Kept Bs (Bs + 2))
      (fun ys => ∃ m, ys.map Subtype.val = List.range m ∧ n ≤ m * k) (fun _ => True) n w := fun l J Jx W hW hJa _ hY h0 =>
  chunk1_in f l Bs b o n c k A hA hk1 hk2 hnc hn J Jx hY
    (fun ys W' q h => hJa ys W' _ none h ⟨rfl, rfl, rfl, Nat.le_refl _, fun _ _ _ => rfl⟩ (fun r e => by cases e)) W ((hW.cell (p := ⟨Bs, 0, none⟩) (by simp; omega)).trans hBs) ((hW.cell (p := ⟨Bs + 1, 0, none⟩) hbs).trans hBk) h0
end Ar
end Go.Proofs.YtfdkcgdanhlfkaaGreatDoor
