/- The library's slices.Chunk over bytes: what its iterator hands to each round. · Plain: a mail whose fields are right is read as these fields; and what is read so is right. -/
import Derived.RangeFuncLeaves
import Derived.RangeFuncNested
import Derived.Shelf.Abstract
import Derived.OwnWalkIn
import Derived.TacticsInMore
import Derived.LoopNIn
import Derived.LoopIn
import Derived.Sort.BigQuietIn
import Derived.Test.YtcagkoakbdbbaaaGreatDoorChecked
import Derived.Test.YtcagkoakbdbbaaaGreatDoorJ03
import Derived.Test.YtcagkoakbdbbaaaGreatDoorJ16
namespace Go.Proofs.YtcagkoakbdbbaaaGreatDoor
set_option linter.unusedVariables false
set_option linter.unusedSimpArgs false
open Go.RowKit Go.Shelf

attribute [local go_sem] Oper.semAt_some

theorem run_min_int {P : Program} (w : World) (at_ : Array TypeId) (ty : TypeId) (a b : Int) :
    (Builtin.min_ at_ ty #[.int .i64 a, .int .i64 b]).run P w = .ok (.int .i64 (if a ≤ b then a else b)) w := by
  simp [Builtin.min_, Builtin.min2]
  split <;> split <;> first | rfl | (exfalso; omega) | (congr; omega)

/-- the places of the chunks -/
abbrev Cj (k n : Nat) := { j : Nat // j * k < n }

/-- chunk j of the slice at ⟨b, o⟩ -/
def chv (b o k n j : Nat) : Value := .slice (some ⟨b, o + j * k, none⟩) (min k (n - j * k)) (min k (n - j * k))

set_option maxHeartbeats 400000 in
theorem chunk_in (f : Nat) (A : Option Addr) (n c k : Nat) (hk : 1 ≤ k) (w : World) :
    CallsIn Fence.wide f Tryz.prog 75 #[.slice A n c, .int .i64 k] w fun e w' =>
      e = .returned (.func (.func 96) #[] #[.pointer (some ⟨w.heap.size, 0, none⟩), .pointer (some ⟨w.heap.size + 1, 0, none⟩)]) ∧
      w' = (w.alloc (.cells #[.slice A n c] 22)).alloc (.cells #[.int .i64 k] 3) := by
  refine callsIn_of_wp Tryz.func75 rfl trivial ?_ rfl
  simp only [Tryz.ntmps75, List.size_toArray, List.length_cons, List.length_nil, Nat.reduceAdd, Nat.reduceSub, Array.replicate_succ, Array.replicate_zero, List.push_toArray, List.append_toArray, List.nil_append, List.cons_append]
  gi_wp2
  go_ret
  exact ⟨rfl, rfl⟩

set_option maxRecDepth 100000 in
set_option maxHeartbeats 2000000 in
theorem chunk1_in (f : Nat) (l Bs b o n c k : Nat) (A : Option Addr) (hA : 0 < n → A = some ⟨b, o, none⟩) (hk1 : 1 ≤ k) (hk2 : k ≤ 1000000) (hnc : n ≤ c) (hn : n ≤ 9000000000000000000)
    (J Jx : List (Cj k n) → World → Prop)
    (hY : ∀ pre x W, J pre W → pre.length < n → YieldAt Fence.wide (f - 1) Tryz.prog l #[chv b o k n x.1] W fun e W' =>
      (e = .returned (.bool true) ∧ J (pre ++ [x]) W' ∧ Kept Bs (Bs + 2) W W') ∨ (e = .returned (.bool false) ∧ Jx (pre ++ [x]) W'))
    (hJw : ∀ ys W q, J ys W → J ys (World.drewN W q))
    (W : World) (hBs : W.cell? ⟨Bs, 0, none⟩ = some (.slice A n c)) (hBk : W.cell? ⟨Bs + 1, 0, none⟩ = some (.int .i64 k)) (h0 : J [] W) :
    CallsIn Fence.wide f Tryz.prog 96 #[.func (.yield l) #[] #[], .pointer (some ⟨Bs, 0, none⟩), .pointer (some ⟨Bs + 1, 0, none⟩)] W fun e W' => (∃ v, e = .returned v) ∧
      ((∃ ys, (∃ m, ys.map Subtype.val = List.range m ∧ n ≤ m * k) ∧ J ys W') ∨ (∃ pre, True ∧ Jx pre W')) := by
  refine callsIn_of_wp Tryz.func96 rfl trivial ?_ rfl
  simp only [Tryz.ntmps96, List.size_toArray, List.length_cons, List.length_nil, Nat.reduceAdd, Nat.reduceSub, Array.replicate_succ, Array.replicate_zero, List.push_toArray, List.append_toArray, List.nil_append, List.cons_append]
  gi_wp2
  gi_loopw [4] (fun i wr => ∃ (m q : Nat) (ys : List (Cj k n)), i = .int .i64 q ∧ m * k = q ∧ q < n + k ∧ ys.map Subtype.val = List.range m ∧ m ≤ n ∧ J ys wr ∧ Kept Bs (Bs + 2) W wr)
    (fun i _ => n - (intOf i).toNat)
  case atStart => exact ⟨0, 0, [], rfl, by simp, by omega, rfl, by omega, h0, Kept.refl _ _ _⟩
  case round =>
    obtain ⟨m, q, ys, rfl, hmq, hq, hys, hmn, hJs, hnx⟩ := hrel
    have HQ := Lib.hid hmq
    have HY := Lib.hid hys
    clear hmq hys
    have hcS : wr.cell? ⟨Bs, 0, none⟩ = some (.slice A n c) := (hnx.cell (by omega) (by omega)).trans hBs
    have hcK : wr.cell? ⟨Bs + 1, 0, none⟩ = some (.int .i64 k) := (hnx.cell (by omega) (by omega)).trans hBk
    by_cases hlt : q < n
    · obtain rfl := hA (by omega)
      have hmlt : m < n := by
        have h1 : m ≤ m * k := Nat.le_mul_of_pos_right m hk1
        rw [HQ.out] at h1; omega
      have hyl : ys.length = m := by have := congrArg List.length HY.out; simpa using this
      by_cases hkn : k ≤ n - q
      · have hv : chv b o k n m = .slice (some ⟨b, o + q, none⟩) k k := by unfold chv; rw [HQ.out, Nat.min_eq_left hkn]
        have hmin : ∀ W at_ ty, (Builtin.min_ at_ ty #[.int .i64 (k : Int), .int .i64 ((n - q : Nat) : Int)]).run Tryz.prog W = .ok (.int .i64 (k : Int)) W := fun W at_ ty => by rw [run_min_int]; split <;> first | rfl | (exfalso; omega)
        gi_wp2
        gi_big_quiet_th (fail)
        rename_i nq
        have hyy := hY ys ⟨m, by rw [HQ.out]; exact hlt⟩ _ (hJw ys wr nq hJs) (by rw [hyl]; exact hmlt)
        simp only at hyy
        rw [hv] at hyy
        obtain ⟨fn, tmps, assign, body, hy, hR⟩ := hyy
        gi_wp2
        refine ⟨fun h => by simp [Fence.wide] at h, ?_⟩
        refine hR.mono ?_
        rintro e W3 (⟨rfl, hJ3, hk3⟩ | ⟨rfl, hJx3⟩)
        · have hcK3 : W3.cell? ⟨Bs + 1, 0, none⟩ = some (.int .i64 k) := (hk3.cell (by omega) (by omega)).trans hcK
          gi_wp2
          go_roundw
          case rel => exact ⟨m + 1, q + k, ys ++ [⟨m, by rw [HQ.out]; exact hlt⟩], by go_num, by rw [Nat.add_mul, HQ.out]; omega, by omega, by rw [List.map_append, HY.out, List.range_succ]; rfl, by omega, hJ3, hnx.trans hk3⟩
          case measure => simp [intOf]; omega
        · gi_wp2
          refine bodyPost_ret (results_none rfl _ _ _) rfl ?_
          exact ⟨⟨_, rfl⟩, .inr ⟨_, trivial, hJx3⟩⟩
      · have hv : chv b o k n m = .slice (some ⟨b, o + q, none⟩) (n - q) (n - q) := by unfold chv; rw [HQ.out, Nat.min_eq_right (by omega)]
        have hmin : ∀ W at_ ty, (Builtin.min_ at_ ty #[.int .i64 (k : Int), .int .i64 ((n - q : Nat) : Int)]).run Tryz.prog W = .ok (.int .i64 ((n - q : Nat) : Int)) W := fun W at_ ty => by rw [run_min_int]; split <;> first | rfl | (exfalso; omega)
        gi_wp2
        gi_big_quiet_th (fail)
        rename_i nq
        have hyy := hY ys ⟨m, by rw [HQ.out]; exact hlt⟩ _ (hJw ys wr nq hJs) (by rw [hyl]; exact hmlt)
        simp only at hyy
        rw [hv] at hyy
        obtain ⟨fn, tmps, assign, body, hy, hR⟩ := hyy
        gi_wp2
        refine ⟨fun h => by simp [Fence.wide] at h, ?_⟩
        refine hR.mono ?_
        rintro e W3 (⟨rfl, hJ3, hk3⟩ | ⟨rfl, hJx3⟩)
        · have hcK3 : W3.cell? ⟨Bs + 1, 0, none⟩ = some (.int .i64 k) := (hk3.cell (by omega) (by omega)).trans hcK
          gi_wp2
          go_roundw
          case rel => exact ⟨m + 1, q + k, ys ++ [⟨m, by rw [HQ.out]; exact hlt⟩], by go_num, by rw [Nat.add_mul, HQ.out]; omega, by omega, by rw [List.map_append, HY.out, List.range_succ]; rfl, by omega, hJ3, hnx.trans hk3⟩
          case measure => simp [intOf]; omega
        · gi_wp2
          refine bodyPost_ret (results_none rfl _ _ _) rfl ?_
          exact ⟨⟨_, rfl⟩, .inr ⟨_, trivial, hJx3⟩⟩
    · gi_wp2
      go_end0
      refine ⟨⟨_, rfl⟩, .inl ⟨ys, ⟨m, HY.out, by rw [HQ.out]; omega⟩, hJs⟩⟩


theorem chunk_stops (f : Nat) (Bs b o n c k : Nat) (A : Option Addr) (hA : 0 < n → A = some ⟨b, o, none⟩) (hk1 : 1 ≤ k) (hk2 : k ≤ 1000000) (hnc : n ≤ c) (hn : n ≤ 9000000000000000000) (w : World)
    (hbs : Bs + 1 < w.heap.size) (hBs : w.cell? ⟨Bs, 0, none⟩ = some (.slice A n c)) (hBk : w.cell? ⟨Bs + 1, 0, none⟩ = some (.int .i64 k)) :
    SeqStopsK Fence.wide f Tryz.prog 96 #[.pointer (some ⟨Bs, 0, none⟩), .pointer (some ⟨Bs + 1, 0, none⟩)] (fun x : Cj k n => #[chv b o k n x.1]) (Kept Bs (Bs + 2))
      (fun ys => ∃ m, ys.map Subtype.val = List.range m ∧ n ≤ m * k) (fun _ => True) n w := fun l J Jx W hW hJa _ hY h0 =>
  chunk1_in f l Bs b o n c k A hA hk1 hk2 hnc hn J Jx hY
    (fun ys W' q h => hJa ys W' _ none h ⟨rfl, rfl, rfl, Nat.le_refl _, fun _ _ _ => rfl⟩ (fun r e => by cases e)) W ((hW.cell (p := ⟨Bs, 0, none⟩) (by simp; omega)).trans hBs) ((hW.cell (p := ⟨Bs + 1, 0, none⟩) hbs).trans hBk) h0
end Go.Proofs.YtcagkoakbdbbaaaGreatDoor

namespace Go.Proofs.YtcagkoakbdbbaaaGreatDoor
set_option linter.unusedVariables false
set_option linter.unusedSimpArgs false
open Go.RowKit

/-- a line that ends with LF, and has a text -/
def LnR (l : List UInt8) : Prop := (∃ t : List UInt8, l = t ++ [10] ∧ ∀ x ∈ t, x ≠ 10) ∧ textL l ≠ []
/-- a field, but for its first sign -/
def GF0 (f : List UInt8) : Prop := ∃ l ls, fl f = l :: ls ∧ (∀ x ∈ ls, blank1 x = true) ∧ ∀ x ∈ l :: ls, LnR x
/-- a field -/
def GF (f : List UInt8) : Prop := GF0 f ∧ blank1 f = false
/-- all lines, but the last one, end with LF -/
def Lns : List (List UInt8) → Prop
  | [] => True
  | l :: r => (r ≠ [] → ∃ t : List UInt8, l = t ++ [10] ∧ ∀ x ∈ t, x ≠ 10) ∧ Lns r
theorem fl_lns (b : List UInt8) : Lns (fl b) := by
  induction b with
  | nil => trivial
  | cons c r ih =>
    unfold fl
    split
    · next h => exact ⟨fun _ => ⟨[], by rw [h]; rfl, fun x hx => by simp at hx⟩, ih⟩
    · next h =>
      split
      · exact ⟨fun h => absurd rfl h, trivial⟩
      · next a t hf =>
        rw [hf] at ih
        refine ⟨fun h2 => ?_, ih.2⟩
        obtain ⟨u, rfl, hu⟩ := ih.1 h2
        exact ⟨c :: u, rfl, fun x hx => by rcases List.mem_cons.1 hx with rfl | hx; exact h; exact hu x hx⟩
theorem fl_cons (c : UInt8) (r : List UInt8) : fl (c :: r) = if c = 10 then [c] :: fl r else match fl r with
    | [] => [[c]]
    | h :: t => (c :: h) :: t := rfl
theorem fl_app {f : List UInt8} (h : f = [] ∨ f.getLast? = some 10) (r : List UInt8) : fl (f ++ r) = fl f ++ fl r := by
  induction f with
  | nil => rfl
  | cons c f ih =>
    have h2 : f = [] ∨ f.getLast? = some 10 := by
      cases f with
      | nil => exact .inl rfl
      | cons d f => rw [List.getLast?_cons_cons] at h; exact .inr (h.resolve_left (by simp))
    have ih := ih h2
    rw [List.cons_append, fl_cons, fl_cons]
    by_cases hc : c = 10
    · rw [if_pos hc, if_pos hc, ih]
      rfl
    · rw [if_neg hc, if_neg hc, ih]
      cases hf : fl f with
      | cons a t => rfl
      | nil =>
        have h3 := fl_flat f
        rw [hf] at h3
        have h4 : f = [] := h3.symm
        subst h4
        rcases h with h | h
        · cases h
        · simp at h; exact absurd h hc
theorem last_app {a b : List UInt8} {s : UInt8} (h : b.getLast? = some s) : (a ++ b).getLast? = some s := by
  rw [List.getLast?_append, h]
  rfl
theorem ends_of (ls : List (List UInt8)) (h : ∀ x ∈ ls, ∃ t : List UInt8, x = t ++ [10] ∧ ∀ y ∈ t, y ≠ 10) : ls.flatten = [] ∨ ls.flatten.getLast? = some 10 := by
  induction ls with
  | nil => exact .inl rfl
  | cons l r ih =>
    obtain ⟨t, rfl, _⟩ := h l List.mem_cons_self
    rw [List.flatten_cons]
    rcases ih (fun x hx => h x (List.mem_cons_of_mem _ hx)) with h2 | h2
    · exact .inr (by rw [h2, List.append_nil]; simp)
    · exact .inr (last_app h2)
theorem GF0.ends {f : List UInt8} (h : GF0 f) : f = [] ∨ f.getLast? = some 10 := by
  obtain ⟨l, ls, e, _, h2⟩ := h
  rw [← fl_flat f, e]
  exact ends_of _ fun x hx => (h2 x hx).1
/-- lines of their own make a text whose lines they are -/
theorem fl_of (ls : List (List UInt8)) (h : ∀ x ∈ ls, ∃ t : List UInt8, x = t ++ [10] ∧ ∀ y ∈ t, y ≠ 10) : fl ls.flatten = ls := by
  induction ls with
  | nil => rfl
  | cons l r ih =>
    obtain ⟨t, rfl, ht⟩ := h l List.mem_cons_self
    rw [List.flatten_cons, List.append_assoc, List.singleton_append, fl_hit t _ ht, ih (fun x hx => h x (List.mem_cons_of_mem _ hx))]
theorem blank1_fl {f : List UInt8} {l : List UInt8} {ls : List (List UInt8)} (e : fl f = l :: ls) : blank1 f = blank1 l := by
  have h := fl_flat f
  rw [e, List.flatten_cons] at h
  have hl : l ≠ [] := fl_ne (l := f) (by rw [e]; exact List.mem_cons_self)
  cases l with
  | nil => exact absurd rfl hl
  | cons c l => rw [← h]; rfl
theorem readG_more (ls : List (List UInt8)) : ∀ (fs : List (List UInt8)) (g : List UInt8) (r : List (List UInt8)), (∀ x ∈ ls, blank1 x = true ∧ textL x ≠ []) → readG (fs ++ [g]) (ls ++ r) = readG (fs ++ [g ++ ls.flatten]) r := by
  induction ls with
  | nil => intro fs g r _; simp
  | cons l ls ih =>
    intro fs g r h
    obtain ⟨h1, h2⟩ := h l List.mem_cons_self
    rw [List.cons_append]
    conv => lhs; unfold readG
    rw [if_neg h2, if_pos ⟨h1, by simp⟩]
    have e : joinLast (fs ++ [g]) l = fs ++ [g ++ l] := by simp [joinLast]
    rw [e, ih fs (g ++ l) r (fun x hx => h x (List.mem_cons_of_mem _ hx)), List.flatten_cons, List.append_assoc]
theorem readG_field {f : List UInt8} (h : GF f) (fs r : List (List UInt8)) : readG fs (fl f ++ r) = readG (fs ++ [f]) r := by
  obtain ⟨⟨l, ls, e, h1, h2⟩, h3⟩ := h
  rw [blank1_fl e] at h3
  have hf := fl_flat f
  rw [e] at hf ⊢
  rw [List.cons_append]
  conv => lhs; unfold readG
  rw [if_neg (h2 l List.mem_cons_self).2, if_neg (by rw [h3]; simp), readG_more ls fs l r fun x hx => ⟨h1 x hx, (h2 x (List.mem_cons_of_mem _ hx)).2⟩]
  rw [← List.flatten_cons, hf]
theorem goods_end {fs : List (List UInt8)} (h : ∀ f ∈ fs, GF f) : fs.flatten = [] ∨ fs.flatten.getLast? = some 10 := by
  induction fs with
  | nil => exact .inl rfl
  | cons f r ih =>
    rw [List.flatten_cons]
    rcases ih (fun x hx => h x (List.mem_cons_of_mem _ hx)) with h2 | h2
    · rw [h2, List.append_nil]
      exact (h f List.mem_cons_self).1.ends
    · exact .inr (last_app h2)
theorem readG_goods (fs : List (List UInt8)) : ∀ (f0 r : List (List UInt8)), (∀ f ∈ fs, GF f) → readG f0 (fl fs.flatten ++ r) = readG (f0 ++ fs) r := by
  induction fs with
  | nil => intro f0 r _; simp [fl]
  | cons f fs ih =>
    intro f0 r h
    rw [List.flatten_cons, fl_app (h f List.mem_cons_self).1.ends, List.append_assoc, readG_field (h f List.mem_cons_self), ih _ _ (fun x hx => h x (List.mem_cons_of_mem _ hx)), List.append_assoc]
    rfl
/-- a mail's bytes are read as the mail -/
theorem read_goods {fs : List (List UInt8)} {en : List UInt8} (h : ∀ f ∈ fs, GF f) (he : en = [10] ∨ en = [13, 10]) (bd : List UInt8) : readG [] (fl (fs.flatten ++ en ++ bd)) = some (fs, en, bd) := by
  have e1 : fl (en ++ bd) = en :: fl bd := by
    rcases he with rfl | rfl
    · exact fl_hit [] bd (fun x hx => by simp at hx)
    · exact fl_hit [13] bd (fun x hx => by simp at hx; subst hx; decide)
  have e2 : textL en = [] := by rcases he with rfl | rfl <;> decide
  rw [List.append_assoc, fl_app (goods_end h), e1, readG_goods fs [] _ h]
  unfold readG
  rw [if_pos e2, fl_flat]
  rfl
theorem end_of {en : List UInt8} (h0 : en ≠ []) (h : textL en = []) : en = [10] ∨ en = [13, 10] := by
  unfold textL at h
  by_cases h1 : en.getLast? = some 10
  · rw [if_pos h1] at h
    have e : en = en.dropLast ++ [10] := by
      rw [List.getLast?_eq_some_getLast h0] at h1
      have h2 := List.dropLast_concat_getLast h0
      rw [Option.some.inj h1] at h2
      exact h2.symm
    unfold cutC at h
    by_cases h2 : en.dropLast.getLast? = some 13
    · rw [if_pos h2] at h
      have h3 : en.dropLast ≠ [] := by intro e; rw [e] at h2; simp at h2
      rw [List.getLast?_eq_some_getLast h3] at h2
      have h4 := List.dropLast_concat_getLast h3
      rw [Option.some.inj h2, h] at h4
      right
      rw [e, ← h4]
      rfl
    · rw [if_neg h2] at h
      left
      rw [e, h]
      rfl
  · rw [if_neg h1] at h
    exact absurd h h0

/-- what is read is right, but for the first field's first sign -/
theorem readG_right : ∀ (ls fs : List (List UInt8)) {fs' : List (List UInt8)} {en bd : List UInt8}, readG fs ls = some (fs', en, bd) → Lns ls → fs ≠ [] → (∀ f ∈ fs, GF0 f) → (∀ f ∈ fs.tail, blank1 f = false) →
    (∀ f ∈ fs', GF0 f) ∧ (∀ f ∈ fs'.tail, blank1 f = false) ∧ blank1 (fs'.headD []) = blank1 (fs.headD [])
  | [], _, _, _, _, h, _, _, _, _ => by cases h
  | l :: r, fs, fs', en, bd, h, hL, h0, hg, ht => by
    unfold readG at h
    by_cases h1 : textL l = []
    · rw [if_pos h1] at h
      cases h
      exact ⟨hg, ht, rfl⟩
    · rw [if_neg h1] at h
      have hr : r ≠ [] := by
        rintro rfl
        split at h <;> cases h
      obtain ⟨t, hlt, htn⟩ := hL.1 hr
      have hLn : LnR l := ⟨⟨t, hlt, htn⟩, h1⟩
      by_cases h2 : blank1 l = true ∧ fs ≠ []
      · rw [if_pos h2] at h
        obtain ⟨a, g, rfl⟩ : ∃ a g, fs = a ++ [g] := ⟨fs.dropLast, fs.getLast h0, (List.dropLast_concat_getLast h0).symm⟩
        have e : joinLast (a ++ [g]) l = a ++ [g ++ l] := by simp [joinLast]
        rw [e] at h
        have hgg := hg g (by simp)
        have hgl : GF0 (g ++ l) := by
          have hge := hgg.ends
          obtain ⟨l0, ls0, e0, k1, k2⟩ := hgg
          have e1 : fl l = [l] := by
            have h9 := fl_hit t [] htn
            rw [hlt]
            exact h9
          refine ⟨l0, ls0 ++ [l], by rw [fl_app hge, e0, e1]; rfl, fun x hx => ?_, fun x hx => ?_⟩
          · rcases List.mem_append.1 hx with hx | hx
            · exact k1 x hx
            · obtain rfl : x = l := by simpa using hx
              exact h2.1
          · rw [← List.cons_append] at hx
            rcases List.mem_append.1 hx with hx | hx
            · exact k2 x hx
            · obtain rfl : x = l := by simpa using hx
              exact hLn
        have hb : blank1 (g ++ l) = blank1 g := by
          obtain ⟨l0, ls0, e0, _⟩ := hgg
          cases g with
          | nil => cases e0
          | cons c g => rfl
        have k := readG_right r (a ++ [g ++ l]) h hL.2 (by simp) (fun f hf => by
          rcases List.mem_append.1 hf with hf | hf
          · exact hg f (List.mem_append_left _ hf)
          · obtain rfl : f = g ++ l := by simpa using hf
            exact hgl) (fun f hf => by
          cases a with
          | nil => simp at hf
          | cons a0 a =>
            simp only [List.cons_append, List.tail_cons, List.mem_append, List.mem_singleton] at hf
            rcases hf with hf | rfl
            · exact ht f (by simp [hf])
            · rw [hb]; exact ht g (by simp))
        refine ⟨k.1, k.2.1, k.2.2.trans ?_⟩
        cases a with
        | nil => exact hb
        | cons a0 a => rfl
      · rw [if_neg h2] at h
        have hnb : blank1 l = false := by
          cases hq : blank1 l with
          | false => rfl
          | true => exact absurd ⟨hq, h0⟩ h2
        have hgl : GF0 l := by
          have h9 := fl_hit t [] htn
          have e1 : fl l = [l] := by rw [hlt]; exact h9
          exact ⟨l, [], e1, fun x hx => by simp at hx, fun x hx => by obtain rfl : x = l := by simpa using hx
                                                                      exact hLn⟩
        have k := readG_right r (fs ++ [l]) h hL.2 (by simp) (fun f hf => by
          rcases List.mem_append.1 hf with hf | hf
          · exact hg f hf
          · obtain rfl : f = l := by simpa using hf
            exact hgl) (fun f hf => by
          cases fs with
          | nil => exact absurd rfl h0
          | cons a0 a =>
            simp only [List.cons_append, List.tail_cons, List.mem_append, List.mem_singleton] at hf
            rcases hf with hf | rfl
            · exact ht f (by simpa using hf)
            · exact hnb)
        refine ⟨k.1, k.2.1, k.2.2.trans ?_⟩
        cases fs with
        | nil => exact absurd rfl h0
        | cons a0 a => rfl
/-- a mail that has fields, and begins with one: all of these are right -/
theorem read_right {b : List UInt8} {fs : List (List UInt8)} {en bd : List UInt8} (h : readG [] (fl b) = some (fs, en, bd)) (hok : (!fs.isEmpty && !blank1 (fs.headD [])) = true) : (∀ f ∈ fs, GF f) ∧ (en = [10] ∨ en = [13, 10]) := by
  have hne := read_ne h
  refine ⟨?_, end_of hne.2.1 hne.2.2⟩
  simp only [Bool.and_eq_true, Bool.not_eq_true'] at hok
  have hL := fl_lns b
  cases hb : fl b with
  | nil => rw [hb] at h; cases h
  | cons l r =>
    rw [hb] at h hL
    unfold readG at h
    by_cases h1 : textL l = []
    · rw [if_pos h1] at h
      cases h
      cases hok.1
    · rw [if_neg h1, if_neg (by rintro ⟨_, h⟩; exact h rfl)] at h
      have hr : r ≠ [] := by
        rintro rfl
        cases h
      obtain ⟨t, hlt, htn⟩ := hL.1 hr
      have e1 : fl l = [l] := by
        have h9 := fl_hit t [] htn
        rw [hlt]; exact h9
      have k := readG_right r ([] ++ [l]) h hL.2 (by simp) (fun f hf => by
        obtain rfl : f = l := by simpa using hf
        exact ⟨f, [], e1, fun x hx => by simp at hx, fun x hx => by obtain rfl : x = f := by simpa using hx
                                                                    exact ⟨⟨t, hlt, htn⟩, h1⟩⟩) (fun f hf => by simp at hf)
      intro f hf
      refine ⟨k.1 f hf, ?_⟩
      cases fs with
      | nil => simp at hf
      | cons a0 a =>
        rcases List.mem_cons.1 hf with rfl | hf
        · exact hok.2
        · exact k.2.1 f hf
end Go.Proofs.YtcagkoakbdbbaaaGreatDoor
