/- Whether a text may be a boundary: the program's Boundary, told whole. · A region that draws its order within a round of a range over a function: the laws for functions' own regions serve it. Nothing of the program. -/
import Derived.Test.YtkllecicddfjpaaGreatDoorJ33
import Derived.OrdersIn
import Derived.OrdersHeld
import Derived.Deep.RegionHeld
namespace Go.Proofs.YtkllecicddfjpaaGreatDoor
set_option linter.unusedVariables false
set_option linter.unusedSimpArgs false
open Go.RowKit

/-- a rune that a boundary may have -/
def bdR (R : Nat) : Bool := decide (97 ≤ R ∧ R ≤ 122) || decide (65 ≤ R ∧ R ≤ 90) || decide (48 ≤ R ∧ R ≤ 57) || (decide (R < 128) && sgn.contains (UInt8.ofNat R))
theorem bdR_c (c : UInt8) : bdR c.toNat = bdC c := by
  unfold bdR bdC
  have h : (decide (c.toNat < 128) && sgn.contains (UInt8.ofNat c.toNat)) = sgn.contains c := by
    rw [UInt8.ofNat_toNat]
    by_cases hc : c.toNat < 128
    · rw [decide_eq_true hc]; rfl
    · rw [decide_eq_false hc]
      symm
      rw [Bool.false_and, Bool.eq_false_iff]
      intro h
      exact hc (sgn_ascii c (by simpa using h))
  rw [h]
  simp only [UInt8.le_iff_toNat_le, sgn]
  simp [Bool.decide_and]
theorem bdR_big {R : Nat} (h : 128 ≤ R) : bdR R = false := by
  unfold bdR
  simp
  omega

theorem decode_big (s : ByteArray) (pos : Nat) (h : pos < s.size) (hb : 128 ≤ (s[pos]'h).toNat) : 128 ≤ (Utf8.decode s pos).1 := by
  have e : s.get! (pos + 0) = s[pos]'h := by
    show s.get! pos = _
    simp [ByteArray.get!, getElem!_pos, h]
    rfl
  unfold Utf8.decode
  simp only [e]
  rw [if_neg (by omega)]
  repeat' split
  all_goals first | decide | (simp_all; omega) | simp_all
theorem idx_all (l : List UInt8) : ∀ (f pos : Nat), l.length ≤ pos + f → (0 ≤ Lib.idxFuncFrom (fun R => !bdR R) true (bs l) f pos ↔ (l.drop pos).all bdC = false)
  | 0, pos, h => by
    have : l.drop pos = [] := List.drop_of_length_le (by omega)
    rw [this]
    simp [Lib.idxFuncFrom]
  | f + 1, pos, h => by
    unfold Lib.idxFuncFrom
    rw [bs_size]
    by_cases hp : pos < l.length
    · rw [if_pos hp]
      have hp2 : pos < (bs l).size := by rw [bs_size]; exact hp
      have hc : (bs l)[pos]'hp2 = l[pos] := bs_at pos hp2
      have hd : l.drop pos = l[pos] :: l.drop (pos + 1) := (List.getElem_cons_drop hp).symm
      rw [hd, List.all_cons]
      by_cases ha : (l[pos]).toNat < 128
      · rw [decode_ascii (bs l) pos hp2 (by rw [hc]; exact ha), hc]
        simp only [bdR_c]
        cases hb : bdC l[pos] with
        | true =>
          rw [if_neg (by simp), Bool.true_and]
          exact idx_all l f (pos + 1) (by omega)
        | false => simp
      · have h2 := decode_big (bs l) pos hp2 (by rw [hc]; omega)
        rw [bdR_big h2]
        have h3 : bdC l[pos] = false := by rw [← bdR_c]; exact bdR_big (by omega)
        rw [h3]
        simp
    · rw [if_neg hp]
      have : l.drop pos = [] := List.drop_of_length_le (by omega)
      rw [this]
      simp
theorem idx_bd (l : List UInt8) : decide (0 ≤ Lib.idxFunc (fun R => !bdR R) true (bs l)) = !l.all bdC := by
  have h := idx_all l (bs l).size 0 (by rw [bs_size]; omega)
  rw [List.drop_zero] at h
  unfold Lib.idxFunc
  cases hb : l.all bdC with
  | true =>
    rw [hb] at h
    rw [decide_eq_false (fun h2 => by have := h.1 h2; cases this)]
    rfl
  | false =>
    rw [decide_eq_true (h.2 hb)]
    rfl

set_option maxHeartbeats 1000000 in
theorem crune_any (R : Nat) (hR : R ≤ 1114111) (w : World) :
    Calls Tryz.prog 103 #[.string (bs sgn), .int .i32 (R : Int)] w fun e w' => e = .returned (.bool (decide (R < 128) && sgn.contains (UInt8.ofNat R))) ∧ Below w.heap.size w w' := by
  by_cases h : R < 128
  · refine (Tryz.strings_ContainsRune_ascii (bs sgn) (R : Int) w (by omega) (by omega)).mono ?_
    rintro e w' ⟨rfl, rfl⟩
    refine ⟨ret_bool ?_, Below.refl _ _⟩
    have e2 : ((R : Int)).toNat.toUInt8 = UInt8.ofNat R := rfl
    rw [bs_toList, e2, decide_eq_true h, Bool.true_and]
    by_cases hm : UInt8.ofNat R ∈ sgn
    · rw [decide_eq_true (indexByte_nonneg hm)]
      exact (List.contains_iff_mem.2 hm).symm
    · rw [indexByte_absent hm]
      have : sgn.contains (UInt8.ofNat R) = false := by
        rw [Bool.eq_false_iff]
        exact fun h => hm (List.contains_iff_mem.1 h)
      rw [this]
      rfl
  · have hno : Calls Tryz.prog 168 #[.string (bs sgn), .int .i32 (R : Int)] w fun e w' => e = .returned (.int .i64 (-1)) ∧ Below w.heap.size w w' := by
      by_cases he : R = 65533
      · subst he
        exact indexRune_err w
      · exact indexRune_no (R : Int) (by omega) (by omega) (by omega) w
    have hd := Lib.hid (decide_eq_false h)
    clear h
    go_enter Tryz.func103, Tryz.ntmps103
    go_wp2_with fail
    refine hno.mono ?_
    rintro e w' ⟨rfl, hb⟩
    go_wp2_with fail
    go_ret
    exact ⟨ret_bool (by rw [hd.out]; rfl), hb⟩

set_option maxHeartbeats 2000000 in
theorem bad_any (R : Nat) (hR : R ≤ 1114111) (w : World) :
    Calls Tryz.prog 110 #[.int .i32 (R : Int)] w fun e w' => e = .returned (.bool (!bdR R)) ∧ Below w.heap.size w w' := by
  have hc := fun W => crune_any R hR W
  obtain ⟨q, hq⟩ : ∃ q, (decide (R < 128) && sgn.contains (UInt8.ofNat R)) = q := ⟨_, rfl⟩
  have hbd : Hid (bdR R = (decide (97 ≤ R ∧ R ≤ 122) || decide (65 ≤ R ∧ R ≤ 90) || decide (48 ≤ R ∧ R ≤ 57) || q)) := Lib.hid (by rw [← hq]; rfl)
  rw [hq] at hc
  have hs : ∀ W, Calls Tryz.prog 103 #[.string ⟨#[39, 40, 41, 43, 95, 44, 45, 46, 47, 58, 61, 63]⟩, .int .i32 (R : Int)] W fun e w' => e = .returned (.bool q) ∧ Below W.heap.size W w' := hc
  clear hc hq
  have h0 : (0 : Int) ≤ R := by omega
  rcases (by omega : R < 48 ∨ (48 ≤ R ∧ R ≤ 57) ∨ (57 < R ∧ R < 65) ∨ (65 ≤ R ∧ R ≤ 90) ∨ (90 < R ∧ R < 97) ∨ (97 ≤ R ∧ R ≤ 122) ∨ 122 < R) with h | h | h | h | h | h | h
  all_goals
    go_enter Tryz.func110, Tryz.ntmps110
    go_wp2_with ((with_reducible refine (hs _).mono ?_); rintro e w1 ⟨rfl, hb1⟩)
    go_ret
    refine ⟨ret_bool ?_, ?_⟩
    · rw [hbd.out]
      first
        | (have k1 : 97 ≤ R ∧ R ≤ 122 := by omega
           rw [decide_eq_true k1]; rfl)
        | (have k1 : 65 ≤ R ∧ R ≤ 90 := by omega
           rw [decide_eq_true k1, Bool.or_true]; rfl)
        | (have k1 : 48 ≤ R ∧ R ≤ 57 := by omega
           rw [decide_eq_true k1, Bool.or_true]; rfl)
        | (have k1 : ¬ (97 ≤ R ∧ R ≤ 122) := by omega
           have k2 : ¬ (65 ≤ R ∧ R ≤ 90) := by omega
           have k3 : ¬ (48 ≤ R ∧ R ≤ 57) := by omega
           rw [decide_eq_false k1, decide_eq_false k2, decide_eq_false k3]; cases q <;> first | rfl | (simp; done) | (simp; omega))
    · first
        | exact hb1
        | exact Below.refl _ _
theorem eg_bad : ∀ args w, (callFunc 110 args).run Tryz.prog w = .ok (.enter 110 args) w := enters_of Tryz.func110 (by kernel_rfl) rfl

set_option maxHeartbeats 2000000 in
theorem boundary_any (l : List UInt8) (w : World) (hb : l.length ≤ 1000000000) :
    Calls Tryz.prog 60 #[.string (bs l)] w fun e w' => e = .returned (.bool (bdOk l)) ∧ Below w.heap.size w w' := by
  have hf := Tryz.strings_ContainsFunc_grows 110 #[] eg_bad (fun R => !bdR R) (bs l) w (fun W x hx _ => bad_any x hx W)
  rw [idx_bd] at hf
  obtain ⟨q, hq⟩ : ∃ q, l.all bdC = q := ⟨_, rfl⟩
  have hbd : Hid (bdOk l = (decide (1 ≤ l.length) && decide (l.length ≤ 70) && q)) := Lib.hid (by rw [← hq]; rfl)
  rw [hq] at hf
  clear hq
  obtain ⟨n, hn⟩ : ∃ n, l.length = n := ⟨_, rfl⟩
  have HN := Lib.hid hn
  rcases (by omega : n = 0 ∨ (1 ≤ n ∧ n ≤ 70) ∨ 70 < n) with h | h | h
  · subst h
    go_enter Tryz.func60, Tryz.ntmps60
    go_wp2_with fail
    go_ret
    exact ⟨ret_bool (by rw [hbd.out, HN.out]; rfl), Below.refl _ _⟩
  · obtain ⟨h1, h2⟩ := h
    go_enter Tryz.func60, Tryz.ntmps60
    go_wp2_with fail
    refine hf.mono ?_
    rintro e w1 ⟨rfl, hb1⟩
    go_wp2_with fail
    go_ret
    exact ⟨ret_bool (by rw [hbd.out, HN.out, decide_eq_true h1, decide_eq_true h2]; cases q <;> rfl), hb1⟩
  · go_enter Tryz.func60, Tryz.ntmps60
    go_wp2_with fail
    go_ret
    exact ⟨ret_bool (by rw [hbd.out, HN.out, decide_eq_false (p := n ≤ 70) (by omega), Bool.and_false]; rfl), Below.refl _ _⟩
end Go.Proofs.YtkllecicddfjpaaGreatDoor

namespace Go.Proofs.YtkllecicddfjpaaGreatDoor
set_option linter.unusedVariables false
set_option linter.unusedSimpArgs false
variable {n l : Nat} {P : Program} {ops : Array Oper} {Q : Exit → Act → World → Prop} {md : Region.Mode}

theorem wpIn_round_of {o : Oper} {a : Act} {w : World} {K : Act → World → Prop} (hd : ∀ c, o.op ≠ .defer c) (h : o.wp P a w K Q) : o.wpIn (Fence.wide.inRound l) n P a w K Q := by
  unfold Oper.wpIn
  refine ⟨fun _ _ => trivial, ?_⟩
  rw [Oper.semAt_eq _ _ _ hd]
  unfold Oper.wp at h
  generalize (execOp a.eval o).run P w = r at h ⊢
  cases r with
  | ok x w' =>
    cases x
    case value v => exact h
    case skip => exact h
    case defer d => exact h
    case enter f args => exact ⟨fun h => by simp [Fence.inRound, Fence.wide] at h, (callsIn_wide (n := n - 1)).2 h⟩
    case row r args =>
      refine ⟨fun h => by simp [Fence.inRound, Fence.wide] at h, fun c cs _ => ?_⟩
      obtain ⟨v, w2, hr, hs⟩ := h c cs
      exact ⟨v, w2, hr, stepsIn_wide.2 hs⟩
    all_goals exact h.elim
  | halt x w' =>
    cases x <;> first | exact h | exact h.elim

theorem wpOpIn_round {i : Nat} {a : Act} {w : World} {K : Act → World → Prop} (hd : ∀ (i : Nat) o c, ops[i]? = some o → o.op ≠ .defer c) (hl : ¬ LetsOut Q) (h : wpOp P ops Q i K a w) : wpOpIn (Fence.wide.inRound l) n P ops Q i K a w := by
  unfold wpOp at h
  unfold wpOpIn
  cases ho : ops[i]? with
  | none =>
    rw [ho] at h
    exact h
  | some o =>
    rw [ho] at h
    simp only at h ⊢
    split
    · rename_i hw
      rw [if_pos hw] at h
      rcases h with h | ⟨_, h⟩
      · exact wpIn_round_of (fun c => hd i o c ho) h
      · exact (hl h).elim
    · rename_i hw
      rw [if_neg hw] at h
      exact ⟨fun _ _ => trivial, h⟩

theorem wpAnyIn_round (hd : ∀ (i : Nat) o c, ops[i]? = some o → o.op ≠ .defer c) (hl : ¬ LetsOut Q) : ∀ (fuel : Nat) (listed : Array Bool) (a : Act) (w : World), wpAny P md ops Q fuel listed a w → wpAnyIn (Fence.wide.inRound l) n P md ops Q fuel listed a w
  | 0, _, _, _, h => h
  | fuel + 1, _, _, _, h => ⟨h.1, fun i hi => wpOpIn_mono (fun a' w' h' => wpAnyIn_round hd hl fuel _ a' w' h') (wpOpIn_round hd hl (h.2 i hi))⟩

/-- no deferred call -/
def notDefer : Op → Bool
  | .defer _ => false
  | _ => true
theorem notDefer_of (h : ops.all (fun o => notDefer o.op) = true) (i : Nat) (o : Oper) (c : Call) (ho : ops[i]? = some o) : o.op ≠ .defer c := by
  intro e
  have h1 := (Array.all_eq_true_iff_forall_mem.1 h) o (Array.mem_of_getElem? ho)
  rw [e] at h1
  cases h1
/-- the beginning of such a region: S holds of each world on the way -/
theorem wpIn_region_round {id : Nat} {S : World → Prop} {a : Act} {w : World} (hm : P.follows .mixedOrders = true) (hd : ops.all (fun o => notDefer o.op) = true) (hl : ¬ LetsOut Q) (hS : S w.drew)
    (h : S w.drew → wpAnyH P .any ops Q S ops.size (Array.replicate ops.size false) a w.drew) : (Code.region id ops true).wpIn (Fence.wide.inRound l) n P Q a w :=
  wpIn_region_any hm (wpAnyIn_round (notDefer_of hd) hl _ _ _ _ (wpAny_of_held _ _ _ _ (h hS)))
end Go.Proofs.YtkllecicddfjpaaGreatDoor
