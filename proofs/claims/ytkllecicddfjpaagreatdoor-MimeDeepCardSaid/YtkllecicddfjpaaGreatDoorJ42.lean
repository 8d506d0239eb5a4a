/- Whether a text may be an id: pack's id, told whole. · An envelope that came in, by value: what its cells read as. · Plain: what goes beside an envelope tells who it is from and to, its id and thread: no two have the same. -/
import Derived.Test.YtkllecicddfjpaaGreatDoorJ34
import Derived.Test.YtkllecicddfjpaaGreatDoorJ01
import Derived.Test.YtkllecicddfjpaaGreatDoorChecked
import Derived.KernelRfl
import Derived.Lib.LaidU8
import Derived.Lib.SmallJoins
import Derived.OpenShut
import Derived.Test.YtkllecicddfjpaaGreatDoorJ07
namespace Go.Proofs.YtkllecicddfjpaaGreatDoor
set_option linter.unusedVariables false
set_option linter.unusedSimpArgs false
open Go.RowKit
namespace Pk

/-- the signs that an id may not have -/
def sgn : List UInt8 := [60, 62, 40, 41, 34, 92]
theorem sgn_ascii : ∀ c ∈ sgn, c.toNat < 128 := by decide

set_option maxHeartbeats 2000000 in
set_option maxRecDepth 100000 in
theorem indexRune_err (w : World) :
    Calls Tryz.prog 168 #[.string (bs sgn), .int .i32 65533] w fun e w' => e = .returned (.int .i64 (-1)) ∧ Below w.heap.size w w' := by
  obtain ⟨s, hs⟩ : ∃ s, bs sgn = s := ⟨_, rfl⟩
  have hA : Hid (∀ (i : Nat) (h : i < s.size), (s[i]'h).toNat < 128) := by
    subst hs
    exact Lib.hid fun i h => sgn_ascii _ (bs_mem i h)
  rw [hs]
  clear hs
  go_enter Tryz.func168, Tryz.ntmps168
  go_wp2_with fail
  go_loopg [5, 6] s.size (fun g s5 s6 wx => ∃ i : Nat, i + g = s.size ∧ wx = w.iter s i)
  case atStart => exact ⟨0, by omega, rfl⟩
  case round =>
    obtain ⟨i, hig, rfl⟩ := hrel
    cases gk with
    | zero =>
      obtain rfl : i = s.size := by omega
      have hnx := fun ty => run_next_end (P := Tryz.prog) w s s.size ty (by omega)
      go_wp2_with fail
      go_ret
      exact ⟨rfl, (Below.refl _ _).alloc (Nat.le_refl _) _⟩
    | succ g =>
      have hi : i < s.size := by omega
      have ha := hA.out i hi
      have hnx := fun ty => run_next_ascii (P := Tryz.prog) w s i ty hi ha
      have hne : (((s[i]'hi).toNat : Int) == 65533) = false := by rw [beq_eq_false_iff_ne]; omega
      go_wp2_with fail
      go_roundg g
      case measure => omega
      case rel => exact ⟨i + 1, by omega, rfl⟩

set_option maxHeartbeats 2000000 in
set_option maxRecDepth 100000 in
theorem indexRune_no (r : Int) (h1 : 128 ≤ r) (h2 : r ≤ 1114111) (h3 : r ≠ 65533) (w : World) :
    Calls Tryz.prog 168 #[.string (bs sgn), .int .i32 r] w fun e w' => e = .returned (.int .i64 (-1)) ∧ Below w.heap.size w w' := by
  have hne : (r == 65533) = false := by simpa using h3
  have hvr : Lib.validRune r = Utf8.valid r := by
    unfold Lib.validRune Utf8.valid
    rw [Bool.eq_iff_iff]
    simp
    omega
  cases hv : Utf8.valid r with
  | false =>
    rw [hv] at hvr
    have HV := Lib.hid hvr
    clear hvr hv
    go_enter Tryz.func168, Tryz.ntmps168
    go_wp2_with fail
    refine (Tryz.utf8_ValidRune r _).mono ?_
    rintro e w' ⟨rfl, hw⟩
    rw [hw, HV.out]
    go_wp2_with fail
    go_ret
    exact ⟨rfl, Below.refl _ _⟩
  | true =>
    rw [hv] at hvr
    obtain ⟨g1, g2, g3⟩ := encode_facts r hv h1
    obtain ⟨l, hl⟩ : ∃ l, Utf8.encode r = bs l := ⟨_, (bs_of _).symm⟩
    rw [hl] at g1 g2 g3
    rw [bs_size] at g1 g2
    have hlast : l.length - 1 < l.length := by omega
    obtain ⟨x, hx⟩ : ∃ x, l[l.length - 1]? = some x := ⟨_, List.getElem?_eq_getElem hlast⟩
    have hx128 : 128 ≤ x.toNat := by
      have h := g3 (by rw [bs_size]; omega)
      rw [bs_at] at h
      simp only [bs_size] at h
      rw [List.getElem?_eq_getElem hlast] at hx
      rw [← Option.some.inj hx]
      exact h
    have HV := Lib.hid hvr
    have hab : ∀ m : List UInt8, (∀ c ∈ m, c ∈ sgn) → Lib.indexByte m x = -1 := fun m hm => indexByte_absent fun h => by
      have := sgn_ascii x (hm x h)
      omega
    have hcv : ∀ W, (convert 21 9 (.int .i32 r)).run Tryz.prog W = .ok (.string (bs l)) W := fun W => by
      rw [run_convert_int_string W _ _ .i32 r (by rw [Tryz.underlying21]; rfl) Tryz.underlying9, hl]
    have hIB : ∀ m : List UInt8, (∀ c ∈ m, c ∈ sgn) → ∀ W, Calls Tryz.prog 179 #[.string (bs m), .int .u8 (x.toNat : Int)] W fun e w' => e = .returned (.int .i64 (-1)) ∧ w' = W := fun m hm W => by
      have h := Tryz.strings_IndexByte (bs m) (x.toNat : Int) W
      have e : ((x.toNat : Int)).toNat.toUInt8 = x := by simp
      rw [e, bs_toList, hab m hm] at h
      exact h
    clear hvr hv g3 hl h3 hab
    rcases (by omega : l.length = 2 ∨ l.length = 3 ∨ l.length = 4) with h4 | h4 | h4
    · have hsl : sgn.length = 6 := rfl
      have p1 : 1 < (bs sgn).size := by rw [bs_size]; decide
      have p2 : 1 < (bs l).size := by rw [bs_size]; omega
      have hy : (bs l)[1]'p2 = x := by
        rw [bs_at]
        rw [h4, List.getElem?_eq_getElem (by omega)] at hx
        exact Option.some.inj hx
      have ht : ((((bs sgn)[1]'p1).toNat : Int) != (((bs l)[1]'p2).toNat : Int)) = true := by
        rw [bs_at, hy]
        have e : (sgn[1]'(by decide) : UInt8) = 62 := rfl
        rw [e, bne_iff_ne]
        have e2 : ((62 : UInt8).toNat : Int) = 62 := rfl
        omega
      have hI1 := hIB
      rw [← hy] at hI1
      have hwr : IntKind.i64.wrap 2 = 2 := by decide
      have hex : (bs sgn).extract 2 (bs sgn).size = bs (sgn.drop 2) := rfl
      clear hx hlast g1 g2 hIB hy
      go_enter Tryz.func168, Tryz.ntmps168
      go_wp2_with fail
      refine (Tryz.utf8_ValidRune r _).mono ?_
      rintro e w' ⟨rfl, hw⟩
      rw [hw, HV.out]
      go_wp2_with fail
      refine wp_scope_straight ?_
      go_wp2_with fail
      refine wp_loop_rounds 1 ?_
      rw [rounds_succ]
      go_wp2_with fail
      refine wp_scope_straight ?_
      go_wp2_with fail
      go_quiet (fail)
      rename_i nq
      obtain ⟨w2, hw2⟩ : ∃ w2, w.drewN nq = w2 := ⟨_, rfl⟩
      have hb2 : Below w.heap.size w w2 := by rw [← hw2]; exact (Dn.of w nq).below _
      rw [hw2]
      clear hw2
      go_wp2_with fail
      go_quiet ((go_at_call 179; exact Calls.quiet_of_same (hI1 (List.take 4 (List.drop 2 sgn)) (fun c hc => List.mem_of_mem_drop (List.mem_of_mem_take hc)) _)))
      go_wp2_with fail
      simp only [Exit.noGoto, Exit.inBlock, Exit.then]
      go_ret
      exact ⟨rfl, hb2.trans ((Dn.of w2 _).below _)⟩
    · have hsl : sgn.length = 6 := rfl
      have p1 : 2 < (bs sgn).size := by rw [bs_size]; decide
      have p2 : 2 < (bs l).size := by rw [bs_size]; omega
      have hy : (bs l)[2]'p2 = x := by
        rw [bs_at]
        rw [h4, List.getElem?_eq_getElem (by omega)] at hx
        exact Option.some.inj hx
      have ht : ((((bs sgn)[2]'p1).toNat : Int) != (((bs l)[2]'p2).toNat : Int)) = true := by
        rw [bs_at, hy]
        have e : (sgn[2]'(by decide) : UInt8) = 40 := rfl
        rw [e, bne_iff_ne]
        have e2 : ((40 : UInt8).toNat : Int) = 40 := rfl
        omega
      have hI1 := hIB
      rw [← hy] at hI1
      have hwr : IntKind.i64.wrap 3 = 3 := by decide
      have hex : (bs sgn).extract 3 (bs sgn).size = bs (sgn.drop 3) := rfl
      clear hx hlast g1 g2 hIB hy
      go_enter Tryz.func168, Tryz.ntmps168
      go_wp2_with fail
      refine (Tryz.utf8_ValidRune r _).mono ?_
      rintro e w' ⟨rfl, hw⟩
      rw [hw, HV.out]
      go_wp2_with fail
      refine wp_scope_straight ?_
      go_wp2_with fail
      refine wp_loop_rounds 1 ?_
      rw [rounds_succ]
      go_wp2_with fail
      refine wp_scope_straight ?_
      go_wp2_with fail
      go_quiet (fail)
      rename_i nq
      obtain ⟨w2, hw2⟩ : ∃ w2, w.drewN nq = w2 := ⟨_, rfl⟩
      have hb2 : Below w.heap.size w w2 := by rw [← hw2]; exact (Dn.of w nq).below _
      rw [hw2]
      clear hw2
      go_wp2_with fail
      go_quiet ((go_at_call 179; exact Calls.quiet_of_same (hI1 (List.take 3 (List.drop 3 sgn)) (fun c hc => List.mem_of_mem_drop (List.mem_of_mem_take hc)) _)))
      go_wp2_with fail
      simp only [Exit.noGoto, Exit.inBlock, Exit.then]
      go_ret
      exact ⟨rfl, hb2.trans ((Dn.of w2 _).below _)⟩
    · have hsl : sgn.length = 6 := rfl
      have p1 : 3 < (bs sgn).size := by rw [bs_size]; decide
      have p2 : 3 < (bs l).size := by rw [bs_size]; omega
      have hy : (bs l)[3]'p2 = x := by
        rw [bs_at]
        rw [h4, List.getElem?_eq_getElem (by omega)] at hx
        exact Option.some.inj hx
      have ht : ((((bs sgn)[3]'p1).toNat : Int) != (((bs l)[3]'p2).toNat : Int)) = true := by
        rw [bs_at, hy]
        have e : (sgn[3]'(by decide) : UInt8) = 41 := rfl
        rw [e, bne_iff_ne]
        have e2 : ((41 : UInt8).toNat : Int) = 41 := rfl
        omega
      have hI1 := hIB
      rw [← hy] at hI1
      have hwr : IntKind.i64.wrap 4 = 4 := by decide
      have hex : (bs sgn).extract 4 (bs sgn).size = bs (sgn.drop 4) := rfl
      clear hx hlast g1 g2 hIB hy
      go_enter Tryz.func168, Tryz.ntmps168
      go_wp2_with fail
      refine (Tryz.utf8_ValidRune r _).mono ?_
      rintro e w' ⟨rfl, hw⟩
      rw [hw, HV.out]
      go_wp2_with fail
      refine wp_scope_straight ?_
      go_wp2_with fail
      refine wp_loop_rounds 1 ?_
      rw [rounds_succ]
      go_wp2_with fail
      refine wp_scope_straight ?_
      go_wp2_with fail
      go_quiet (fail)
      rename_i nq
      obtain ⟨w2, hw2⟩ : ∃ w2, w.drewN nq = w2 := ⟨_, rfl⟩
      have hb2 : Below w.heap.size w w2 := by rw [← hw2]; exact (Dn.of w nq).below _
      rw [hw2]
      clear hw2
      go_wp2_with fail
      go_quiet ((go_at_call 179; exact Calls.quiet_of_same (hI1 (List.take 2 (List.drop 4 sgn)) (fun c hc => List.mem_of_mem_drop (List.mem_of_mem_take hc)) _)))
      go_wp2_with fail
      simp only [Exit.noGoto, Exit.inBlock, Exit.then]
      go_ret
      exact ⟨rfl, hb2.trans ((Dn.of w2 _).below _)⟩

/-- a rune that an id may have -/
def bdR (R : Nat) : Bool := decide (33 ≤ R ∧ R ≤ 126) && !(decide (R < 128) && sgn.contains (UInt8.ofNat R))
/-- a byte that an id may have -/
def bdC (c : UInt8) : Bool := (33 ≤ c && c ≤ 126) && !sgn.contains c
def idOk (s : List UInt8) : Bool := decide (1 ≤ s.length) && decide (s.length ≤ 200) && s.all bdC
theorem bdR_c (c : UInt8) : bdR c.toNat = bdC c := by
  unfold bdR bdC
  have h : (decide (c.toNat < 128) && sgn.contains (UInt8.ofNat c.toNat)) = sgn.contains c := by
    rw [UInt8.ofNat_toNat]
    by_cases hc : c.toNat < 128
    · rw [decide_eq_true hc]; rfl
    · rw [decide_eq_false hc]
      symm
      rw [Bool.false_and, Bool.eq_false_iff]
      intro h
      exact hc (sgn_ascii c (by simpa using h))
  rw [h]
  simp only [UInt8.le_iff_toNat_le, sgn]
  simp [Bool.decide_and]
theorem bdR_big {R : Nat} (h : 128 ≤ R) : bdR R = false := by
  unfold bdR
  rw [decide_eq_false (by omega), Bool.false_and]

theorem idx_all (l : List UInt8) : ∀ (f pos : Nat), l.length ≤ pos + f → (0 ≤ Lib.idxFuncFrom (fun R => !bdR R) true (bs l) f pos ↔ (l.drop pos).all bdC = false)
  | 0, pos, h => by
    have : l.drop pos = [] := List.drop_of_length_le (by omega)
    rw [this]
    simp [Lib.idxFuncFrom]
  | f + 1, pos, h => by
    unfold Lib.idxFuncFrom
    rw [bs_size]
    by_cases hp : pos < l.length
    · rw [if_pos hp]
      have hp2 : pos < (bs l).size := by rw [bs_size]; exact hp
      have hc : (bs l)[pos]'hp2 = l[pos] := bs_at pos hp2
      have hd : l.drop pos = l[pos] :: l.drop (pos + 1) := (List.getElem_cons_drop hp).symm
      rw [hd, List.all_cons]
      by_cases ha : (l[pos]).toNat < 128
      · rw [decode_ascii (bs l) pos hp2 (by rw [hc]; exact ha), hc]
        simp only [bdR_c]
        cases hb : bdC l[pos] with
        | true =>
          rw [if_neg (by simp), Bool.true_and]
          exact idx_all l f (pos + 1) (by omega)
        | false => simp
      · have h2 := decode_big (bs l) pos hp2 (by rw [hc]; omega)
        rw [bdR_big h2]
        have h3 : bdC l[pos] = false := by rw [← bdR_c]; exact bdR_big (by omega)
        rw [h3]
        simp
    · rw [if_neg hp]
      have : l.drop pos = [] := List.drop_of_length_le (by omega)
      rw [this]
      simp
theorem idx_bd (l : List UInt8) : decide (0 ≤ Lib.idxFunc (fun R => !bdR R) true (bs l)) = !l.all bdC := by
  have h := idx_all l (bs l).size 0 (by rw [bs_size]; omega)
  rw [List.drop_zero] at h
  unfold Lib.idxFunc
  cases hb : l.all bdC with
  | true =>
    rw [hb] at h
    rw [decide_eq_false (fun h2 => by have := h.1 h2; cases this)]
    rfl
  | false =>
    rw [decide_eq_true (h.2 hb)]
    rfl

set_option maxHeartbeats 1000000 in
theorem crune_any (R : Nat) (hR : R ≤ 1114111) (w : World) :
    Calls Tryz.prog 103 #[.string (bs sgn), .int .i32 (R : Int)] w fun e w' => e = .returned (.bool (decide (R < 128) && sgn.contains (UInt8.ofNat R))) ∧ Below w.heap.size w w' := by
  by_cases h : R < 128
  · refine (Tryz.strings_ContainsRune_ascii (bs sgn) (R : Int) w (by omega) (by omega)).mono ?_
    rintro e w' ⟨rfl, rfl⟩
    refine ⟨ret_bool ?_, Below.refl _ _⟩
    have e2 : ((R : Int)).toNat.toUInt8 = UInt8.ofNat R := rfl
    rw [bs_toList, e2, decide_eq_true h, Bool.true_and]
    by_cases hm : UInt8.ofNat R ∈ sgn
    · rw [decide_eq_true (indexByte_nonneg hm)]
      exact (List.contains_iff_mem.2 hm).symm
    · rw [indexByte_absent hm]
      have : sgn.contains (UInt8.ofNat R) = false := by
        rw [Bool.eq_false_iff]
        exact fun h => hm (List.contains_iff_mem.1 h)
      rw [this]
      rfl
  · have hno : Calls Tryz.prog 168 #[.string (bs sgn), .int .i32 (R : Int)] w fun e w' => e = .returned (.int .i64 (-1)) ∧ Below w.heap.size w w' := by
      by_cases he : R = 65533
      · subst he
        exact indexRune_err w
      · exact indexRune_no (R : Int) (by omega) (by omega) (by omega) w
    have hd := Lib.hid (decide_eq_false h)
    clear h
    go_enter Tryz.func103, Tryz.ntmps103
    go_wp2_with fail
    refine hno.mono ?_
    rintro e w' ⟨rfl, hb⟩
    go_wp2_with fail
    go_ret
    exact ⟨ret_bool (by rw [hd.out]; rfl), hb⟩

set_option maxHeartbeats 2000000 in
theorem bad_any (R : Nat) (hR : R ≤ 1114111) (w : World) :
    Calls Tryz.prog 102 #[.int .i32 (R : Int)] w fun e w' => e = .returned (.bool (!bdR R)) ∧ Below w.heap.size w w' := by
  have hc := fun W => crune_any R hR W
  obtain ⟨q, hq⟩ : ∃ q, (decide (R < 128) && sgn.contains (UInt8.ofNat R)) = q := ⟨_, rfl⟩
  have hbd : Hid (bdR R = (decide (33 ≤ R ∧ R ≤ 126) && !q)) := Lib.hid (by rw [← hq]; rfl)
  rw [hq] at hc
  have hs : ∀ W, Calls Tryz.prog 103 #[.string ⟨#[60, 62, 40, 41, 34, 92]⟩, .int .i32 (R : Int)] W fun e w' => e = .returned (.bool q) ∧ Below W.heap.size W w' := hc
  clear hc hq
  have h0 : (0 : Int) ≤ R := by omega
  rcases (by omega : R ≤ 32 ∨ (32 < R ∧ R ≤ 126) ∨ 126 < R) with h | h | h
  all_goals
    go_enter Tryz.func102, Tryz.ntmps102
    go_wp2_with ((with_reducible refine (hs _).mono ?_); rintro e w1 ⟨rfl, hb1⟩)
    go_ret
    refine ⟨ret_bool ?_, ?_⟩
    · rw [hbd.out]
      first
        | (have k1 : 33 ≤ R ∧ R ≤ 126 := by omega
           rw [decide_eq_true k1]; cases q <;> rfl)
        | (have k1 : 33 ≤ R ∧ R ≤ 126 := by omega
           have k2 : ¬ ((R : Int) ≤ 32) := by omega
           have k3 : ¬ (126 < (R : Int)) := by omega
           rw [decide_eq_true k1, decide_eq_false k2, decide_eq_false k3]; cases q <;> rfl)
        | (have k1 : ¬ (33 ≤ R ∧ R ≤ 126) := by omega
           rw [decide_eq_false k1]; rfl)
    · first
        | exact hb1
        | exact Below.refl _ _
theorem eg_bad : ∀ args w, (callFunc 102 args).run Tryz.prog w = .ok (.enter 102 args) w := enters_of Tryz.func102 (by kernel_rfl) rfl

set_option maxHeartbeats 2000000 in
theorem id_any (l : List UInt8) (w : World) (hb : l.length ≤ 1000000000) :
    Calls Tryz.prog 52 #[.string (bs l)] w fun e w' => e = .returned (.bool (idOk l)) ∧ Below w.heap.size w w' := by
  have hf := Tryz.strings_ContainsFunc_grows 102 #[] eg_bad (fun R => !bdR R) (bs l) w (fun W x hx _ => bad_any x hx W)
  rw [idx_bd] at hf
  obtain ⟨q, hq⟩ : ∃ q, l.all bdC = q := ⟨_, rfl⟩
  have hbd : Hid (idOk l = (decide (1 ≤ l.length) && decide (l.length ≤ 200) && q)) := Lib.hid (by rw [← hq]; rfl)
  rw [hq] at hf
  clear hq
  obtain ⟨n, hn⟩ : ∃ n, l.length = n := ⟨_, rfl⟩
  have HN := Lib.hid hn
  rcases (by omega : n = 0 ∨ (1 ≤ n ∧ n ≤ 200) ∨ 200 < n) with h | h | h
  · subst h
    go_enter Tryz.func52, Tryz.ntmps52
    go_wp2_with fail
    go_ret
    exact ⟨ret_bool (by rw [hbd.out, HN.out]; rfl), Below.refl _ _⟩
  · obtain ⟨h1, h2⟩ := h
    go_enter Tryz.func52, Tryz.ntmps52
    go_wp2_with fail
    refine hf.mono ?_
    rintro e w1 ⟨rfl, hb1⟩
    go_wp2_with fail
    go_ret
    exact ⟨ret_bool (by rw [hbd.out, HN.out, decide_eq_true h1, decide_eq_true h2]; cases q <;> rfl), hb1⟩
  · go_enter Tryz.func52, Tryz.ntmps52
    go_wp2_with fail
    go_ret
    exact ⟨ret_bool (by rw [hbd.out, HN.out, decide_eq_false (p := n ≤ 200) (by omega), Bool.and_false]; rfl), Below.refl _ _⟩
end Pk
end Go.Proofs.YtkllecicddfjpaaGreatDoor

namespace Go.Proofs.YtkllecicddfjpaaGreatDoor
set_option linter.unusedVariables false
set_option linter.unusedSimpArgs false
open Go.RowKit Go.Shelf Go.Lib Go.Joins Go.ChangeShapes Go.WideShapes Go.ChangeAt

/-- an envelope -/
structure En where
  fr : List UInt8
  too : List UInt8
  id : List UInt8
  th : List UInt8
  plain : Bool
  bun : List UInt8
  cip : List UInt8
/-- its cells -/
def env (x : En) (A : Option Addr) (ca : Nat) (B : Option Addr) (cb : Nat) : Value :=
  .agg #[.string (bs x.fr), .string (bs x.too), .string (bs x.id), .string (bs x.th), .bool x.plain, .slice A x.bun.length ca, .slice B x.cip.length cb]
/-- an envelope as memory may have it -/
structure En.Ok (x : En) : Prop where
  fr : x.fr.length ≤ 9223372036854775807
  too : x.too.length ≤ 9223372036854775807
  id : x.id.length ≤ 9223372036854775807
  th : x.th.length ≤ 9223372036854775807

section
variable {H : Type} {enc : TypeId × Value → H} {P : Program} {w : World} {base : Nat} {sp : Nat → Bool} {held : Bool}
theorem trod_fields {fuel : Nat} {t : TypeId} {fs : Array Field} {cs : List Value} {d : DataW H} {p : List MemPlace} (ht : P.underlying t = some (.struct fs)) (h : DataW.trod enc P w base sp held fuel t cs = some (d, p)) :
    cs.length = P.cellsOf t ∧ ∃ fuel', ∀ f ∈ fs.toList, ∃ y, DataW.trod enc P w base sp held fuel' f.type ((cs.drop f.offset).take (P.cellsOf f.type)) = some y := by
  cases fuel with
  | zero => simp [DataW.trod] at h
  | succ fuel =>
    simp only [DataW.trod, ht] at h
    split at h
    · rename_i hl
      obtain ⟨xs, hm, hx⟩ := Option.map_eq_some_iff.1 h
      refine ⟨hl, fuel, fun f hf => ?_⟩
      obtain ⟨i, hi⟩ := List.mem_iff_getElem?.1 hf
      obtain ⟨b, _, hb⟩ := mapM_at hm i f hi
      exact ⟨b, hb⟩
    · cases h
theorem trod_array {fuel n : Nat} {t e : TypeId} {cs : List Value} {d : DataW H} {p : List MemPlace} (ht : P.underlying t = some (.array n e)) (h : DataW.trod enc P w base sp held fuel t cs = some (d, p)) :
    cs.length = P.cellsOf t ∧ ∃ fuel', ∀ i, i < n → ∃ y, DataW.trod enc P w base sp held fuel' e ((cs.drop (i * P.cellsOf e)).take (P.cellsOf e)) = some y := by
  cases fuel with
  | zero => simp [DataW.trod] at h
  | succ fuel =>
    simp only [DataW.trod, ht] at h
    split at h
    · rename_i hl
      obtain ⟨xs, hm, hx⟩ := Option.map_eq_some_iff.1 h
      refine ⟨hl, fuel, fun i hi => ?_⟩
      obtain ⟨b, _, hb⟩ := mapM_at hm i i (by simp [hi])
      exact ⟨b, hb⟩
    · cases h
end

theorem chain {α : Type} {l s r : List α} {a k : Nat} (h : (l.drop a).take k = s) (hr : l.drop (a + k) = r) : l.drop a = s ++ r := by
  rw [← h, ← hr, ← List.drop_drop, List.take_append_drop]

theorem cStr' : Tryz.prog.cellsOf 9 = 1 := by kernel_rfl
theorem cByt' : Tryz.prog.cellsOf 22 = 1 := by kernel_rfl
theorem cBool' : Tryz.prog.cellsOf 4 = 1 := by kernel_rfl
theorem cEnv : Tryz.prog.cellsOf 24 = 7 := by kernel_rfl
theorem bytes_cell {H : Type} {enc : TypeId × Value → H} {w : World} {n : Nat} {cs : List Value} {y : DataW H × List MemPlace} (h6 : DataW.trod enc Tryz.prog w 0 (fun _ => true) true n 22 cs = some y) :
    ∃ (A : Option Addr) (len c : Nat) (body : List UInt8), cs = [.slice A len c] ∧ body.length = len ∧ len ≤ c ∧ c ≤ maxLen ∧ Rb w A body := by
  rcases open_ints Tryz.underlying22 Tryz.underlying5 (by kernel_rfl) h6 with ⟨hcs, _⟩ | ⟨x, l, c, zs, hcs, _, hl, hm, hz, _, hcell, hwz⟩
  · obtain ⟨b, q0, q1, q2, q3⟩ := Rb_row (w := w) (a := none) (len := 0) (cap := 0) (zs := []) (.inl ⟨rfl, rfl, rfl, rfl⟩)
    exact ⟨_, _, _, b, hcs, q0, q1, q2, q3⟩
  · obtain ⟨b, q0, q1, q2, q3⟩ := Rb_row (w := w) (.inr ⟨_, rfl, hl, hm, by simpa using hz, hcell, hwz⟩)
    exact ⟨_, _, _, b, hcs, q0, q1, q2, q3⟩
theorem str_cell {H : Type} {enc : TypeId × Value → H} {w : World} {n : Nat} {cs : List Value} {y : DataW H × List MemPlace} (h : DataW.trod enc Tryz.prog w 0 (fun _ => true) true n 9 cs = some y) :
    ∃ l : List UInt8, cs = [.string (bs l)] ∧ l.length ≤ 9223372036854775807 := by
  obtain ⟨a5, e5, _, w5⟩ := DataW.trod_string Tryz.underlying9 h
  obtain ⟨t5, rfl⟩ : ∃ l, a5 = bs l := ⟨_, (bs_of a5).symm⟩
  exact ⟨t5, e5, by rw [bs_size] at w5; exact w5⟩
set_option maxRecDepth 100000 in
/-- AN ENVELOPE THAT CAME IN, BY VALUE -/
theorem Env_row {H : Type} {enc : TypeId × Value → H} {w : World} {r : Reach} {b0 : Nat} {v : Value} {d : DataW H} {p : List MemPlace} (hv : Value.okWide Tryz.prog w r b0 24 v) (h : DataW.Trod enc Tryz.prog w 0 (fun _ => true) true 24 v d p) :
    ∃ (x : En) (A : Option Addr) (ca : Nat) (B : Option Addr) (cb : Nat), v = env x A ca B cb ∧ x.Ok ∧ x.bun.length ≤ ca ∧ ca ≤ maxLen ∧ Rb w A x.bun ∧ x.cip.length ≤ cb ∧ cb ≤ maxLen ∧ Rb w B x.cip := by
  obtain ⟨cs, rfl, hsz⟩ := okWide_struct Tryz.underlying24 hv
  obtain ⟨l⟩ := cs
  obtain ⟨fuel, hf⟩ := h
  obtain ⟨hlen, n, hx⟩ := trod_fields Tryz.underlying24 hf
  simp only [Value.cells] at hx hlen
  simp only [List.forall_mem_cons] at hx
  obtain ⟨⟨y0, h0⟩, ⟨y1, h1⟩, ⟨y2, h2⟩, ⟨y3, h3⟩, ⟨y4, h4⟩, ⟨y5, h5⟩, ⟨y6, h6⟩, -⟩ := hx
  rw [cStr'] at h0 h1 h2 h3
  rw [cBool'] at h4
  rw [cByt'] at h5 h6
  rw [cEnv] at hlen
  obtain ⟨t0, e0, w0⟩ := str_cell h0
  obtain ⟨t1, e1, w1⟩ := str_cell h1
  obtain ⟨t2, e2, w2⟩ := str_cell h2
  obtain ⟨t3, e3, w3⟩ := str_cell h3
  obtain ⟨b4, e4, _⟩ := DataW.trod_bool Tryz.underlying4 h4
  obtain ⟨A, la, ca, ba, e5, k1, k2, k3, k4⟩ := bytes_cell h5
  obtain ⟨B, lb, cb, bb, e6, m1, m2, m3, m4⟩ := bytes_cell h6
  subst k1 m1
  have hend : l.drop 7 = [] := List.drop_eq_nil_of_le (by omega)
  have hl := chain e0 (chain e1 (chain e2 (chain e3 (chain e4 (chain e5 (chain e6 hend))))))
  rw [List.drop_zero] at hl
  refine ⟨⟨t0, t1, t2, t3, b4, ba, bb⟩, A, ca, B, cb, ?_, ⟨w0, w1, w2, w3⟩, k2, k3, k4, m2, m3, m4⟩
  rw [hl]
  rfl
end Go.Proofs.YtkllecicddfjpaaGreatDoor

namespace Go.Proofs.YtkllecicddfjpaaGreatDoor
set_option linter.unusedVariables false
set_option linter.unusedSimpArgs false

/-- is a text an address as it is told? -/
def adB (s : List UInt8) : Bool := match Tk.addrP s with | .ok a => a == s | .error _ => false
/-- what goes beside -/
def besP (x : En) : List UInt8 := x.fr ++ 10 :: (x.too ++ 10 :: (x.id ++ 10 :: (x.th ++ [10])))
theorem cut_one : ∀ {a b r s : List UInt8}, a ++ 10 :: r = b ++ 10 :: s → (10 : UInt8) ∉ a → (10 : UInt8) ∉ b → a = b ∧ r = s
  | [], [], r, s, h, _, _ => ⟨rfl, by simpa using h⟩
  | [], y :: b, r, s, h, _, h2 => by
    simp at h
    exact absurd (by simp [h.1]) h2
  | x :: a, [], r, s, h, h1, _ => by
    simp at h
    exact absurd (by simp [h.1]) h1
  | x :: a, y :: b, r, s, h, h1, h2 => by
    simp only [List.cons_append, List.cons.injEq] at h
    obtain ⟨e1, e2⟩ := cut_one h.2 (fun hm => h1 (by simp [hm])) (fun hm => h2 (by simp [hm]))
    exact ⟨by rw [h.1, e1], e2⟩
theorem ad_no10 {s : List UInt8} (h : adB s = true) : (10 : UInt8) ∉ s := by
  unfold adB at h
  cases ha : Tk.addrP s with
  | error k => rw [ha] at h; cases h
  | ok a =>
    rw [ha] at h
    obtain rfl : a = s := by simpa using h
    obtain ⟨x, y, rfl, hx, hy⟩ := Tk.addr_parts ha
    have key : ∀ z : List UInt8, Tk.dotP z = true → (10 : UInt8) ∉ z := by
      intro z hz hm
      have hz' : Tk.dotGo 46 z = true := by rw [Tk.dot_eq]; exact hz
      rcases Tk.dotGo_chars z 46 hz' 10 hm with h1 | h1
      · revert h1; decide
      · revert h1; decide
    intro hm
    rcases List.mem_append.1 hm with hm | hm
    · exact key x hx hm
    · rcases List.mem_cons.1 hm with hm | hm
      · revert hm; decide
      · have hs : Tk.dotP (y.map small) = true := by rw [Tk.dotP_small]; exact hy
        exact key _ hs hm
theorem id_no10 {s : List UInt8} (h : Pk.idOk s = true) : (10 : UInt8) ∉ s := by
  unfold Pk.idOk at h
  simp only [Bool.and_eq_true, List.all_eq_true] at h
  intro hm
  have := h.2 10 hm
  revert this
  decide
/-- may all four be? -/
def enB (x : En) : Bool := adB x.fr && adB x.too && Pk.idOk x.id && Pk.idOk x.th
theorem bes_one {x y : En} (hx : enB x = true) (hy : enB y = true) : (besP x == besP y) = (x.fr == y.fr && x.too == y.too && x.id == y.id && x.th == y.th) := by
  unfold enB at hx hy
  simp only [Bool.and_eq_true] at hx hy
  obtain ⟨⟨⟨x1, x2⟩, x3⟩, x4⟩ := hx
  obtain ⟨⟨⟨y1, y2⟩, y3⟩, y4⟩ := hy
  rw [Bool.eq_iff_iff]
  simp only [beq_iff_eq, Bool.and_eq_true]
  constructor
  · intro h
    unfold besP at h
    obtain ⟨e1, h⟩ := cut_one h (ad_no10 x1) (ad_no10 y1)
    obtain ⟨e2, h⟩ := cut_one h (ad_no10 x2) (ad_no10 y2)
    obtain ⟨e3, h⟩ := cut_one h (id_no10 x3) (id_no10 y3)
    obtain ⟨e4, _⟩ := cut_one h (id_no10 x4) (id_no10 y4)
    exact ⟨⟨⟨e1, e2⟩, e3⟩, e4⟩
  · rintro ⟨⟨⟨e1, e2⟩, e3⟩, e4⟩
    unfold besP
    rw [e1, e2, e3, e4]
end Go.Proofs.YtkllecicddfjpaaGreatDoor
