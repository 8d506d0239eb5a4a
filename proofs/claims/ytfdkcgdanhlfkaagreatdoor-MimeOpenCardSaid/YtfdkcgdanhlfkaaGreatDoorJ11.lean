/- Whether a text may be a boundary: the program's Boundary, told whole. · A made row, told by its block: its cells, and stores into it. Nothing of the program. -/
import Derived.Test.YtfdkcgdanhlfkaaGreatDoorJ10
import Derived.Test.YtfdkcgdanhlfkaaGreatDoorJ05
namespace Go.Proofs.YtfdkcgdanhlfkaaGreatDoor
set_option linter.unusedVariables false
set_option linter.unusedSimpArgs false
open Go.RowKit

/-- a rune that a boundary may have -/
def bdR (R : Nat) : Bool := decide (97 ≤ R ∧ R ≤ 122) || decide (65 ≤ R ∧ R ≤ 90) || decide (48 ≤ R ∧ R ≤ 57) || (decide (R < 128) && sgn.contains (UInt8.ofNat R))
theorem bdR_c (c : UInt8) : bdR c.toNat = bdC c := by
  unfold bdR bdC
  have h : (decide (c.toNat < 128) && sgn.contains (UInt8.ofNat c.toNat)) = sgn.contains c := by
    rw [UInt8.ofNat_toNat]
    by_cases hc : c.toNat < 128
    · rw [decide_eq_true hc]; rfl
    · rw [decide_eq_false hc]
      symm
      rw [Bool.false_and, Bool.eq_false_iff]
      intro h
      exact hc (sgn_ascii c (by simpa using h))
  rw [h]
  simp only [UInt8.le_iff_toNat_le, sgn]
  simp [Bool.decide_and]
theorem bdR_big {R : Nat} (h : 128 ≤ R) : bdR R = false := by
  unfold bdR
  simp
  omega

theorem decode_big (s : ByteArray) (pos : Nat) (h : pos < s.size) (hb : 128 ≤ (s[pos]'h).toNat) : 128 ≤ (Utf8.decode s pos).1 := by
  have e : s.get! (pos + 0) = s[pos]'h := by
    show s.get! pos = _
    simp [ByteArray.get!, getElem!_pos, h]
    rfl
  unfold Utf8.decode
  simp only [e]
  rw [if_neg (by omega)]
  repeat' split
  all_goals first | decide | (simp_all; omega) | simp_all
theorem idx_all (l : List UInt8) : ∀ (f pos : Nat), l.length ≤ pos + f → (0 ≤ Lib.idxFuncFrom (fun R => !bdR R) true (bs l) f pos ↔ (l.drop pos).all bdC = false)
  | 0, pos, h => by
    have : l.drop pos = [] := List.drop_of_length_le (by omega)
    rw [this]
    simp [Lib.idxFuncFrom]
  | f + 1, pos, h => by
    unfold Lib.idxFuncFrom
    rw [bs_size]
    by_cases hp : pos < l.length
    · rw [if_pos hp]
      have hp2 : pos < (bs l).size := by rw [bs_size]; exact hp
      have hc : (bs l)[pos]'hp2 = l[pos] := bs_at pos hp2
      have hd : l.drop pos = l[pos] :: l.drop (pos + 1) := (List.getElem_cons_drop hp).symm
      rw [hd, List.all_cons]
      by_cases ha : (l[pos]).toNat < 128
      · rw [decode_ascii (bs l) pos hp2 (by rw [hc]; exact ha), hc]
        simp only [bdR_c]
        cases hb : bdC l[pos] with
        | true =>
          rw [if_neg (by simp), Bool.true_and]
          exact idx_all l f (pos + 1) (by omega)
        | false => simp
      · have h2 := decode_big (bs l) pos hp2 (by rw [hc]; omega)
        rw [bdR_big h2]
        have h3 : bdC l[pos] = false := by rw [← bdR_c]; exact bdR_big (by omega)
        rw [h3]
        simp
    · rw [if_neg hp]
      have : l.drop pos = [] := List.drop_of_length_le (by omega)
      rw [this]
      simp
theorem idx_bd (l : List UInt8) : decide (0 ≤ Lib.idxFunc (fun R => !bdR R) true (bs l)) = !l.all bdC := by
  have h := idx_all l (bs l).size 0 (by rw [bs_size]; omega)
  rw [List.drop_zero] at h
  unfold Lib.idxFunc
  cases hb : l.all bdC with
  | true =>
    rw [hb] at h
    rw [decide_eq_false (fun h2 => by have := h.1 h2; cases this)]
    rfl
  | false =>
    rw [decide_eq_true (h.2 hb)]
    rfl

set_option maxHeartbeats 1000000 in
theorem crune_any (R : Nat) (hR : R ≤ 1114111) (w : World) :
    Calls Tryz.prog 22 #[.string (bs sgn), .int .i32 (R : Int)] w fun e w' => e = .returned (.bool (decide (R < 128) && sgn.contains (UInt8.ofNat R))) ∧ Below w.heap.size w w' := by
  by_cases h : R < 128
  · refine (Tryz.strings_ContainsRune_ascii (bs sgn) (R : Int) w (by omega) (by omega)).mono ?_
    rintro e w' ⟨rfl, rfl⟩
    refine ⟨ret_bool ?_, Below.refl _ _⟩
    have e2 : ((R : Int)).toNat.toUInt8 = UInt8.ofNat R := rfl
    rw [bs_toList, e2, decide_eq_true h, Bool.true_and]
    by_cases hm : UInt8.ofNat R ∈ sgn
    · rw [decide_eq_true (indexByte_nonneg hm)]
      exact (List.contains_iff_mem.2 hm).symm
    · rw [indexByte_absent hm]
      have : sgn.contains (UInt8.ofNat R) = false := by
        rw [Bool.eq_false_iff]
        exact fun h => hm (List.contains_iff_mem.1 h)
      rw [this]
      rfl
  · have hno : Calls Tryz.prog 33 #[.string (bs sgn), .int .i32 (R : Int)] w fun e w' => e = .returned (.int .i64 (-1)) ∧ Below w.heap.size w w' := by
      by_cases he : R = 65533
      · subst he
        exact indexRune_err w
      · exact indexRune_no (R : Int) (by omega) (by omega) (by omega) w
    have hd := Lib.hid (decide_eq_false h)
    clear h
    go_enter Tryz.func22, Tryz.ntmps22
    go_wp2_with fail
    refine hno.mono ?_
    rintro e w' ⟨rfl, hb⟩
    go_wp2_with fail
    go_ret
    exact ⟨ret_bool (by rw [hd.out]; rfl), hb⟩

set_option maxHeartbeats 2000000 in
theorem bad_any (R : Nat) (hR : R ≤ 1114111) (w : World) :
    Calls Tryz.prog 21 #[.int .i32 (R : Int)] w fun e w' => e = .returned (.bool (!bdR R)) ∧ Below w.heap.size w w' := by
  have hc := fun W => crune_any R hR W
  obtain ⟨q, hq⟩ : ∃ q, (decide (R < 128) && sgn.contains (UInt8.ofNat R)) = q := ⟨_, rfl⟩
  have hbd : Hid (bdR R = (decide (97 ≤ R ∧ R ≤ 122) || decide (65 ≤ R ∧ R ≤ 90) || decide (48 ≤ R ∧ R ≤ 57) || q)) := Lib.hid (by rw [← hq]; rfl)
  rw [hq] at hc
  have hs : ∀ W, Calls Tryz.prog 22 #[.string ⟨#[39, 40, 41, 43, 95, 44, 45, 46, 47, 58, 61, 63]⟩, .int .i32 (R : Int)] W fun e w' => e = .returned (.bool q) ∧ Below W.heap.size W w' := hc
  clear hc hq
  have h0 : (0 : Int) ≤ R := by omega
  rcases (by omega : R < 48 ∨ (48 ≤ R ∧ R ≤ 57) ∨ (57 < R ∧ R < 65) ∨ (65 ≤ R ∧ R ≤ 90) ∨ (90 < R ∧ R < 97) ∨ (97 ≤ R ∧ R ≤ 122) ∨ 122 < R) with h | h | h | h | h | h | h
  all_goals
    go_enter Tryz.func21, Tryz.ntmps21
    go_wp2_with ((with_reducible refine (hs _).mono ?_); rintro e w1 ⟨rfl, hb1⟩)
    go_ret
    refine ⟨ret_bool ?_, ?_⟩
    · rw [hbd.out]
      first
        | (have k1 : 97 ≤ R ∧ R ≤ 122 := by omega
           rw [decide_eq_true k1]; rfl)
        | (have k1 : 65 ≤ R ∧ R ≤ 90 := by omega
           rw [decide_eq_true k1, Bool.or_true]; rfl)
        | (have k1 : 48 ≤ R ∧ R ≤ 57 := by omega
           rw [decide_eq_true k1, Bool.or_true]; rfl)
        | (have k1 : ¬ (97 ≤ R ∧ R ≤ 122) := by omega
           have k2 : ¬ (65 ≤ R ∧ R ≤ 90) := by omega
           have k3 : ¬ (48 ≤ R ∧ R ≤ 57) := by omega
           rw [decide_eq_false k1, decide_eq_false k2, decide_eq_false k3]; cases q <;> first | rfl | (simp; done) | (simp; omega))
    · first
        | exact hb1
        | exact Below.refl _ _
theorem eg_bad : ∀ args w, (callFunc 21 args).run Tryz.prog w = .ok (.enter 21 args) w := enters_of Tryz.func21 (by kernel_rfl) rfl

set_option maxHeartbeats 2000000 in
theorem boundary_any (l : List UInt8) (w : World) (hb : l.length ≤ 1000000000) :
    Calls Tryz.prog 10 #[.string (bs l)] w fun e w' => e = .returned (.bool (bdOk l)) ∧ Below w.heap.size w w' := by
  have hf := Tryz.strings_ContainsFunc_grows 21 #[] eg_bad (fun R => !bdR R) (bs l) w (fun W x hx _ => bad_any x hx W)
  rw [idx_bd] at hf
  obtain ⟨q, hq⟩ : ∃ q, l.all bdC = q := ⟨_, rfl⟩
  have hbd : Hid (bdOk l = (decide (1 ≤ l.length) && decide (l.length ≤ 70) && q)) := Lib.hid (by rw [← hq]; rfl)
  rw [hq] at hf
  clear hq
  obtain ⟨n, hn⟩ : ∃ n, l.length = n := ⟨_, rfl⟩
  have HN := Lib.hid hn
  rcases (by omega : n = 0 ∨ (1 ≤ n ∧ n ≤ 70) ∨ 70 < n) with h | h | h
  · subst h
    go_enter Tryz.func10, Tryz.ntmps10
    go_wp2_with fail
    go_ret
    exact ⟨ret_bool (by rw [hbd.out, HN.out]; rfl), Below.refl _ _⟩
  · obtain ⟨h1, h2⟩ := h
    go_enter Tryz.func10, Tryz.ntmps10
    go_wp2_with fail
    refine hf.mono ?_
    rintro e w1 ⟨rfl, hb1⟩
    go_wp2_with fail
    go_ret
    exact ⟨ret_bool (by rw [hbd.out, HN.out, decide_eq_true h1, decide_eq_true h2]; cases q <;> rfl), hb1⟩
  · go_enter Tryz.func10, Tryz.ntmps10
    go_wp2_with fail
    go_ret
    exact ⟨ret_bool (by rw [hbd.out, HN.out, decide_eq_false (p := n ≤ 70) (by omega), Bool.and_false]; rfl), Below.refl _ _⟩
end Go.Proofs.YtfdkcgdanhlfkaaGreatDoor

namespace Go.Proofs.YtfdkcgdanhlfkaaGreatDoor
set_option linter.unusedVariables false
set_option linter.unusedSimpArgs false
open Go.RowKit

/-- the block g is the call's own row of these cells -/
def Row (w : World) (g : Nat) (e : TypeId) (cs : List Value) : Prop := w.heap[g]? = some (.cells cs.toArray e (0, 0))
section
variable {w w' : World} {g : Nat} {e : TypeId} {cs : List Value}
theorem Row.lt (h : Row w g e cs) : g < w.heap.size := (Array.getElem?_eq_some_iff.1 h).1
theorem Row.cell (h : Row w g e cs) {j : Nat} {v : Value} (hv : cs[j]? = some v) : w.cell? ⟨g, j, none⟩ = some v := by
  simp only [World.cell?, show w.heap[g]? = _ from h]
  simpa using hv
theorem Row.frozen (h : Row w g e cs) (j : Nat) : w.frozen? ⟨g, j, none⟩ = false := frozen_of_row w g j _ e h
theorem Row.block (h : Row w g e cs) (hb : w'.heap[g]? = w.heap[g]?) : Row w' g e cs := hb.trans h
theorem Row.below (h : Row w g e cs) (hb : Below w.heap.size w w') : Row w' g e cs := h.block (hb.block _ h.lt)
theorem Row.new (w : World) (X : Array Value) (e : TypeId) : Row (w.alloc (.cells X e)) w.heap.size e X.toList := by
  unfold Row
  simpa using World.alloc_heap_new w (.cells X e)
theorem Row.alloc (h : Row w g e cs) (o : Obj) : Row (w.alloc o) g e cs := h.block (Below.heap_alloc w o g h.lt)
theorem Row.set (h : Row w g e cs) (j : Nat) (v : Value) : Row (w.setCell ⟨g, j, none⟩ v) g e (cs.set j v) := by
  obtain ⟨hlt, hk⟩ := Array.getElem?_eq_some_iff.1 h
  show (w.heap.modify g _)[g]? = _
  rw [Array.getElem?_eq_getElem (by rw [Array.size_modify]; exact hlt), Array.getElem_modify_self, hk]
  simp [Array.setIfInBounds_def]
  exact fun h => (List.set_eq_of_length_le h).symm
theorem Row.far (h : Row w g e cs) {a : Addr} (ha : a.block ≠ g) (v : Value) : Row (w.setCell a v) g e cs := h.block (Below.heap_setCell w a v g (fun e => ha e.symm))
/-- a slice of integers that came in -/
theorem Ri_row {k : IntKind} {w : World} {a : Option Addr} {len cap : Nat} {zs : List Int} (h : (a = none ∧ len = 0 ∧ cap = 0 ∧ zs = []) ∨
    ∃ x, a = some x ∧ len ≤ cap ∧ cap ≤ maxLen ∧ zs.length = cap ∧ (∀ i, i < zs.length → w.cell? (x.add i) = some (.int k (zs.getD i 0))) ∧ ∀ n ∈ zs, (Lit.int k n).wf = true) :
    ∃ l : List Int, l.length = len ∧ len ≤ cap ∧ cap ≤ maxLen ∧ Rv w a (l.map (Value.int k)) ∧ ∀ n ∈ l, (Lit.int k n).wf = true := by
  rcases h with ⟨rfl, rfl, rfl, rfl⟩ | ⟨x, rfl, h1, h2, h3, hc, hw⟩
  · exact ⟨[], rfl, Nat.le_refl _, by unfold maxLen; omega, Rv.nil _ _, by simp⟩
  · refine ⟨zs.take len, by simp; omega, h1, h2, fun hp => ?_, fun n hn => hw n (List.mem_of_mem_take hn)⟩
    have hp' : 0 < zs.length := by simp at hp; omega
    have h0 := hc 0 hp'
    have hx0 : x.add 0 = x := by unfold Addr.add; simp
    rw [hx0] at h0
    have hs := Addr_spot h0
    obtain ⟨b, o, s⟩ := x
    simp only at hs
    subst hs
    refine ⟨b, o, rfl, fun j v hj => ?_⟩
    have hjl := lt_of_get hj
    simp only [List.length_map, List.length_take] at hjl
    have hplain : (⟨b, o, none⟩ : Addr).add j = ⟨b, o + j, none⟩ := by unfold Addr.add; split <;> simp_all
    have hcj := hc j (by omega)
    rw [hplain] at hcj
    rw [hcj, ← hj]
    simp [List.getElem?_take, show j < len by omega, List.getElem?_eq_getElem (show j < zs.length by omega), List.getD]
theorem set_at {α : Type} (ds rs : List α) (x v : α) : (ds ++ x :: rs).set ds.length v = (ds ++ [v]) ++ rs := by
  rw [List.set_append_right _ _ (Nat.le_refl _)]
  simp
theorem set_step {α β : Type} (f : α → β) {sp : List α} {k : Nat} {p : α} {X : List β} (hp : sp[k]? = some p) (hX : X.length = sp.length) :
    ((sp.take k).map f ++ X.drop k).set k (f p) = (sp.take (k + 1)).map f ++ X.drop (k + 1) := by
  have hk := lt_of_get hp
  rw [take_succ_of hp, List.map_append, List.drop_eq_getElem_cons (by omega : k < X.length)]
  have hl : ((sp.take k).map f).length = k := by simp; omega
  have := set_at ((sp.take k).map f) (X.drop (k + 1)) X[k] (f p)
  rw [hl] at this
  exact this
end
end Go.Proofs.YtfdkcgdanhlfkaaGreatDoor
