/- Whether a field has a name, as a test that is handed on; where the first one stands. · slices.DeleteFunc over fields of a name, in a row of the call's own. · slices.Clone, wherever the row lies; letter's Get, All, Drop. -/
import Derived.Test.YtfdkcgdanhlfkaaGreatDoorJ20
import Derived.Test.YtfdkcgdanhlfkaaGreatDoorJ24
import Derived.Test.YtfdkcgdanhlfkaaGreatDoorJ11
import Derived.Deep.RegionHeld3
import Derived.Deep.RegionHeld
namespace Go.Proofs.YtfdkcgdanhlfkaaGreatDoor
namespace Fd
set_option linter.unusedVariables false
set_option linter.unusedSimpArgs false
open Go.RowKit

theorem fsame2_any (a b : List UInt8) (w : World) (hT : Lib.Utf8Tabs 2 3 w) (hb : b.length ≤ 1000000000) :
    Calls Tryz.prog 87 #[.string (bs a), .string (bs b)] w fun e w' => e = .returned (.bool (sameN a b)) ∧ Below w.heap.size w w' := by
  by_cases hl : a.length = b.length
  · exact fsame_any a b w hT (by omega) hb
  · have hno := Lib.hid (sameN_len hl)
    have hbb : ((a.length : Int) != (b.length : Int)) = true := by rw [bne_iff_ne]; omega
    go_enter Tryz.func87, Tryz.ntmps87
    go_wp2_with fail
    go_ret
    exact ⟨ret_bool hno.out.symm, Below.refl _ _⟩

/-- the test of a name, whose box is block B -/
def hasV (B : Nat) : Value := .func (.func 86) #[] #[.pointer (some ⟨B, 0, none⟩)]
theorem named_any (nm : List UInt8) (w : World) :
    Calls Tryz.prog 55 #[.string (bs nm)] w fun e w' => e = .returned (hasV w.heap.size) ∧ w' = w.alloc (.cells #[.string (bs nm)] 9) := by
  go_enter Tryz.func55, Tryz.ntmps55
  go_wp2_with fail
  go_ret
  exact ⟨rfl, rfl⟩
theorem eg_named : ∀ args w, (callFunc 86 args).run Tryz.prog w = .ok (.enter 86 args) w := enters_of Tryz.func86 (by kernel_rfl) rfl
theorem named1_any (p : List UInt8 × List UInt8) (nm : List UInt8) (B : Nat) (w : World) (hT : Lib.Utf8Tabs 2 3 w) (hc : w.cell? ⟨B, 0, none⟩ = some (.string (bs nm))) (hn : nm.length ≤ 1000000000) :
    Calls Tryz.prog 86 #[.agg #[.string (bs p.1), .string (bs p.2)], .pointer (some ⟨B, 0, none⟩)] w fun e w' => e = .returned (.bool (sameN p.1 nm)) ∧ Below w.heap.size w w' := by
  have hA0 : Below w.heap.size w (w.alloc (.cells #[.string (bs p.1), .string (bs p.2)] 40)) := (Below.refl _ _).alloc (Nat.le_refl _) _
  have hc2 : (w.alloc (.cells #[.string (bs p.1), .string (bs p.2)] 40)).cell? ⟨B, 0, none⟩ = some (.string (bs nm)) := (hA0.cell (p := ⟨B, 0, none⟩) (cell_lt hc)).trans hc
  have hT2 := tabs_below hT hA0
  go_enter Tryz.func86, Tryz.ntmps86
  go_wp2_with fail
  refine (fsame2_any p.1 nm _ hT2 hn).mono ?_
  rintro e w2 ⟨rfl, hb2⟩
  go_wp2_with fail
  go_ret
  exact ⟨rfl, hA0.trans (hb2.mono hA0.size)⟩

/-- how many stand ahead of the first one of a name -/
def ahead (nm : List UInt8) (fs : List (List UInt8 × List UInt8)) : Nat := (fs.takeWhile fun p => !sameN p.1 nm).length
theorem ahead_hit {nm : List UInt8} {p : List UInt8 × List UInt8} : ∀ {fs : List (List UInt8 × List UInt8)} {k : Nat}, (∀ q ∈ fs.take k, sameN q.1 nm = false) → fs[k]? = some p → sameN p.1 nm = true → ahead nm fs = k
  | [], k, _, h, _ => by simp at h
  | q :: fs, 0, _, h, hs => by
    simp at h
    subst h
    simp [ahead, hs]
  | q :: fs, k + 1, ha, h, hs => by
    have h1 : sameN q.1 nm = false := ha q (by simp)
    have ih := ahead_hit (fs := fs) (k := k) (fun x hx => ha x (by simp [hx])) (by simpa using h) hs
    unfold ahead at ih ⊢
    simp [List.takeWhile_cons, h1, ih]
theorem ahead_none {nm : List UInt8} {fs : List (List UInt8 × List UInt8)} (h : ∀ q ∈ fs, sameN q.1 nm = false) : ahead nm fs = fs.length := by
  unfold ahead
  induction fs with
  | nil => rfl
  | cons q fs ih =>
    have h1 := h q (by simp)
    simp [List.takeWhile_cons, h1, ih (fun x hx => h x (by simp [hx]))]
theorem ahead_le (nm : List UInt8) (fs : List (List UInt8 × List UInt8)) : ahead nm fs ≤ fs.length := (List.takeWhile_sublist _).length_le
/-- the place, or -1 -/
def placeZ (nm : List UInt8) (fs : List (List UInt8 × List UInt8)) : Int := if ahead nm fs < fs.length then (ahead nm fs : Int) else -1

set_option maxRecDepth 100000 in
set_option maxHeartbeats 1000000 in
theorem index_any (A : Option Addr) (fs : List (List UInt8 × List UInt8)) (n c B : Nat) (nm : List UInt8) (w : World) (hn : fs.length = n) (hA : Rf w A fs) (hT : Lib.Utf8Tabs 2 3 w) (hc : w.cell? ⟨B, 0, none⟩ = some (.string (bs nm))) (hnm : nm.length ≤ 1000000000) (hb : n ≤ 1000000) :
    Calls Tryz.prog 54 #[.slice A n c, hasV B] w fun e w' => e = .returned (.int .i64 (placeZ nm fs)) ∧ Below w.heap.size w w' := by
  have HN := Lib.hid hn
  have eg := eg_named
  unfold hasV
  clear hn
  go_enter Tryz.func54, Tryz.ntmps54
  go_wp2_with fail
  go_loopw [8] (fun i wr => ∃ k : Nat, i = .int .i64 k ∧ k ≤ n ∧ Hid (∀ q ∈ fs.take k, sameN q.1 nm = false) ∧ Below w.heap.size w wr) (fun i _ => n - (intOf i).toNat)
  case atStart => exact ⟨0, rfl, by omega, Lib.hid (by simp), Below.refl _ _⟩
  case round =>
    obtain ⟨k, rfl, hk, ha, hB⟩ := hrel
    by_cases hlt : k < n
    · obtain ⟨b, o, p, rfl, hp, h0, h1⟩ := (hA.below hB).one (k := k) (by rw [HN.out]; exact hlt)
      have hcr : wr.cell? ⟨B, 0, none⟩ = some (.string (bs nm)) := (hB.cell (p := ⟨B, 0, none⟩) (cell_lt hc)).trans hc
      have hcall := named1_any p nm B wr (tabs_below hT hB) hcr hnm
      have hHit : sameN p.1 nm = true → Hid (placeZ nm fs = (k : Int)) := fun h => Lib.hid (by
        unfold placeZ
        rw [ahead_hit ha.out hp.out h, if_pos (lt_of_get hp.out)])
      have hMiss : sameN p.1 nm = false → Hid (∀ q ∈ fs.take (k + 1), sameN q.1 nm = false) := fun h => Lib.hid (by
        rw [take_succ_of hp.out]
        intro q hq
        rcases List.mem_append.1 hq with hq | hq
        · exact ha.out q hq
        · simp at hq
          rw [hq]
          exact h)
      cases hs : sameN p.1 nm with
      | true =>
        rw [hs] at hcall
        have HH := hHit hs
        clear hHit hMiss hs
        go_wp2_with fail
        refine hcall.mono ?_
        rintro e w2 ⟨rfl, hb2⟩
        go_wp2_with fail
        go_ret
        exact ⟨ret_int HH.out.symm, hB.trans (hb2.mono hB.size)⟩
      | false =>
        rw [hs] at hcall
        have HH := hMiss hs
        clear hHit hMiss hs
        go_wp2_with fail
        refine hcall.mono ?_
        rintro e w2 ⟨rfl, hb2⟩
        go_wp2_with fail
        go_roundw
        case rel => exact ⟨k + 1, by go_num, by omega, HH, hB.trans (hb2.mono hB.size)⟩
        case measure => simp [intOf]; omega
    · obtain rfl : k = n := by omega
      have hno : placeZ nm fs = -1 := by
        have h := ha.out
        rw [List.take_of_length_le (by rw [HN.out]; omega)] at h
        unfold placeZ
        rw [ahead_none h, if_neg (by omega)]
      have HNO := Lib.hid hno
      clear hno
      go_wp2_with fail
      go_ret
      exact ⟨ret_int HNO.out.symm, hB⟩
end Fd
end Go.Proofs.YtfdkcgdanhlfkaaGreatDoor

namespace Go.Proofs.YtfdkcgdanhlfkaaGreatDoor
namespace Fd
set_option linter.unusedVariables false
set_option linter.unusedSimpArgs false
open Go.RowKit

/-- the fields without those of a name -/
def keepF (nm : List UInt8) (fs : List (List UInt8 × List UInt8)) : List (List UInt8 × List UInt8) := fs.filter fun p => !sameN p.1 nm
theorem keepF_snoc (nm : List UInt8) (fs : List (List UInt8 × List UInt8)) (p : List UInt8 × List UInt8) : keepF nm (fs ++ [p]) = keepF nm fs ++ (if sameN p.1 nm then [] else [p]) := by
  unfold keepF
  rw [List.filter_append]
  cases h : sameN p.1 nm <;> simp [h]
theorem keepF_none {nm : List UInt8} {fs : List (List UInt8 × List UInt8)} (h : ahead nm fs = fs.length) : keepF nm fs = fs := by
  unfold keepF ahead at *
  rw [List.filter_eq_self]
  have e := (List.takeWhile_sublist (fun p : List UInt8 × List UInt8 => !sameN p.1 nm) (l := fs)).eq_of_length h
  intro p hp
  rw [← e] at hp
  exact List.all_eq_true.1 List.all_takeWhile p hp
theorem keepF_ahead (nm : List UInt8) (fs : List (List UInt8 × List UInt8)) : keepF nm (fs.take (ahead nm fs)) = fs.take (ahead nm fs) := by
  have h : fs.take (ahead nm fs) = fs.takeWhile fun p => !sameN p.1 nm := by
    unfold ahead
    exact (List.prefix_iff_eq_take.1 (List.takeWhile_prefix _)).symm
  rw [h]
  unfold keepF
  rw [List.filter_eq_self]
  intro p hp
  exact List.all_eq_true.1 List.all_takeWhile p hp
theorem keepF_at {nm : List UInt8} : ∀ {fs : List (List UInt8 × List UInt8)}, ahead nm fs < fs.length → ∃ p, fs[ahead nm fs]? = some p ∧ sameN p.1 nm = true
  | [], h => by simp at h
  | q :: fs, h => by
    cases hq : sameN q.1 nm with
    | true => exact ⟨q, by simp [ahead, hq], hq⟩
    | false =>
      have e : ahead nm (q :: fs) = ahead nm fs + 1 := by simp [ahead, List.takeWhile_cons, hq]
      rw [e] at h ⊢
      obtain ⟨p, hp, hs⟩ := keepF_at (fs := fs) (by simpa using h)
      exact ⟨p, by simpa using hp, hs⟩
theorem keepF_len (nm : List UInt8) (fs : List (List UInt8 × List UInt8)) : (keepF nm fs).length ≤ fs.length := List.length_filter_le _ _

/-- a row of the call's own, told by its block -/
theorem row_own {w : World} {N0 e g n c : Nat} {xs : List Value} (h : w.ownsRow N0 e 2 (.slice (some ⟨g, 0, none⟩) n c) n xs) : ∃ cs, Row w g e cs ∧ cs.length = c * 2 ∧ cs.take (n * 2) = xs ∧ N0 ≤ g ∧ n ≤ c ∧ c ≤ maxLen := by
  rcases h.2 with ⟨h1, _⟩ | ⟨g', cap, cur, h1, h2, h3, h4, h5, h6, h7⟩
  · cases h1
  · cases h1
    exact ⟨cur.toList, by unfold Row; rw [h3], by simpa using h6, h7, h2, h4, h5⟩
theorem own_row {w : World} {N0 e g n c : Nat} {cs xs : List Value} (h : Row w g e cs) (hl : cs.length = c * 2) (ht : cs.take (n * 2) = xs) (hN : N0 ≤ g) (hnc : n ≤ c) (hc : c ≤ maxLen) : w.ownsRow N0 e 2 (.slice (some ⟨g, 0, none⟩) n c) n xs :=
  ⟨by rw [← ht, List.length_take]; omega, .inr ⟨g, c, cs.toArray, rfl, hN, h, hnc, hc, by simpa using hl, by simpa using ht⟩⟩

/-- clear of a part of an own row -/
theorem run_clear_own {P : Program} {t e : TypeId} {z : Value} {size : Nat} (ht : P.underlying t = some (.slice e)) (hz : ∀ w, (zeroValue e).run P w = .ok z w) (hzs : z.cells.size = size) (h0 : 0 < size) (hz1 : ∀ v ∈ z.cells.toList, v.oneCell' = true)
    {w : World} {g : Nat} {cs : List Value} (h : Row w g e cs) (o m c : Nat) (hm : 0 < m) (hl : o + m * size ≤ cs.length) :
    ∃ zs : List Value, zs.length = m * size ∧ ∀ ty, (Builtin.clear_ #[t] ty #[.slice (some ⟨g, o, none⟩) m c]).run P w = .ok (.tuple #[]) (w.setRow g (cs.take o ++ zs ++ cs.drop (o + m * size)).toArray) := by
  refine ⟨(Builtin.zeroCells z.cells m).toList, by rw [Array.length_toList, size_zeroCells, hzs], fun ty => ?_⟩
  have hone : ∀ v ∈ (Builtin.zeroCells z.cells m).toList, v.oneCell' = true := by
    intro v hv
    simp only [Builtin.zeroCells, Array.toList_map, List.mem_map] at hv
    obtain ⟨i, _, rfl⟩ := hv
    have hi : i % z.cells.size < z.cells.size := Nat.mod_lt _ (by omega)
    rw [getElem!_pos z.cells _ hi]
    exact hz1 _ (by simp)
  have hlen : (Builtin.zeroCells z.cells m).toList.length = m * size := by rw [Array.length_toList, size_zeroCells, hzs]
  have hst := run_storeCells_at P g o e (Builtin.zeroCells z.cells m).toList 0 cs.toArray w h (by rw [hlen]; simpa using hl) hone
  simp only [Nat.add_zero, hlen, List.toList_toArray] at hst
  obtain ⟨k, rfl⟩ : ∃ k, m = k + 1 := ⟨m - 1, by omega⟩
  simp [Builtin.clear_, run_underlying ht, hz, hst]

theorem cs_take {cs : List Value} {fs : List (List UInt8 × List UInt8)} {n : Nat} (h : cs.take (n * 2) = fcells fs) (i : Nat) (hi : i ≤ n) : cs.take (i * 2) = fcells (fs.take i) := by
  have e : cs.take (i * 2) = (cs.take (n * 2)).take (i * 2) := by rw [List.take_take, Nat.min_eq_left (by omega)]
  rw [e, h]
  clear h e hi
  induction fs generalizing i with
  | nil => simp [fcells]
  | cons p fs ih =>
    match i with
    | 0 => simp [fcells]
    | i + 1 =>
      have := ih i
      have e : ∀ fs, fcells (p :: fs) = strv p.1 :: strv p.2 :: fcells fs := fun _ => rfl
      rw [e, show (i + 1) * 2 = i * 2 + 1 + 1 by omega, List.take_succ_cons, List.take_succ_cons, this, List.take_succ_cons, e]
theorem cs_get {cs : List Value} {fs : List (List UInt8 × List UInt8)} {n j : Nat} (h : cs.take (n * 2) = fcells fs) (hj : j < n * 2) : (fcells fs)[j]? = cs[j]? := by
  rw [← h, List.getElem?_take, if_pos hj]
theorem fcells_app (a b : List (List UInt8 × List UInt8)) : fcells (a ++ b) = fcells a ++ fcells b := by simp [fcells]
theorem set_two {ds : List Value} {k : Nat} {x y : Value} (h : k * 2 + 1 < ds.length) : ((ds.set (k * 2) x).set (k * 2 + 1) y).take ((k + 1) * 2) = ds.take (k * 2) ++ [x, y] := by
  apply List.ext_getElem?
  intro j
  rw [List.getElem?_take]
  by_cases h1 : j < k * 2
  · rw [if_pos (by omega), List.getElem?_set_ne (by omega), List.getElem?_set_ne (by omega), List.getElem?_append_left (by simp; omega), List.getElem?_take, if_pos h1]
  · rw [List.getElem?_append_right (by simp; omega)]
    have e : (ds.take (k * 2)).length = k * 2 := by simp; omega
    rw [e]
    by_cases h2 : j = k * 2
    · subst h2
      rw [if_pos (by omega), List.getElem?_set_ne (by omega), List.getElem?_set_self (by omega)]
      simp
    · by_cases h3 : j = k * 2 + 1
      · subst h3
        rw [if_pos (by omega), List.getElem?_set_self (by simp; omega)]
        simp
      · rw [if_neg (by omega), List.getElem?_eq_none (by simp; omega)]
/-- what is left: in the row's block -/
def DelOut (N0 : Nat) (v : Value) (ks : List (List UInt8 × List UInt8)) (w : World) (e : Ending) (w' : World) : Prop :=
  ∃ v', e = .returned v' ∧ w'.ownsRow N0 40 2 v' ks.length (fcells ks) ∧ w.grownBy w' v.ownBlock ∧ v'.ownBlock = v.ownBlock


end Fd
end Go.Proofs.YtfdkcgdanhlfkaaGreatDoor

namespace Go.Proofs.YtfdkcgdanhlfkaaGreatDoor
namespace Fd
set_option linter.unusedVariables false
set_option linter.unusedSimpArgs false
open Go.RowKit

/-- a copy in memory of its own -/
def ClOut (t : TypeId) (size n : Nat) (xs : List Value) (w : World) (e : Ending) (w' : World) : Prop := ∃ v, e = .returned v ∧ w'.ownsRow w.heap.size t size v n xs ∧ Below w.heap.size w w'

theorem strv_one (fs : List (List UInt8 × List UInt8)) : ∀ u ∈ fcells fs, u.oneCell' = true := by
  intro u hu
  unfold fcells at hu
  obtain ⟨p, _, hp⟩ := List.mem_flatMap.1 hu
  simp at hp
  rcases hp with rfl | rfl <;> rfl
theorem Src_rf {w : World} {A : Option Addr} {fs : List (List UInt8 × List UInt8)} {n c : Nat} (hn : fs.length = n) (h : Rf w A fs) : Src Tryz.prog 2 36 (.slice A n c) n (fcells fs) w :=
  Src_rv (e' := 40) Tryz.underlying36 (by rw [fcells_len, hn]) h (strv_one fs) (by omega)


set_option maxRecDepth 100000 in
set_option maxHeartbeats 400000 in
theorem cloneb_any (A : Option Addr) (l : List UInt8) (n c : Nat) (w : World) (hn : l.length = n) (hA : Rb w A l) (hb : n ≤ 1000000000) :
    Calls Tryz.prog 19 #[.slice A n c] w (ClOut 5 1 n (l.map bv) w) := by
  have hpu : ∀ W, Sem.run Tryz.prog (pure #[] : Sem (Array Value)) W = .ok #[] W := fun _ => rfl
  have hst : ∀ a W, Sem.run Tryz.prog (storeCells a []) W = .ok () W := fun _ _ => rfl
  have hq := fun (w : World) (a : Option Addr) (n c n' c' : Nat) => Lib.run_eql_slice_nil (P := Tryz.prog) w _ _ a n c n' c' Tryz.underlying22
  have hown0 := World.ownsRow_made (base := w.heap.size) (e := 5) (size := 1) w #[] 0 (Nat.le_refl _) (by unfold maxLen; omega) rfl
  have hB0 : Below w.heap.size w (w.alloc (.cells #[] 5)) := (Below.refl _ _).alloc (Nat.le_refl _) _
  rcases A with _ | a
  · have h0 : n = 0 ∨ 0 < n := by omega
    rcases h0 with h0 | h0
    · subst h0
      have hf : l = [] := List.eq_nil_of_length_eq_zero hn
      subst hf
      go_enter Tryz.func19, Tryz.ntmps19
      go_wp2_with fail
      go_ret
      exact ⟨_, rfl, World.ownsRow_nil _ _ _ _, Below.refl _ _⟩
    · obtain ⟨b, o, e, _⟩ := hA (by rw [List.length_map]; omega)
      cases e
  · have HN := Lib.hid hn
    clear hn
    go_enter Tryz.func19, Tryz.ntmps19
    go_wp2_with (at_builtin; refine wpList_app rfl _ _ _ _ rfl TU8 hown0 rfl (Src_rb Tryz.underlying22 HN.out (hA.below hB0)) rfl (by omega) hB0.size ?_; intro v6 w6 hown6 hgr6 hat6; have hB6 := below_app hB0 hown0 hgr6 hB0.size (Nat.le_refl _))
    go_ret
    exact ⟨_, rfl, by simpa using hown6, hB6⟩

theorem cell_far2 {w : World} {a b p : Addr} {u t v : Value} (h : w.cell? p = some v) (ha : a.block ≠ p.block) (hb : b.block ≠ p.block) : ((w.setCell a u).setCell b t).cell? p = some v := by
  rw [World.cell?_setCell_other _ _ _ _ (fun e => hb (by rw [e])), World.cell?_setCell_other _ _ _ _ (fun e => ha (by rw [e]))]
  exact h
/-- what Drop answers -/
def DropOut (nm : List UInt8) (fs : List (List UInt8 × List UInt8)) (bd : List UInt8) (w : World) (e : Ending) (w' : World) : Prop :=
  ∃ v1 v2, e = .returned (.agg #[v1, v2]) ∧ w'.ownsRow w.heap.size 40 2 v1 (keepF nm fs).length (fcells (keepF nm fs)) ∧ w'.ownsRow w.heap.size 5 1 v2 bd.length (bd.map bv) ∧ (v2.ownBlock = none ∨ v2.ownBlock ≠ v1.ownBlock) ∧ Below w.heap.size w w'


end Fd
end Go.Proofs.YtfdkcgdanhlfkaaGreatDoor
