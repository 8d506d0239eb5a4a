/- slices.DeleteFunc over fields of a name, in a row of the call's own. · slices.Clone, wherever the row lies; letter's Get, All, Drop. · letter's Get and All. -/
import Derived.Test.YtcagkoakbdbbaaaGreatDoorJ43
import Derived.Deep.RegionHeld3
import Derived.Deep.RegionHeld
namespace Go.Proofs.YtcagkoakbdbbaaaGreatDoor
namespace Fd
set_option linter.unusedVariables false
set_option linter.unusedSimpArgs false
open Go.RowKit

/-- the fields without those of a name -/
def keepF (nm : List UInt8) (fs : List (List UInt8 × List UInt8)) : List (List UInt8 × List UInt8) := fs.filter fun p => !sameN p.1 nm
theorem keepF_snoc (nm : List UInt8) (fs : List (List UInt8 × List UInt8)) (p : List UInt8 × List UInt8) : keepF nm (fs ++ [p]) = keepF nm fs ++ (if sameN p.1 nm then [] else [p]) := by
  unfold keepF
  rw [List.filter_append]
  cases h : sameN p.1 nm <;> simp [h]
theorem keepF_none {nm : List UInt8} {fs : List (List UInt8 × List UInt8)} (h : ahead nm fs = fs.length) : keepF nm fs = fs := by
  unfold keepF ahead at *
  rw [List.filter_eq_self]
  have e := (List.takeWhile_sublist (fun p : List UInt8 × List UInt8 => !sameN p.1 nm) (l := fs)).eq_of_length h
  intro p hp
  rw [← e] at hp
  exact List.all_eq_true.1 List.all_takeWhile p hp
theorem keepF_ahead (nm : List UInt8) (fs : List (List UInt8 × List UInt8)) : keepF nm (fs.take (ahead nm fs)) = fs.take (ahead nm fs) := by
  have h : fs.take (ahead nm fs) = fs.takeWhile fun p => !sameN p.1 nm := by
    unfold ahead
    exact (List.prefix_iff_eq_take.1 (List.takeWhile_prefix _)).symm
  rw [h]
  unfold keepF
  rw [List.filter_eq_self]
  intro p hp
  exact List.all_eq_true.1 List.all_takeWhile p hp
theorem keepF_at {nm : List UInt8} : ∀ {fs : List (List UInt8 × List UInt8)}, ahead nm fs < fs.length → ∃ p, fs[ahead nm fs]? = some p ∧ sameN p.1 nm = true
  | [], h => by simp at h
  | q :: fs, h => by
    cases hq : sameN q.1 nm with
    | true => exact ⟨q, by simp [ahead, hq], hq⟩
    | false =>
      have e : ahead nm (q :: fs) = ahead nm fs + 1 := by simp [ahead, List.takeWhile_cons, hq]
      rw [e] at h ⊢
      obtain ⟨p, hp, hs⟩ := keepF_at (fs := fs) (by simpa using h)
      exact ⟨p, by simpa using hp, hs⟩
theorem keepF_len (nm : List UInt8) (fs : List (List UInt8 × List UInt8)) : (keepF nm fs).length ≤ fs.length := List.length_filter_le _ _

/-- a row of the call's own, told by its block -/
theorem row_own {w : World} {N0 e g n c : Nat} {xs : List Value} (h : w.ownsRow N0 e 2 (.slice (some ⟨g, 0, none⟩) n c) n xs) : ∃ cs, Row w g e cs ∧ cs.length = c * 2 ∧ cs.take (n * 2) = xs ∧ N0 ≤ g ∧ n ≤ c ∧ c ≤ maxLen := by
  rcases h.2 with ⟨h1, _⟩ | ⟨g', cap, cur, h1, h2, h3, h4, h5, h6, h7⟩
  · cases h1
  · cases h1
    exact ⟨cur.toList, by unfold Row; rw [h3], by simpa using h6, h7, h2, h4, h5⟩
theorem own_row {w : World} {N0 e g n c : Nat} {cs xs : List Value} (h : Row w g e cs) (hl : cs.length = c * 2) (ht : cs.take (n * 2) = xs) (hN : N0 ≤ g) (hnc : n ≤ c) (hc : c ≤ maxLen) : w.ownsRow N0 e 2 (.slice (some ⟨g, 0, none⟩) n c) n xs :=
  ⟨by rw [← ht, List.length_take]; omega, .inr ⟨g, c, cs.toArray, rfl, hN, h, hnc, hc, by simpa using hl, by simpa using ht⟩⟩

/-- clear of a part of an own row -/
theorem run_clear_own {P : Program} {t e : TypeId} {z : Value} {size : Nat} (ht : P.underlying t = some (.slice e)) (hz : ∀ w, (zeroValue e).run P w = .ok z w) (hzs : z.cells.size = size) (h0 : 0 < size) (hz1 : ∀ v ∈ z.cells.toList, v.oneCell' = true)
    {w : World} {g : Nat} {cs : List Value} (h : Row w g e cs) (o m c : Nat) (hm : 0 < m) (hl : o + m * size ≤ cs.length) :
    ∃ zs : List Value, zs.length = m * size ∧ ∀ ty, (Builtin.clear_ #[t] ty #[.slice (some ⟨g, o, none⟩) m c]).run P w = .ok (.tuple #[]) (w.setRow g (cs.take o ++ zs ++ cs.drop (o + m * size)).toArray) := by
  refine ⟨(Builtin.zeroCells z.cells m).toList, by rw [Array.length_toList, size_zeroCells, hzs], fun ty => ?_⟩
  have hone : ∀ v ∈ (Builtin.zeroCells z.cells m).toList, v.oneCell' = true := by
    intro v hv
    simp only [Builtin.zeroCells, Array.toList_map, List.mem_map] at hv
    obtain ⟨i, _, rfl⟩ := hv
    have hi : i % z.cells.size < z.cells.size := Nat.mod_lt _ (by omega)
    rw [getElem!_pos z.cells _ hi]
    exact hz1 _ (by simp)
  have hlen : (Builtin.zeroCells z.cells m).toList.length = m * size := by rw [Array.length_toList, size_zeroCells, hzs]
  have hst := run_storeCells_at P g o e (Builtin.zeroCells z.cells m).toList 0 cs.toArray w h (by rw [hlen]; simpa using hl) hone
  simp only [Nat.add_zero, hlen, List.toList_toArray] at hst
  obtain ⟨k, rfl⟩ : ∃ k, m = k + 1 := ⟨m - 1, by omega⟩
  simp [Builtin.clear_, run_underlying ht, hz, hst]

theorem cs_take {cs : List Value} {fs : List (List UInt8 × List UInt8)} {n : Nat} (h : cs.take (n * 2) = fcells fs) (i : Nat) (hi : i ≤ n) : cs.take (i * 2) = fcells (fs.take i) := by
  have e : cs.take (i * 2) = (cs.take (n * 2)).take (i * 2) := by rw [List.take_take, Nat.min_eq_left (by omega)]
  rw [e, h]
  clear h e hi
  induction fs generalizing i with
  | nil => simp [fcells]
  | cons p fs ih =>
    match i with
    | 0 => simp [fcells]
    | i + 1 =>
      have := ih i
      have e : ∀ fs, fcells (p :: fs) = strv p.1 :: strv p.2 :: fcells fs := fun _ => rfl
      rw [e, show (i + 1) * 2 = i * 2 + 1 + 1 by omega, List.take_succ_cons, List.take_succ_cons, this, List.take_succ_cons, e]
theorem cs_get {cs : List Value} {fs : List (List UInt8 × List UInt8)} {n j : Nat} (h : cs.take (n * 2) = fcells fs) (hj : j < n * 2) : (fcells fs)[j]? = cs[j]? := by
  rw [← h, List.getElem?_take, if_pos hj]
theorem fcells_app (a b : List (List UInt8 × List UInt8)) : fcells (a ++ b) = fcells a ++ fcells b := by simp [fcells]
theorem set_two {ds : List Value} {k : Nat} {x y : Value} (h : k * 2 + 1 < ds.length) : ((ds.set (k * 2) x).set (k * 2 + 1) y).take ((k + 1) * 2) = ds.take (k * 2) ++ [x, y] := by
  apply List.ext_getElem?
  intro j
  rw [List.getElem?_take]
  by_cases h1 : j < k * 2
  · rw [if_pos (by omega), List.getElem?_set_ne (by omega), List.getElem?_set_ne (by omega), List.getElem?_append_left (by simp; omega), List.getElem?_take, if_pos h1]
  · rw [List.getElem?_append_right (by simp; omega)]
    have e : (ds.take (k * 2)).length = k * 2 := by simp; omega
    rw [e]
    by_cases h2 : j = k * 2
    · subst h2
      rw [if_pos (by omega), List.getElem?_set_ne (by omega), List.getElem?_set_self (by omega)]
      simp
    · by_cases h3 : j = k * 2 + 1
      · subst h3
        rw [if_pos (by omega), List.getElem?_set_self (by simp; omega)]
        simp
      · rw [if_neg (by omega), List.getElem?_eq_none (by simp; omega)]
/-- what is left: in the row's block -/
def DelOut (N0 : Nat) (v : Value) (ks : List (List UInt8 × List UInt8)) (w : World) (e : Ending) (w' : World) : Prop :=
  ∃ v', e = .returned v' ∧ w'.ownsRow N0 37 2 v' ks.length (fcells ks) ∧ w.grownBy w' v.ownBlock ∧ v'.ownBlock = v.ownBlock


end Fd
end Go.Proofs.YtcagkoakbdbbaaaGreatDoor

namespace Go.Proofs.YtcagkoakbdbbaaaGreatDoor
namespace Fd
set_option linter.unusedVariables false
set_option linter.unusedSimpArgs false
open Go.RowKit

/-- a copy in memory of its own -/
def ClOut (t : TypeId) (size n : Nat) (xs : List Value) (w : World) (e : Ending) (w' : World) : Prop := ∃ v, e = .returned v ∧ w'.ownsRow w.heap.size t size v n xs ∧ Below w.heap.size w w'

theorem strv_one (fs : List (List UInt8 × List UInt8)) : ∀ u ∈ fcells fs, u.oneCell' = true := by
  intro u hu
  unfold fcells at hu
  obtain ⟨p, _, hp⟩ := List.mem_flatMap.1 hu
  simp at hp
  rcases hp with rfl | rfl <;> rfl
theorem Src_rf {w : World} {A : Option Addr} {fs : List (List UInt8 × List UInt8)} {n c : Nat} (hn : fs.length = n) (h : Rf w A fs) : Src Tryz.prog 2 30 (.slice A n c) n (fcells fs) w :=
  Src_rv (e' := 37) Tryz.underlying30 (by rw [fcells_len, hn]) h (strv_one fs) (by omega)


set_option maxRecDepth 100000 in
set_option maxHeartbeats 400000 in
theorem cloneb_any (A : Option Addr) (l : List UInt8) (n c : Nat) (w : World) (hn : l.length = n) (hA : Rb w A l) (hb : n ≤ 1000000000) :
    Calls Tryz.prog 23 #[.slice A n c] w (ClOut 5 1 n (l.map bv) w) := by
  have hpu : ∀ W, Sem.run Tryz.prog (pure #[] : Sem (Array Value)) W = .ok #[] W := fun _ => rfl
  have hst : ∀ a W, Sem.run Tryz.prog (storeCells a []) W = .ok () W := fun _ _ => rfl
  have hq := fun (w : World) (a : Option Addr) (n c n' c' : Nat) => Lib.run_eql_slice_nil (P := Tryz.prog) w _ _ a n c n' c' Tryz.underlying22
  have hown0 := World.ownsRow_made (base := w.heap.size) (e := 5) (size := 1) w #[] 0 (Nat.le_refl _) (by unfold maxLen; omega) rfl
  have hB0 : Below w.heap.size w (w.alloc (.cells #[] 5)) := (Below.refl _ _).alloc (Nat.le_refl _) _
  rcases A with _ | a
  · have h0 : n = 0 ∨ 0 < n := by omega
    rcases h0 with h0 | h0
    · subst h0
      have hf : l = [] := List.eq_nil_of_length_eq_zero hn
      subst hf
      go_enter Tryz.func23, Tryz.ntmps23
      go_wp2_with fail
      go_ret
      exact ⟨_, rfl, World.ownsRow_nil _ _ _ _, Below.refl _ _⟩
    · obtain ⟨b, o, e, _⟩ := hA (by rw [List.length_map]; omega)
      cases e
  · have HN := Lib.hid hn
    clear hn
    go_enter Tryz.func23, Tryz.ntmps23
    go_wp2_with (at_builtin; refine wpList_app rfl _ _ _ _ rfl TU8 hown0 rfl (Src_rb Tryz.underlying22 HN.out (hA.below hB0)) rfl (by omega) hB0.size ?_; intro v6 w6 hown6 hgr6 hat6; have hB6 := below_app hB0 hown0 hgr6 hB0.size (Nat.le_refl _))
    go_ret
    exact ⟨_, rfl, by simpa using hown6, hB6⟩

theorem cell_far2 {w : World} {a b p : Addr} {u t v : Value} (h : w.cell? p = some v) (ha : a.block ≠ p.block) (hb : b.block ≠ p.block) : ((w.setCell a u).setCell b t).cell? p = some v := by
  rw [World.cell?_setCell_other _ _ _ _ (fun e => hb (by rw [e])), World.cell?_setCell_other _ _ _ _ (fun e => ha (by rw [e]))]
  exact h
/-- what Drop answers -/
def DropOut (nm : List UInt8) (fs : List (List UInt8 × List UInt8)) (bd : List UInt8) (w : World) (e : Ending) (w' : World) : Prop :=
  ∃ v1 v2, e = .returned (.agg #[v1, v2]) ∧ w'.ownsRow w.heap.size 37 2 v1 (keepF nm fs).length (fcells (keepF nm fs)) ∧ w'.ownsRow w.heap.size 5 1 v2 bd.length (bd.map bv) ∧ (v2.ownBlock = none ∨ v2.ownBlock ≠ v1.ownBlock) ∧ Below w.heap.size w w'


end Fd
end Go.Proofs.YtcagkoakbdbbaaaGreatDoor

namespace Go.Proofs.YtcagkoakbdbbaaaGreatDoor
namespace Fd
set_option linter.unusedVariables false
set_option linter.unusedSimpArgs false
open Go.RowKit

/-- the values of a name's fields -/
def valsN (nm : List UInt8) (fs : List (List UInt8 × List UInt8)) : List (List UInt8) := (fs.filter fun p => sameN p.1 nm).map Prod.snd
theorem valsN_snoc (nm : List UInt8) (fs : List (List UInt8 × List UInt8)) (p : List UInt8 × List UInt8) : valsN nm (fs ++ [p]) = valsN nm fs ++ (if sameN p.1 nm then [p.2] else []) := by
  unfold valsN
  rw [List.filter_append]
  cases h : sameN p.1 nm <;> simp [h]
theorem valsN_len (nm : List UInt8) (fs : List (List UInt8 × List UInt8)) : (valsN nm fs).length ≤ fs.length := by
  unfold valsN
  rw [List.length_map]
  exact List.length_filter_le _ _
theorem valsN_none {nm : List UInt8} {fs : List (List UInt8 × List UInt8)} (h : ahead nm fs = fs.length) : valsN nm fs = [] := by
  have h1 := keepF_none h
  unfold valsN keepF at *
  rw [List.map_eq_nil_iff, List.filter_eq_nil_iff]
  intro p hp
  rw [List.filter_eq_self] at h1
  have := h1 p hp
  simpa using this
theorem valsN_head {nm : List UInt8} : ∀ {fs : List (List UInt8 × List UInt8)} {p : List UInt8 × List UInt8}, fs[ahead nm fs]? = some p → (valsN nm fs).head? = some p.2
  | [], _, h => by simp at h
  | q :: fs, p, h => by
    cases hq : sameN q.1 nm with
    | true =>
      have e : ahead nm (q :: fs) = 0 := by simp [ahead, hq]
      rw [e] at h
      simp at h
      subst h
      simp [valsN, hq]
    | false =>
      have e : ahead nm (q :: fs) = ahead nm fs + 1 := by simp [ahead, List.takeWhile_cons, hq]
      rw [e] at h
      have := valsN_head (fs := fs) (p := p) (by simpa using h)
      unfold valsN at *
      rw [List.filter_cons_of_neg (by simp [hq])]
      exact this

/-- what Get answers -/
def GetOut (nm : List UInt8) (fs : List (List UInt8 × List UInt8)) (e : Ending) : Prop :=
  match (valsN nm fs).head? with
  | some v => e = .returned (.tuple #[.string (bs v), .bool true])
  | none => e = .returned (.tuple #[.string (bs []), .bool false])


/-- what All answers -/
def AllOut (nm : List UInt8) (fs : List (List UInt8 × List UInt8)) (w : World) (e : Ending) (w' : World) : Prop :=
  ∃ v, e = .returned v ∧ w'.ownsRow w.heap.size 9 1 v (valsN nm fs).length ((valsN nm fs).map strv) ∧ Below w.heap.size w w'

set_option maxRecDepth 100000 in
set_option maxHeartbeats 2000000 in
theorem all_any (A A2 : Option Addr) (fs : List (List UInt8 × List UInt8)) (nm : List UInt8) (n c n2 c2 : Nat) (w : World) (hn : fs.length = n) (hA : Rf w A fs)
    (hT : Lib.Utf8Tabs 3 4 w) (hnm : nm.length ≤ 1000000000) (hb : n ≤ 1000000) :
    Calls Tryz.prog 12 #[.agg #[.slice A n c, .slice A2 n2 c2], .string (bs nm)] w (AllOut nm fs w) := by
  have HN := Lib.hid hn
  clear hn
  go_enter Tryz.func12, Tryz.ntmps12
  go_wp2_with fail
  have hnd := fun w => named_any nm w
  unfold hasV at hnd
  refine (hnd _).mono ?_
  rintro e w1 ⟨rfl, rfl⟩
  have hB0 : Below w.heap.size w ((w.alloc (.cells #[.slice A n c, .slice A2 n2 c2] 32)).alloc (.cells #[.string (bs nm)] 9)) := ((Below.refl _ _).alloc (Nat.le_refl _) _).alloc (by simp) _
  have c10 : ((w.alloc (.cells #[.slice A n c, .slice A2 n2 c2] 32)).alloc (.cells #[.string (bs nm)] 9)).cell? ⟨w.heap.size + 1, 0, none⟩ = some (.string (bs nm)) := by
    simp
  have c00 : ((w.alloc (.cells #[.slice A n c, .slice A2 n2 c2] 32)).alloc (.cells #[.string (bs nm)] 9)).cell? ⟨w.heap.size, 0, none⟩ = some (.slice A n c) := by
    simp
  have eg := eg_named
  have hs0 := hB0.size
  clear hnd
  generalize (w.alloc (.cells #[.slice A n c, .slice A2 n2 c2] 32)).alloc (.cells #[.string (bs nm)] 9) = W0 at *
  go_wp2_with fail
  go_loopw [4, 13] (fun v i wr => ∃ k M : Nat, i = .int .i64 k ∧ k ≤ n ∧ M ≤ k ∧ Hid ((valsN nm (fs.take k)).length = M) ∧ wr.ownsRow W0.heap.size 9 1 v M ((valsN nm (fs.take k)).map strv) ∧ Below W0.heap.size W0 wr) (fun _ i _ => n - (intOf i).toNat)
  case atStart => exact ⟨0, 0, rfl, by omega, by omega, Lib.hid rfl, World.ownsRow_nil _ _ _ _, Below.refl _ _⟩
  case round =>
    obtain ⟨k, M, rfl, hk, hM, hml, hown, hC⟩ := hrel
    have hB := hB0.trans (hC.mono hs0)
    have hs1 := hB.size
    have hsC := hC.size
    have hcr := (hC.cell (p := ⟨w.heap.size + 1, 0, none⟩) (cell_lt c10)).trans c10
    by_cases hlt : k < n
    · obtain ⟨b, o, p, rfl, hp, g0, g1⟩ := (hA.below hB).one (k := k) (by rw [HN.out]; exact hlt)
      have hAl : Below wr.heap.size wr (wr.alloc (.cells #[.string (bs p.1), .string (bs p.2)] 37)) := (Below.refl _ _).alloc (Nat.le_refl _) _
      have hcall := named1_any p nm (w.heap.size + 1) (wr.alloc (.cells #[.string (bs p.1), .string (bs p.2)] 37)) (tabs_below hT (hB.trans (hAl.mono hs1))) ((hAl.cell (p := ⟨w.heap.size + 1, 0, none⟩) (cell_lt hcr)).trans hcr) hnm
      have hst := valsN_snoc nm (fs.take k) p
      rw [← take_succ_of hp.out] at hst
      cases hs : sameN p.1 nm with
      | false =>
        rw [hs] at hcall hst
        simp only [Bool.false_eq_true, if_false, List.append_nil] at hst
        have HST := Lib.hid hst
        clear hs hst
        go_wp2_with fail
        refine hcall.mono ?_
        rintro e w2 ⟨rfl, hb2⟩
        have hC2 : Below wr.heap.size wr w2 := hAl.trans (hb2.mono (by simp))
        have hown2 := own_below hown hC2
        have hB2 := hC.trans (hC2.mono hsC)
        go_wp2_with fail
        go_roundw
        case rel => exact ⟨k + 1, M, by go_num, by omega, by omega, Lib.hid (by rw [HST.out]; exact hml.out), by rw [HST.out]; exact hown2, hB2⟩
        case measure => simp [intOf]; omega
      | true =>
        rw [hs] at hcall hst
        simp only [if_true] at hst
        have HST := Lib.hid hst
        clear hs hst
        go_wp2_with fail
        refine hcall.mono ?_
        rintro e w2 ⟨rfl, hb2⟩
        have hC2 : Below wr.heap.size wr w2 := hAl.trans (hb2.mono (by simp))
        have v1 : w2.cell? ⟨wr.heap.size, 1, none⟩ = some (.string (bs p.2)) := (hb2.cell (p := ⟨wr.heap.size, 1, none⟩) (by simp)).trans (by simp)
        have hown2 := own_below hown hC2
        have hB2 := hC.trans (hC2.mono hsC)
        have hs2 := hB2.size
        go_wp2_with (at_builtin; refine wpList_app rfl (.tmp 20) (.tmp 23) _ _ rfl TStr (hown2.alloc (.cells #[strv p.2] 9)) rfl (Src_rv (news := [strv p.2]) Tryz.underlying40 rfl (Rv_new w2 _ _ _ rfl) (by simp [Value.oneCell', strv]) (by omega)) rfl (by omega) (by simp; omega) ?_; intro v6 w6 hown6 hgr6 hat6; have hB6 := below_app (hB2.alloc hs2 (.cells #[strv p.2] 9)) (hown2.alloc _) hgr6 (by simp; omega) (Nat.le_refl _))
        go_roundw
        case rel => exact ⟨k + 1, M + 1, by go_num, by omega, by omega, Lib.hid (by rw [HST.out, List.length_append, hml.out]; rfl), by rw [HST.out, List.map_append]; exact hown6, hB6⟩
        case measure => simp [intOf]; omega
    · obtain rfl : k = n := by omega
      have hfa : fs.take k = fs := List.take_of_length_le (by rw [HN.out]; omega)
      rw [hfa] at hown hml
      have HML := hml
      clear hfa
      go_wp2_with fail
      go_ret
      exact ⟨_, rfl, by rw [HML.out]; exact own_base hown hs0, hB⟩
end Fd
end Go.Proofs.YtcagkoakbdbbaaaGreatDoor
