/- slices.DeleteFunc over fields of a name, in a row of the call's own. · slices.Clone, wherever the row lies; letter's Get, All, Drop. · The fields of a head: Read. · The statements of layer 9: speaks. -/
import Derived.Test.YtkllecicddfjpaaGreatDoorJ20
import Derived.Deep.RegionHeld3
import Derived.Deep.RegionHeld
namespace Go.Proofs.YtkllecicddfjpaaGreatDoor
namespace Fd
set_option linter.unusedVariables false
set_option linter.unusedSimpArgs false
open Go.RowKit

/-- the fields without those of a name -/
def keepF (nm : List UInt8) (fs : List (List UInt8 × List UInt8)) : List (List UInt8 × List UInt8) := fs.filter fun p => !sameN p.1 nm
theorem keepF_snoc (nm : List UInt8) (fs : List (List UInt8 × List UInt8)) (p : List UInt8 × List UInt8) : keepF nm (fs ++ [p]) = keepF nm fs ++ (if sameN p.1 nm then [] else [p]) := by
  unfold keepF
  rw [List.filter_append]
  cases h : sameN p.1 nm <;> simp [h]
theorem keepF_none {nm : List UInt8} {fs : List (List UInt8 × List UInt8)} (h : ahead nm fs = fs.length) : keepF nm fs = fs := by
  unfold keepF ahead at *
  rw [List.filter_eq_self]
  have e := (List.takeWhile_sublist (fun p : List UInt8 × List UInt8 => !sameN p.1 nm) (l := fs)).eq_of_length h
  intro p hp
  rw [← e] at hp
  exact List.all_eq_true.1 List.all_takeWhile p hp
theorem keepF_ahead (nm : List UInt8) (fs : List (List UInt8 × List UInt8)) : keepF nm (fs.take (ahead nm fs)) = fs.take (ahead nm fs) := by
  have h : fs.take (ahead nm fs) = fs.takeWhile fun p => !sameN p.1 nm := by
    unfold ahead
    exact (List.prefix_iff_eq_take.1 (List.takeWhile_prefix _)).symm
  rw [h]
  unfold keepF
  rw [List.filter_eq_self]
  intro p hp
  exact List.all_eq_true.1 List.all_takeWhile p hp
theorem keepF_at {nm : List UInt8} : ∀ {fs : List (List UInt8 × List UInt8)}, ahead nm fs < fs.length → ∃ p, fs[ahead nm fs]? = some p ∧ sameN p.1 nm = true
  | [], h => by simp at h
  | q :: fs, h => by
    cases hq : sameN q.1 nm with
    | true => exact ⟨q, by simp [ahead, hq], hq⟩
    | false =>
      have e : ahead nm (q :: fs) = ahead nm fs + 1 := by simp [ahead, List.takeWhile_cons, hq]
      rw [e] at h ⊢
      obtain ⟨p, hp, hs⟩ := keepF_at (fs := fs) (by simpa using h)
      exact ⟨p, by simpa using hp, hs⟩
theorem keepF_len (nm : List UInt8) (fs : List (List UInt8 × List UInt8)) : (keepF nm fs).length ≤ fs.length := List.length_filter_le _ _

/-- a row of the call's own, told by its block -/
theorem row_own {w : World} {N0 e g n c : Nat} {xs : List Value} (h : w.ownsRow N0 e 2 (.slice (some ⟨g, 0, none⟩) n c) n xs) : ∃ cs, Row w g e cs ∧ cs.length = c * 2 ∧ cs.take (n * 2) = xs ∧ N0 ≤ g ∧ n ≤ c ∧ c ≤ maxLen := by
  rcases h.2 with ⟨h1, _⟩ | ⟨g', cap, cur, h1, h2, h3, h4, h5, h6, h7⟩
  · cases h1
  · cases h1
    exact ⟨cur.toList, by unfold Row; rw [h3], by simpa using h6, h7, h2, h4, h5⟩
theorem own_row {w : World} {N0 e g n c : Nat} {cs xs : List Value} (h : Row w g e cs) (hl : cs.length = c * 2) (ht : cs.take (n * 2) = xs) (hN : N0 ≤ g) (hnc : n ≤ c) (hc : c ≤ maxLen) : w.ownsRow N0 e 2 (.slice (some ⟨g, 0, none⟩) n c) n xs :=
  ⟨by rw [← ht, List.length_take]; omega, .inr ⟨g, c, cs.toArray, rfl, hN, h, hnc, hc, by simpa using hl, by simpa using ht⟩⟩

/-- clear of a part of an own row -/
theorem run_clear_own {P : Program} {t e : TypeId} {z : Value} {size : Nat} (ht : P.underlying t = some (.slice e)) (hz : ∀ w, (zeroValue e).run P w = .ok z w) (hzs : z.cells.size = size) (h0 : 0 < size) (hz1 : ∀ v ∈ z.cells.toList, v.oneCell' = true)
    {w : World} {g : Nat} {cs : List Value} (h : Row w g e cs) (o m c : Nat) (hm : 0 < m) (hl : o + m * size ≤ cs.length) :
    ∃ zs : List Value, zs.length = m * size ∧ ∀ ty, (Builtin.clear_ #[t] ty #[.slice (some ⟨g, o, none⟩) m c]).run P w = .ok (.tuple #[]) (w.setRow g (cs.take o ++ zs ++ cs.drop (o + m * size)).toArray) := by
  refine ⟨(Builtin.zeroCells z.cells m).toList, by rw [Array.length_toList, size_zeroCells, hzs], fun ty => ?_⟩
  have hone : ∀ v ∈ (Builtin.zeroCells z.cells m).toList, v.oneCell' = true := by
    intro v hv
    simp only [Builtin.zeroCells, Array.toList_map, List.mem_map] at hv
    obtain ⟨i, _, rfl⟩ := hv
    have hi : i % z.cells.size < z.cells.size := Nat.mod_lt _ (by omega)
    rw [getElem!_pos z.cells _ hi]
    exact hz1 _ (by simp)
  have hlen : (Builtin.zeroCells z.cells m).toList.length = m * size := by rw [Array.length_toList, size_zeroCells, hzs]
  have hst := run_storeCells_at P g o e (Builtin.zeroCells z.cells m).toList 0 cs.toArray w h (by rw [hlen]; simpa using hl) hone
  simp only [Nat.add_zero, hlen, List.toList_toArray] at hst
  obtain ⟨k, rfl⟩ : ∃ k, m = k + 1 := ⟨m - 1, by omega⟩
  simp [Builtin.clear_, run_underlying ht, hz, hst]

theorem cs_take {cs : List Value} {fs : List (List UInt8 × List UInt8)} {n : Nat} (h : cs.take (n * 2) = fcells fs) (i : Nat) (hi : i ≤ n) : cs.take (i * 2) = fcells (fs.take i) := by
  have e : cs.take (i * 2) = (cs.take (n * 2)).take (i * 2) := by rw [List.take_take, Nat.min_eq_left (by omega)]
  rw [e, h]
  clear h e hi
  induction fs generalizing i with
  | nil => simp [fcells]
  | cons p fs ih =>
    match i with
    | 0 => simp [fcells]
    | i + 1 =>
      have := ih i
      have e : ∀ fs, fcells (p :: fs) = strv p.1 :: strv p.2 :: fcells fs := fun _ => rfl
      rw [e, show (i + 1) * 2 = i * 2 + 1 + 1 by omega, List.take_succ_cons, List.take_succ_cons, this, List.take_succ_cons, e]
theorem cs_get {cs : List Value} {fs : List (List UInt8 × List UInt8)} {n j : Nat} (h : cs.take (n * 2) = fcells fs) (hj : j < n * 2) : (fcells fs)[j]? = cs[j]? := by
  rw [← h, List.getElem?_take, if_pos hj]
theorem fcells_app (a b : List (List UInt8 × List UInt8)) : fcells (a ++ b) = fcells a ++ fcells b := by simp [fcells]
theorem set_two {ds : List Value} {k : Nat} {x y : Value} (h : k * 2 + 1 < ds.length) : ((ds.set (k * 2) x).set (k * 2 + 1) y).take ((k + 1) * 2) = ds.take (k * 2) ++ [x, y] := by
  apply List.ext_getElem?
  intro j
  rw [List.getElem?_take]
  by_cases h1 : j < k * 2
  · rw [if_pos (by omega), List.getElem?_set_ne (by omega), List.getElem?_set_ne (by omega), List.getElem?_append_left (by simp; omega), List.getElem?_take, if_pos h1]
  · rw [List.getElem?_append_right (by simp; omega)]
    have e : (ds.take (k * 2)).length = k * 2 := by simp; omega
    rw [e]
    by_cases h2 : j = k * 2
    · subst h2
      rw [if_pos (by omega), List.getElem?_set_ne (by omega), List.getElem?_set_self (by omega)]
      simp
    · by_cases h3 : j = k * 2 + 1
      · subst h3
        rw [if_pos (by omega), List.getElem?_set_self (by simp; omega)]
        simp
      · rw [if_neg (by omega), List.getElem?_eq_none (by simp; omega)]
/-- what is left: in the row's block -/
def DelOut (N0 : Nat) (v : Value) (ks : List (List UInt8 × List UInt8)) (w : World) (e : Ending) (w' : World) : Prop :=
  ∃ v', e = .returned v' ∧ w'.ownsRow N0 73 2 v' ks.length (fcells ks) ∧ w.grownBy w' v.ownBlock ∧ v'.ownBlock = v.ownBlock


end Fd
end Go.Proofs.YtkllecicddfjpaaGreatDoor

namespace Go.Proofs.YtkllecicddfjpaaGreatDoor
namespace Fd
set_option linter.unusedVariables false
set_option linter.unusedSimpArgs false
open Go.RowKit

/-- a copy in memory of its own -/
def ClOut (t : TypeId) (size n : Nat) (xs : List Value) (w : World) (e : Ending) (w' : World) : Prop := ∃ v, e = .returned v ∧ w'.ownsRow w.heap.size t size v n xs ∧ Below w.heap.size w w'

theorem strv_one (fs : List (List UInt8 × List UInt8)) : ∀ u ∈ fcells fs, u.oneCell' = true := by
  intro u hu
  unfold fcells at hu
  obtain ⟨p, _, hp⟩ := List.mem_flatMap.1 hu
  simp at hp
  rcases hp with rfl | rfl <;> rfl
theorem Src_rf {w : World} {A : Option Addr} {fs : List (List UInt8 × List UInt8)} {n c : Nat} (hn : fs.length = n) (h : Rf w A fs) : Src Tryz.prog 2 37 (.slice A n c) n (fcells fs) w :=
  Src_rv (e' := 73) Tryz.underlying37 (by rw [fcells_len, hn]) h (strv_one fs) (by omega)


set_option maxRecDepth 100000 in
set_option maxHeartbeats 400000 in
theorem cloneb_any (A : Option Addr) (l : List UInt8) (n c : Nat) (w : World) (hn : l.length = n) (hA : Rb w A l) (hb : n ≤ 1000000000) :
    Calls Tryz.prog 63 #[.slice A n c] w (ClOut 5 1 n (l.map bv) w) := by
  have hpu : ∀ W, Sem.run Tryz.prog (pure #[] : Sem (Array Value)) W = .ok #[] W := fun _ => rfl
  have hst : ∀ a W, Sem.run Tryz.prog (storeCells a []) W = .ok () W := fun _ _ => rfl
  have hq := fun (w : World) (a : Option Addr) (n c n' c' : Nat) => Lib.run_eql_slice_nil (P := Tryz.prog) w _ _ a n c n' c' Tryz.underlying22
  have hown0 := World.ownsRow_made (base := w.heap.size) (e := 5) (size := 1) w #[] 0 (Nat.le_refl _) (by unfold maxLen; omega) rfl
  have hB0 : Below w.heap.size w (w.alloc (.cells #[] 5)) := (Below.refl _ _).alloc (Nat.le_refl _) _
  rcases A with _ | a
  · have h0 : n = 0 ∨ 0 < n := by omega
    rcases h0 with h0 | h0
    · subst h0
      have hf : l = [] := List.eq_nil_of_length_eq_zero hn
      subst hf
      go_enter Tryz.func63, Tryz.ntmps63
      go_wp2_with fail
      go_ret
      exact ⟨_, rfl, World.ownsRow_nil _ _ _ _, Below.refl _ _⟩
    · obtain ⟨b, o, e, _⟩ := hA (by rw [List.length_map]; omega)
      cases e
  · have HN := Lib.hid hn
    clear hn
    go_enter Tryz.func63, Tryz.ntmps63
    go_wp2_with (at_builtin; refine wpList_app rfl _ _ _ _ rfl TU8 hown0 rfl (Src_rb Tryz.underlying22 HN.out (hA.below hB0)) rfl (by omega) hB0.size ?_; intro v6 w6 hown6 hgr6 hat6; have hB6 := below_app hB0 hown0 hgr6 hB0.size (Nat.le_refl _))
    go_ret
    exact ⟨_, rfl, by simpa using hown6, hB6⟩

theorem cell_far2 {w : World} {a b p : Addr} {u t v : Value} (h : w.cell? p = some v) (ha : a.block ≠ p.block) (hb : b.block ≠ p.block) : ((w.setCell a u).setCell b t).cell? p = some v := by
  rw [World.cell?_setCell_other _ _ _ _ (fun e => hb (by rw [e])), World.cell?_setCell_other _ _ _ _ (fun e => ha (by rw [e]))]
  exact h
/-- what Drop answers -/
def DropOut (nm : List UInt8) (fs : List (List UInt8 × List UInt8)) (bd : List UInt8) (w : World) (e : Ending) (w' : World) : Prop :=
  ∃ v1 v2, e = .returned (.agg #[v1, v2]) ∧ w'.ownsRow w.heap.size 73 2 v1 (keepF nm fs).length (fcells (keepF nm fs)) ∧ w'.ownsRow w.heap.size 5 1 v2 bd.length (bd.map bv) ∧ (v2.ownBlock = none ∨ v2.ownBlock ≠ v1.ownBlock) ∧ Below w.heap.size w w'


end Fd
end Go.Proofs.YtkllecicddfjpaaGreatDoor

namespace Go.Proofs.YtkllecicddfjpaaGreatDoor
namespace Fd
set_option linter.unusedVariables false
set_option linter.unusedSimpArgs false
open Go.RowKit

theorem own_rebase {w : World} {b b' e size n : Nat} {v : Value} {xs : List Value} (h : w.ownsRow b e size v n xs) (hb : b' ≤ b) : w.ownsRow b' e size v n xs := by
  refine ⟨h.1, ?_⟩
  rcases h.2 with hn | ⟨g, cap, cur, hv, hbg, rest⟩
  · exact .inl hn
  · exact .inr ⟨g, cap, cur, hv, Nat.le_trans hb hbg, rest⟩
theorem own_pl {w : World} {b e size n c : Nat} {A : Option Addr} {xs : List Value} (h : w.ownsRow b e size (.slice A n c) n xs) : Pl A c := by
  rcases h.2 with ⟨hv, _⟩ | ⟨g, cap, cur, hv, _⟩
  · cases hv
    exact .inl ⟨rfl, rfl⟩
  · cases hv
    exact .inr ⟨_, _, rfl⟩

set_option maxRecDepth 100000 in
set_option maxHeartbeats 2000000 in
theorem size_any (A : Option Addr) (l : List UInt8) (n c : Nat) (w : World) (hn : l.length = n) (hA : Rb w A l) (hnc : n ≤ c) (hpl : Pl A c) (hb : n ≤ 1000000) :
    Calls Tryz.prog 83 #[.slice A n c] w fun e w' => (∃ (z : Nat) (q : Bool), z ≤ n ∧ e = .returned (.tuple #[.int .i64 z, .bool q])) ∧ Below w.heap.size w w' := by
  have HN := Lib.hid hn
  clear hn
  go_enter Tryz.func83, Tryz.ntmps83
  go_wp2_with fail
  have hR0 : Rd (w.alloc (.cells #[.slice A n c, .slice none 0 0] 124)) w.heap.size (.slice A n c) (.slice none 0 0) := Row.new w #[.slice A n c, .slice none 0 0] 124
  have hA0 : Below w.heap.size w (w.alloc (.cells #[.slice A n c, .slice none 0 0] 124)) := (Below.refl _ _).alloc (Nat.le_refl _) _
  go_loopw [5] (fun x wr => ∃ (rest : List UInt8) (B : Option Addr) (c' : Nat), Hid (Rd wr w.heap.size (.slice B rest.length c') (.slice none 0 0)) ∧ Rb wr B rest ∧ rest.length ≤ c' ∧ Pl B c' ∧ rest.length ≤ n ∧ Below w.heap.size w wr) (fun _ wr => restLen w.heap.size wr)
  case atStart => exact ⟨l, A, c, Lib.hid (by rw [HN.out]; exact hR0), hA.below hA0, by rw [HN.out]; exact hnc, hpl, by rw [HN.out]; omega, hA0⟩
  case round =>
    obtain ⟨rest, B, c', hRd, hRb, hbc, hplB, hrn, hB⟩ := hrel
    have hML := restLen_of hRd.out
    go_wp2_with fail
    refine (line_any w.heap.size B rest rest.length c' (.slice none 0 0) wr rfl hRd.out (fun _ _ h => by cases h) hRb hbc hplB (by omega)).mono ?_
    rintro e w2 ⟨hl2, hg2⟩
    have hB2 := hB.trans (below_grown hg2 (Nat.le_refl _) hB.size)
    unfold LineOut at hl2
    cases hc : cutAt 10 rest with
    | none =>
      rw [hc] at hl2
      obtain ⟨rfl, _⟩ := hl2
      clear hc
      go_wp2_with fail
      go_ret2
      exact ⟨⟨n, false, Nat.le_refl _, rfl⟩, hB2⟩
    | some p =>
      obtain ⟨a, b⟩ := p
      rw [hc] at hl2
      obtain ⟨B2, d2, rfl, hRd2, hRa2, hRb2, hbd2, hplB2, hsb2⟩ := hl2
      have hcl := cutAt_lt hc
      have c20 : w2.cell? ⟨w.heap.size, 0, none⟩ = some (.slice B2 b.length d2) := hRd2.cell rfl
      have HRD2 := Lib.hid hRd2
      clear hRd2 hc hR0
      by_cases h0 : (deCr a).length = 0
      · go_wp2_with fail
        go_ret2
        exact ⟨⟨n - b.length, true, by omega, by rw [show ((n - b.length : Nat) : Int) = (n : Int) - (b.length : Int) by omega]; rfl⟩, hB2⟩
      · have h0b : (((deCr a).length : Int) == 0) = false := by rw [beq_eq_false_iff_ne]; omega
        go_wp2_with fail
        go_roundw
        case rel => exact ⟨b, B2, d2, HRD2, hRb2, hbd2, hplB2, by omega, hB2⟩
        case measure => rw [restLen_of HRD2.out, hML]; omega

theorem fieldP_room {k : Nat} {line rest b : List UInt8} {f : List UInt8 × List UInt8} (h : fieldP k line rest = .ok (f, b)) : k ≠ 200 := by
  rintro rfl
  unfold fieldP at h
  split at h
  · cases h
  · split at h
    · rw [if_pos rfl] at h
      cases h
    · cases h
/-- what Read answers -/
def ReadOut (l : List UInt8) (w : World) (e : Ending) (w' : World) : Prop :=
  (match readGo [] l with
  | .error x => e = .returned (.tuple #[.slice none 0 0, .slice none 0 0, .int .i64 (x : Int)])
  | .ok (fs, b) => ∃ fv v2, e = .returned (.tuple #[fv, v2, .int .i64 0]) ∧ w'.ownsRow w.heap.size 73 2 fv fs.length (fcells fs) ∧ w'.ownsRow w.heap.size 5 1 v2 b.length (b.map bv)) ∧ Below w.heap.size w w'
theorem fieldP_code {k : Nat} {line rest : List UInt8} {x : Nat} (h : fieldP k line rest = .error x) : x = 3 ∨ x = 4 := by
  unfold fieldP at h
  split at h
  · cases h; exact .inl rfl
  · split at h
    · split at h
      · cases h; exact .inr rfl
      · split at h
        · cases h; exact .inl rfl
        · split at h
          · cases h; exact .inr rfl
          · split at h
            · cases h
            · cases h; exact .inl rfl
    · cases h; exact .inl rfl

set_option maxRecDepth 100000 in
set_option maxHeartbeats 2000000 in
theorem read_any (A : Option Addr) (l : List UInt8) (n c : Nat) (w : World) (hn : l.length = n) (hA : Rb w A l) (hnc : n ≤ c) (hpl : Pl A c) (hb : n ≤ 65536) :
    Calls Tryz.prog 40 #[.slice A n c] w (ReadOut l w) := by
  have HN := Lib.hid hn
  clear hn
  go_enter Tryz.func40, Tryz.ntmps40
  go_wp2_with fail
  refine (size_any A l n c w HN.out hA hnc hpl (by omega)).mono ?_
  rintro e w1 ⟨⟨z, q, hz, rfl⟩, hb1⟩
  have hzi : ¬ (65536 : Int) < (z : Int) := by omega
  have hs1 := hb1.size
  have hA1 := hA.below hb1
  have hI1 : In w.heap.size w1.heap.size A l := fun h => by
    obtain ⟨b, o, x, e, _, hc⟩ := hA.one h
    have h1 : b < w.heap.size := cell_lt hc
    exact ⟨b, o, e, h1, by omega⟩
  have hR0 : Rd (w1.alloc (.cells #[.slice A n c, .slice none 0 0] 124)) w1.heap.size (.slice A n c) (.slice none 0 0) := Row.new w1 #[.slice A n c, .slice none 0 0] 124
  have hA0 : Below w.heap.size w (w1.alloc (.cells #[.slice A n c, .slice none 0 0] 124)) := hb1.alloc hs1 _
  go_wp2_with fail
  obtain ⟨g, hg⟩ : ∃ g, w1.heap.size = g := ⟨_, rfl⟩
  rw [hg] at hR0 hI1 hs1 ⊢
  have hgl : g < (w1.alloc (.cells #[.slice A n c, .slice none 0 0] 124)).heap.size := hR0.lt
  clear hg
  go_loopw [8] (fun _ wr => ∃ (fs : List (List UInt8 × List UInt8)) (rest : List UInt8) (B : Option Addr) (c' k : Nat) (fv : Value), Hid (Rd wr g (.slice B rest.length c') fv) ∧ wr.ownsRow w.heap.size 73 2 fv k (fcells fs) ∧ fs.length = k ∧ k ≤ 200 ∧ fv.ownBlock ≠ some g ∧ Rb wr B rest ∧ rest.length ≤ c' ∧ Pl B c' ∧ In w.heap.size g B rest ∧ rest.length ≤ n ∧ Hid (readGo fs rest = readGo [] l) ∧ Below w.heap.size w wr) (fun _ wr => restLen g wr)
  case atStart => exact ⟨[], l, A, c, 0, .slice none 0 0, Lib.hid (by rw [HN.out]; exact hR0), World.ownsRow_nil _ _ _ _, rfl, by omega, by simp [Value.ownBlock], hA.below hA0, by rw [HN.out]; exact hnc, hpl, hI1, by rw [HN.out]; omega, Lib.hid rfl, hA0⟩
  case round =>
    obtain ⟨fs, rest, B, c', k, fv, hRd, hfv, hfk, hk, hfg, hRb, hbc, hplB, hIn, hrn, hgo, hB⟩ := hrel
    have hML := restLen_of hRd.out
    have hfv0 := hfv
    obtain ⟨fA, fc, rfl, _, _, _, _⟩ := own_form hfv
    clear hfv
    go_wp2_with fail
    refine (line_any g B rest rest.length c' (.slice fA k fc) wr rfl hRd.out (fun _ _ h => by cases h) hRb hbc hplB (by omega)).mono ?_
    rintro e w2 ⟨hl2, hg2⟩
    have hB2 := hB.trans (below_grown hg2 hs1 hB.size)
    have hfv2 := hfv0.kept hg2 (.inr hfg)
    have hs2 : w.heap.size ≤ w2.heap.size := hB2.size
    unfold LineOut at hl2
    cases hc : cutAt 10 rest with
    | none =>
      rw [hc] at hl2
      obtain ⟨rfl, _⟩ := hl2
      have hr : readGo [] l = .error 3 := by rw [← hgo.out]; exact readGo_none hc
      have HRR := Lib.hid hr
      clear hc hr hgo
      go_wp2_with fail
      go_ret3
      exact ⟨by rw [HRR.out]; rfl, hB2⟩
    | some p =>
      obtain ⟨a, b⟩ := p
      rw [hc] at hl2
      obtain ⟨B2, d2, rfl, hRd2, hRa2, hRb2, hbd2, hplB2, hsb2⟩ := hl2
      have hcl := cutAt_lt hc
      have hdl := deCr_len a
      have c20 : w2.cell? ⟨g, 0, none⟩ = some (.slice B2 b.length d2) := hRd2.cell rfl
      have c21 : w2.cell? ⟨g, 1, none⟩ = some (.slice fA k fc) := hRd2.cell rfl
      have HRD2 := Lib.hid hRd2
      have HC := Lib.hid hc
      clear hRd2 hc hR0
      by_cases h0 : deCr a = []
      · have hr : readGo [] l = .ok (fs, b) := by rw [← hgo.out]; exact readGo_end HC.out h0
        have h0l : (deCr a).length = 0 := by rw [h0]; rfl
        have HRR := Lib.hid hr
        have HFK := Lib.hid hfk
        clear hr hgo h0 hfk
        have hcl2 : Calls Tryz.prog 63 #[.slice B2 b.length d2] w2.drew fun e w' => (∃ v, e = .returned v ∧ w'.ownsRow w2.heap.size 5 1 v b.length (b.map bv)) ∧ Below w2.heap.size w2 w' :=
          (clone_any B2 b b.length d2 w2.drew rfl (hRb2.drewN 1) hbd2 hplB2 (by omega)).mono fun e w' h => ⟨h.1, (Dn.below ((Dn.refl w2).drew) w2.heap.size).trans h.2⟩
        go_wp2_with fail
        go_region_held3 (fun w' => w'.cell? ⟨g, 0, none⟩ = some (.slice B2 b.length d2) ∧ w'.cell? ⟨g, 1, none⟩ = some (.slice fA k fc)) (exact ⟨by assumption, by assumption⟩)
          (first
          | (go_at_call 63; refine hcl2.mono ?_; rintro e w3 ⟨⟨v2, rfl, hv2⟩, hb3⟩; have c30 := (hb3.cell (p := ⟨g, 0, none⟩) (cell_lt c20)).trans c20; have c31 := (hb3.cell (p := ⟨g, 1, none⟩) (cell_lt c21)).trans c21))
        go_wp2_with fail
        go_ret3
        refine ⟨?_, hB2.trans (hb3.mono hs2)⟩
        rw [HRR.out]
        exact ⟨_, _, rfl, by rw [HFK.out]; exact own_below hfv2 hb3, own_rebase hv2 hs2⟩
      · have h0b : (((deCr a).length : Int) == 0) = false := by
          rw [beq_eq_false_iff_ne]
          intro e
          exact h0 (List.eq_nil_of_length_eq_zero (by omega))
        have hInB : In w.heap.size g B2 b := hIn.sub (m := b) hsb2 (fun _ => by omega) (fun h => hRb2.plain h)
        have hInL : In w.heap.size g B (deCr a) := hIn.sub (m := deCr a) (SB.refl B) (fun _ => by omega) (fun h => hRa2.plain h)
        go_wp2_with fail
        refine (rdfield_any w.heap.size g B2 B b (deCr a) fs b.length d2 (deCr a).length c' k (.slice fA k fc) w2 rfl rfl HRD2.out hfv2 hfg hs1 hs2 hRb2 hbd2 hplB2 hInB hRa2 hInL (by omega) hplB hk (by omega) (by omega)).mono ?_
        rintro e w3 ⟨hfo, hb3⟩
        have hB3 := hB2.trans hb3
        unfold FieldOut at hfo
        cases hf : fieldP k (deCr a) b with
        | error x =>
          rw [hf] at hfo
          subst hfo
          have hr : readGo [] l = .error x := by rw [← hgo.out]; exact readGo_err HC.out h0 (by rw [hfk]; exact hf)
          have HRR := Lib.hid hr
          rcases fieldP_code hf with rfl | rfl
          all_goals
            clear hr hgo hf
            go_wp2_with fail
            go_ret3
            exact ⟨by rw [HRR.out]; rfl, hB3⟩
        | ok p =>
          obtain ⟨f, b'⟩ := p
          rw [hf] at hfo
          obtain ⟨rfl, C, d3, fv', hR3, hRb3, hbd3, hplC, hsbC, hfv3, hfg3⟩ := hfo
          have hr : readGo (fs ++ [f]) b' = readGo [] l := by rw [← hgo.out]; exact (readGo_ok HC.out h0 (by rw [hfk]; exact hf)).symm
          have hroom := fieldP_room hf
          have hbr := fieldP_rest hf
          have HRR := Lib.hid hr
          have HR3 := Lib.hid hR3
          clear hr hgo hf hR3
          go_wp2_with fail
          go_roundw
          case rel => exact ⟨fs ++ [f], b', C, d3, k + 1, fv', HR3, hfv3, by simp [hfk], by omega, hfg3, hRb3, hbd3, hplC, hInB.sub (m := b') hsbC (fun _ => by omega) (fun h => hRb3.plain h), by omega, HRR, hB3⟩
          case measure => rw [restLen_of HR3.out, hML]; omega
end Fd
end Go.Proofs.YtkllecicddfjpaaGreatDoor

namespace Go.Proofs.YtkllecicddfjpaaGreatDoor
namespace Fd
set_option linter.unusedVariables false
set_option linter.unusedSimpArgs false
open Go.RowKit

theorem readEx : readGo [] [65, 58, 32, 98, 10, 32, 99, 10, 10, 120] = .ok ([([65], [98, 32, 99])], [120]) := by
  have h1 : cutAt 10 [65, 58, 32, 98, 10, 32, 99, 10, 10, 120] = some ([65, 58, 32, 98], [32, 99, 10, 10, 120]) := by decide
  have h2 : deCr [65, 58, 32, 98] = [65, 58, 32, 98] := by decide
  have h3 : fieldP 0 [65, 58, 32, 98] [32, 99, 10, 10, 120] = .ok (([65], [98, 32, 99]), [10, 120]) := by
    have c1 : cutAt 58 [65, 58, 32, 98] = some ([65], [32, 98]) := by decide
    have c2 : cutAt 10 [32, 99, 10, 10, 120] = some ([32, 99], [10, 120]) := by decide
    have c3 : valGo [32, 98] [32, 99, 10, 10, 120] = some ([32, 98, 32, 99], [10, 120]) := by
      rw [valGo_more (by decide) c2, show deCr [32, 99] = [32, 99] by decide, valGo_stop (by decide)]
      rfl
    have c4 : trimB [32, 98, 32, 99] = [98, 32, 99] := by decide
    have c5 : nmOk [65] = true := by decide
    have c6 : ([98, 32, 99] : List UInt8).all sgc = true := by decide
    unfold fieldP
    rw [c1]
    simp only [c5, if_true, c3, c4, c6]
    rfl
  rw [readGo_ok h1 (by rw [h2]; simp) (by rw [h2]; exact h3)]
  exact readGo_end (a := []) (by decide) rfl


end Fd
end Go.Proofs.YtkllecicddfjpaaGreatDoor
