/- slices.DeleteFunc over fields of a name, in a row of the call's own. -/
import Derived.Test.YtgohdohkikkeeaaDoorV1
namespace Go.Proofs.YtgohdohkikkeeaaDoor
set_option linter.unusedVariables false
set_option linter.unusedSimpArgs false
open Go.RowKit

/-- the fields without those of a name -/
def keepF (nm : List UInt8) (fs : List (List UInt8 × List UInt8)) : List (List UInt8 × List UInt8) := fs.filter fun p => !sameN p.1 nm
theorem keepF_snoc (nm : List UInt8) (fs : List (List UInt8 × List UInt8)) (p : List UInt8 × List UInt8) : keepF nm (fs ++ [p]) = keepF nm fs ++ (if sameN p.1 nm then [] else [p]) := by
  unfold keepF
  rw [List.filter_append]
  cases h : sameN p.1 nm <;> simp [h]
theorem keepF_none {nm : List UInt8} {fs : List (List UInt8 × List UInt8)} (h : ahead nm fs = fs.length) : keepF nm fs = fs := by
  unfold keepF ahead at *
  rw [List.filter_eq_self]
  have e := (List.takeWhile_sublist (fun p : List UInt8 × List UInt8 => !sameN p.1 nm) (l := fs)).eq_of_length h
  intro p hp
  rw [← e] at hp
  exact List.all_eq_true.1 List.all_takeWhile p hp
theorem keepF_ahead (nm : List UInt8) (fs : List (List UInt8 × List UInt8)) : keepF nm (fs.take (ahead nm fs)) = fs.take (ahead nm fs) := by
  have h : fs.take (ahead nm fs) = fs.takeWhile fun p => !sameN p.1 nm := by
    unfold ahead
    exact (List.prefix_iff_eq_take.1 (List.takeWhile_prefix _)).symm
  rw [h]
  unfold keepF
  rw [List.filter_eq_self]
  intro p hp
  exact List.all_eq_true.1 List.all_takeWhile p hp
theorem keepF_at {nm : List UInt8} : ∀ {fs : List (List UInt8 × List UInt8)}, ahead nm fs < fs.length → ∃ p, fs[ahead nm fs]? = some p ∧ sameN p.1 nm = true
  | [], h => by simp at h
  | q :: fs, h => by
    cases hq : sameN q.1 nm with
    | true => exact ⟨q, by simp [ahead, hq], hq⟩
    | false =>
      have e : ahead nm (q :: fs) = ahead nm fs + 1 := by simp [ahead, List.takeWhile_cons, hq]
      rw [e] at h ⊢
      obtain ⟨p, hp, hs⟩ := keepF_at (fs := fs) (by simpa using h)
      exact ⟨p, by simpa using hp, hs⟩
theorem keepF_len (nm : List UInt8) (fs : List (List UInt8 × List UInt8)) : (keepF nm fs).length ≤ fs.length := List.length_filter_le _ _

/-- a row of the call's own, told by its block -/
theorem row_own {w : World} {N0 e g n c : Nat} {xs : List Value} (h : w.ownsRow N0 e 2 (.slice (some ⟨g, 0, none⟩) n c) n xs) : ∃ cs, Row w g e cs ∧ cs.length = c * 2 ∧ cs.take (n * 2) = xs ∧ N0 ≤ g ∧ n ≤ c ∧ c ≤ maxLen := by
  rcases h.2 with ⟨h1, _⟩ | ⟨g', cap, cur, h1, h2, h3, h4, h5, h6, h7⟩
  · cases h1
  · cases h1
    exact ⟨cur.toList, by unfold Row; rw [h3], by simpa using h6, h7, h2, h4, h5⟩
theorem own_row {w : World} {N0 e g n c : Nat} {cs xs : List Value} (h : Row w g e cs) (hl : cs.length = c * 2) (ht : cs.take (n * 2) = xs) (hN : N0 ≤ g) (hnc : n ≤ c) (hc : c ≤ maxLen) : w.ownsRow N0 e 2 (.slice (some ⟨g, 0, none⟩) n c) n xs :=
  ⟨by rw [← ht, List.length_take]; omega, .inr ⟨g, c, cs.toArray, rfl, hN, h, hnc, hc, by simpa using hl, by simpa using ht⟩⟩

/-- clear of a part of an own row -/
theorem run_clear_own {P : Program} {t e : TypeId} {z : Value} {size : Nat} (ht : P.underlying t = some (.slice e)) (hz : ∀ w, (zeroValue e).run P w = .ok z w) (hzs : z.cells.size = size) (h0 : 0 < size) (hz1 : ∀ v ∈ z.cells.toList, v.oneCell' = true)
    {w : World} {g : Nat} {cs : List Value} (h : Row w g e cs) (o m c : Nat) (hm : 0 < m) (hl : o + m * size ≤ cs.length) :
    ∃ zs : List Value, zs.length = m * size ∧ ∀ ty, (Builtin.clear_ #[t] ty #[.slice (some ⟨g, o, none⟩) m c]).run P w = .ok (.tuple #[]) (w.setRow g (cs.take o ++ zs ++ cs.drop (o + m * size)).toArray) := by
  refine ⟨(Builtin.zeroCells z.cells m).toList, by rw [Array.length_toList, size_zeroCells, hzs], fun ty => ?_⟩
  have hone : ∀ v ∈ (Builtin.zeroCells z.cells m).toList, v.oneCell' = true := by
    intro v hv
    simp only [Builtin.zeroCells, Array.toList_map, List.mem_map] at hv
    obtain ⟨i, _, rfl⟩ := hv
    have hi : i % z.cells.size < z.cells.size := Nat.mod_lt _ (by omega)
    rw [getElem!_pos z.cells _ hi]
    exact hz1 _ (by simp)
  have hlen : (Builtin.zeroCells z.cells m).toList.length = m * size := by rw [Array.length_toList, size_zeroCells, hzs]
  have hst := run_storeCells_at P g o e (Builtin.zeroCells z.cells m).toList 0 cs.toArray w h (by rw [hlen]; simpa using hl) hone
  simp only [Nat.add_zero, hlen, List.toList_toArray] at hst
  obtain ⟨k, rfl⟩ : ∃ k, m = k + 1 := ⟨m - 1, by omega⟩
  simp [Builtin.clear_, run_underlying ht, hz, hst]

theorem cs_take {cs : List Value} {fs : List (List UInt8 × List UInt8)} {n : Nat} (h : cs.take (n * 2) = fcells fs) (i : Nat) (hi : i ≤ n) : cs.take (i * 2) = fcells (fs.take i) := by
  have e : cs.take (i * 2) = (cs.take (n * 2)).take (i * 2) := by rw [List.take_take, Nat.min_eq_left (by omega)]
  rw [e, h]
  clear h e hi
  induction fs generalizing i with
  | nil => simp [fcells]
  | cons p fs ih =>
    match i with
    | 0 => simp [fcells]
    | i + 1 =>
      have := ih i
      have e : ∀ fs, fcells (p :: fs) = strv p.1 :: strv p.2 :: fcells fs := fun _ => rfl
      rw [e, show (i + 1) * 2 = i * 2 + 1 + 1 by omega, List.take_succ_cons, List.take_succ_cons, this, List.take_succ_cons, e]
theorem cs_get {cs : List Value} {fs : List (List UInt8 × List UInt8)} {n j : Nat} (h : cs.take (n * 2) = fcells fs) (hj : j < n * 2) : (fcells fs)[j]? = cs[j]? := by
  rw [← h, List.getElem?_take, if_pos hj]
theorem fcells_app (a b : List (List UInt8 × List UInt8)) : fcells (a ++ b) = fcells a ++ fcells b := by simp [fcells]
theorem set_two {ds : List Value} {k : Nat} {x y : Value} (h : k * 2 + 1 < ds.length) : ((ds.set (k * 2) x).set (k * 2 + 1) y).take ((k + 1) * 2) = ds.take (k * 2) ++ [x, y] := by
  apply List.ext_getElem?
  intro j
  rw [List.getElem?_take]
  by_cases h1 : j < k * 2
  · rw [if_pos (by omega), List.getElem?_set_ne (by omega), List.getElem?_set_ne (by omega), List.getElem?_append_left (by simp; omega), List.getElem?_take, if_pos h1]
  · rw [List.getElem?_append_right (by simp; omega)]
    have e : (ds.take (k * 2)).length = k * 2 := by simp; omega
    rw [e]
    by_cases h2 : j = k * 2
    · subst h2
      rw [if_pos (by omega), List.getElem?_set_ne (by omega), List.getElem?_set_self (by omega)]
      simp
    · by_cases h3 : j = k * 2 + 1
      · subst h3
        rw [if_pos (by omega), List.getElem?_set_self (by simp; omega)]
        simp
      · rw [if_neg (by omega), List.getElem?_eq_none (by simp; omega)]
/-- what is left: in the row's block -/
def DelOut (N0 : Nat) (v : Value) (ks : List (List UInt8 × List UInt8)) (w : World) (e : Ending) (w' : World) : Prop :=
  ∃ v', e = .returned v' ∧ w'.ownsRow N0 28 2 v' ks.length (fcells ks) ∧ w.grownBy w' v.ownBlock ∧ v'.ownBlock = v.ownBlock

set_option maxRecDepth 100000 in
set_option maxHeartbeats 2000000 in
theorem delete_any (fs : List (List UInt8 × List UInt8)) (A : Option Addr) (n c B : Nat) (nm : List UInt8) (w0 w : World) (hn : fs.length = n) (hown : w.ownsRow w0.heap.size 28 2 (.slice A n c) n (fcells fs)) (hB0 : Below w0.heap.size w0 w)
    (hT : Lib.Utf8Tabs 1 2 w0) (hc : w.cell? ⟨B, 0, none⟩ = some (.string (bs nm))) (hBA : ∀ o, A ≠ some ⟨B, o, none⟩) (hnm : nm.length ≤ 1000000000) (hb : n ≤ 1000000) :
    Calls Tryd.prog 42 #[.slice A n c, hasV B] w (DelOut w0.heap.size (.slice A n c) (keepF nm fs) w) := by
  obtain ⟨A', c', hAe, _, _, hR, _⟩ := own_form hown
  cases hAe
  have hix := index_any A fs n c B nm w hn hR (tabs_below hT hB0) hc hnm hb
  by_cases hlt : ahead nm fs < fs.length
  · have hpl : placeZ nm fs = (ahead nm fs : Int) := by unfold placeZ; rw [if_pos hlt]
    rw [hpl] at hix
    obtain ⟨p0, hp0, hs0⟩ := keepF_at hlt
    have hka := keepF_ahead nm fs
    have hkl := take_succ_of hp0
    obtain ⟨i0, hi0⟩ : ∃ i0, ahead nm fs = i0 := ⟨_, rfl⟩
    rw [hi0] at hix hlt hp0 hka hkl
    have hk1 : keepF nm (fs.take (i0 + 1)) = fs.take i0 := by
      rw [hkl, keepF_snoc, hka, hs0]
      simp
    obtain ⟨g, o, rfl, _⟩ := hR (by rw [fcells_len]; omega)
    obtain ⟨rfl⟩ : o = 0 := by
      rcases hown.2 with ⟨h1, _⟩ | ⟨g', cap, cur, h1, _⟩
      · cases h1
      · cases h1; rfl
    obtain ⟨cs, hrow, hcl, hct, hNg, hnc, hcm⟩ := row_own hown
    have HN := Lib.hid hn
    have HK1 := Lib.hid hk1
    have hi0n : i0 < n := by omega
    clear hka hkl hk1 hi0 hpl hs0 hp0 hlt hn hR
    have eg := eg_named
    unfold hasV at *
    go_enter Tryd.func42, Tryd.ntmps42
    go_wp2_with fail
    refine hix.mono ?_
    rintro e w1 ⟨rfl, hb1⟩
    have hib : ((i0 : Int) == -1) = false := by rw [beq_eq_false_iff_ne]; omega
    go_wp2_with fail
    have hg1 := grown_of_below hb1 (some g)
    go_loopw [5, 6] (fun i j wr => ∃ (k m : Nat) (ds : List Value), j = .int .i64 k ∧ i = .int .i64 m ∧ i0 < k ∧ k ≤ n ∧ m < k ∧ Hid ((keepF nm (fs.take k)).length = m) ∧ Hid (ds.take (m * 2) = fcells (keepF nm (fs.take k))) ∧ ds.length = c * 2 ∧ Hid (∀ q, k * 2 ≤ q → ds[q]? = cs[q]?) ∧ Row wr g 28 ds ∧ w.grownBy wr (some g)) (fun _ j _ => n - (intOf j).toNat)
    case atStart => exact ⟨i0 + 1, i0, cs, by go_num, rfl, by omega, by omega, by omega, Lib.hid (by rw [HK1.out, List.length_take, HN.out]; omega), Lib.hid (by
      rw [HK1.out]
      exact cs_take hct i0 (by omega)), hcl, Lib.hid (fun _ _ => rfl), hrow.below hb1, hg1⟩
    case round =>
      obtain ⟨k, m, ds, rfl, rfl, hik, hk, hmk, hkl, hdt, hdl, hdq, hds, hgr⟩ := hrel
      have hBr := below_grown hgr hNg hB0.size
      have hB := hB0.trans hBr
      have hBg : B ≠ g := fun e => hBA 0 (by rw [e])
      have hcr : wr.cell? ⟨B, 0, none⟩ = some (.string (bs nm)) := (World.cell?_of_block (w := w) (hgr.block B (cell_lt hc) (fun e => hBg (by have := Option.some.inj e; omega)))).trans hc
      by_cases hlt : k < n
      · obtain ⟨p, hp⟩ : ∃ p, fs[k]? = some p := ⟨_, List.getElem?_eq_getElem (by rw [HN.out]; exact hlt)⟩
        obtain ⟨q0, q1⟩ := fcells_get hp
        have d0 : ds[k * 2]? = some (.string (bs p.1)) := by
          rw [hdq.out _ (Nat.le_refl _), ← cs_get hct (by omega), Nat.mul_comm]
          exact q0
        have d1 : ds[k * 2 + 1]? = some (.string (bs p.2)) := by
          rw [hdq.out _ (by omega), ← cs_get hct (by omega), Nat.mul_comm]
          exact q1
        have c0 := hds.cell d0
        have c1 := hds.cell d1
        have hcall := named1_any p nm B (wr.alloc (.cells #[.string (bs p.1), .string (bs p.2)] 28)) (tabs_below hT (hB.alloc hB.size _)) (by rw [← hcr]; exact ((Below.refl _ wr).alloc (Nat.le_refl _) _).cell (p := ⟨B, 0, none⟩) (cell_lt hcr)) hnm
        have hdsa := hds.alloc (.cells #[.string (bs p.1), .string (bs p.2)] 28)
        have hst := keepF_snoc nm (fs.take k) p
        rw [← take_succ_of hp] at hst
        cases hs : sameN p.1 nm with
        | true =>
          rw [hs] at hcall hst
          simp only [if_true, List.append_nil] at hst
          have HST := Lib.hid hst
          clear hs hst hp q0 q1 d0 d1
          go_wp2_with fail
          refine hcall.mono ?_
          rintro e w2 ⟨rfl, hb2⟩
          have hds2 := hdsa.below hb2
          have hg2 : wr.grownBy w2 (some g) := grown_of_below (((Below.refl _ wr).alloc (Nat.le_refl _) _).trans (hb2.mono (by simp))) _
          go_wp2_with fail
          go_roundw
          case rel => exact ⟨k + 1, m, ds, by go_num, rfl, by omega, by omega, by omega, Lib.hid (by rw [HST.out]; exact hkl.out), Lib.hid (by rw [HST.out]; exact hdt.out), hdl, Lib.hid (fun q hq => hdq.out q (by omega)), hds2, hgr.trans hg2⟩
          case measure => simp [intOf]; omega
        | false =>
          rw [hs] at hcall hst
          have HST := Lib.hid hst
          obtain ⟨x0, hx0⟩ : ∃ x, ds[m * 2]? = some x := ⟨_, List.getElem?_eq_getElem (by omega)⟩
          obtain ⟨x1, hx1⟩ : ∃ x, ds[m * 2 + 1]? = some x := ⟨_, List.getElem?_eq_getElem (by omega)⟩
          have hmk2 : ¬ n ≤ m := by omega
          have hdl0 : m * 2 + 1 < ds.length := by omega
          clear hs hst hp q0 q1 d0 d1
          go_wp2_with fail
          refine hcall.mono ?_
          rintro e w2 ⟨rfl, hb2⟩
          have hds2 := hdsa.below hb2
          have hg2 : wr.grownBy w2 (some g) := grown_of_below (((Below.refl _ wr).alloc (Nat.le_refl _) _).trans (hb2.mono (by simp))) _
          have v0 : w2.cell? ⟨wr.heap.size, 0, none⟩ = some (.string (bs p.1)) := (hb2.cell (p := ⟨wr.heap.size, 0, none⟩) (by simp)).trans (by simp)
          have v1 : w2.cell? ⟨wr.heap.size, 1, none⟩ = some (.string (bs p.2)) := (hb2.cell (p := ⟨wr.heap.size, 1, none⟩) (by simp)).trans (by simp)
          have y0 := hds2.cell hx0
          have y1 := hds2.cell hx1
          have f0 := hds2.frozen (m * 2)
          have f1 := hds2.frozen (m * 2 + 1)
          clear hx0 hx1
          go_wp2_with fail
          go_roundw
          case rel => exact ⟨k + 1, m + 1, (ds.set (m * 2) (.string (bs p.1))).set (m * 2 + 1) (.string (bs p.2)), by go_num, by go_num, by omega, by omega, by omega, Lib.hid (by rw [HST.out, List.length_append, hkl.out]; rfl), Lib.hid (by
            rw [HST.out, fcells_app, ← hdt.out]
            exact set_two hdl0), by simpa using hdl, Lib.hid (fun q hq => by
            rw [List.getElem?_set_ne (by omega), List.getElem?_set_ne (by omega)]
            exact hdq.out q (by omega)), (hds2.set _ _).set _ _, (hgr.trans hg2).trans ((grown_set _ ⟨g, _, none⟩ _).trans (grown_set _ ⟨g, _, none⟩ _))⟩
          case measure => simp [intOf]; omega
      · obtain rfl : k = n := by omega
        have hmc : m < c := by omega
        obtain ⟨zs, hzl, hclr⟩ := run_clear_own (P := Tryd.prog) (t := 22) (size := 2) Tryd.underlying22 Tryd.zeroValue28 rfl (by omega) (by simp [Value.cells, Value.oneCell']) hds (m * 2) (k - m) (c - m) (by omega) (by omega)
        have hfa : fs.take k = fs := List.take_of_length_le (by rw [HN.out]; omega)
        have hk2 : (keepF nm fs).length = m := by rw [← hkl.out, hfa]
        have hd2 : ds.take (m * 2) = fcells (keepF nm fs) := by rw [← hfa]; rw [hfa]; have := hdt.out; rwa [hfa] at this
        have hrow2 : Row (wr.setRow g (ds.take (m * 2) ++ zs ++ ds.drop (m * 2 + (k - m) * 2)).toArray) g 28 (ds.take (m * 2) ++ zs ++ ds.drop (m * 2 + (k - m) * 2)) := setRow_heap wr g ds.toArray _ _ (0, 0) hds
        have hown2 := own_row (n := m) (xs := fcells (keepF nm fs)) hrow2 (by simp only [List.length_append, List.length_take, List.length_drop, hzl]; omega) (by
          rw [← hd2, List.append_assoc]
          exact List.take_left' (by simp; omega)) hNg (by omega) hcm
        have hgE : w.grownBy (wr.setRow g (ds.take (m * 2) ++ zs ++ ds.drop (m * 2 + (k - m) * 2)).toArray) (some g) := hgr.trans ⟨rfl, rfl, rfl, by simp, fun j _ hj => setRow_other wr g j _ (fun e => hj (by rw [e]))⟩
        have HK2 := Lib.hid hk2
        clear hfa hk2 hd2 hrow2
        generalize (ds.take (m * 2) ++ zs ++ ds.drop (m * 2 + (k - m) * 2)).toArray = X at *
        go_wp2_with fail
        go_ret
        exact ⟨_, rfl, by rw [HK2.out]; exact hown2, hgE, rfl⟩
  · have hal : ahead nm fs = fs.length := by have := ahead_le nm fs; omega
    have hpl : placeZ nm fs = -1 := by unfold placeZ; rw [if_neg hlt]
    rw [hpl] at hix
    rw [keepF_none hal]
    have HN := Lib.hid hn
    clear hpl hal hn
    unfold hasV at *
    go_enter Tryd.func42, Tryd.ntmps42
    go_wp2_with fail
    refine hix.mono ?_
    rintro e w1 ⟨rfl, hb1⟩
    go_wp2_with fail
    go_ret
    exact ⟨_, rfl, by rw [HN.out]; exact own_below hown hb1, grown_of_below hb1 _, rfl⟩
end Go.Proofs.YtgohdohkikkeeaaDoor
