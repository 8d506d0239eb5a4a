/- The document's All, Drop, Set of a mail's fields. -/
import Derived.Test.YtgohdohkikkeeaaDoorV4
namespace Go.Proofs.YtgohdohkikkeeaaDoor
set_option linter.unusedVariables false
set_option linter.unusedSimpArgs false
open Go.RowKit

theorem ahead_not {nm : List UInt8} : ∀ {fs : List (List UInt8 × List UInt8)} {k : Nat} {p : List UInt8 × List UInt8}, k < ahead nm fs → fs[k]? = some p → sameN p.1 nm = false
  | [], k, p, _, h => by simp at h
  | q :: fs, k, p, hk, h => by
    cases hq : sameN q.1 nm with
    | true =>
      have e : ahead nm (q :: fs) = 0 := by simp [ahead, hq]
      omega
    | false =>
      have e : ahead nm (q :: fs) = ahead nm fs + 1 := by simp [ahead, List.takeWhile_cons, hq]
      match k, h with
      | 0, h =>
        simp at h
        rw [← h]
        exact hq
      | k + 1, h => exact ahead_not (fs := fs) (k := k) (by omega) (by simpa using h)
theorem ahead_is {nm : List UInt8} {fs : List (List UInt8 × List UInt8)} {p : List UInt8 × List UInt8} (h : fs[ahead nm fs]? = some p) : sameN p.1 nm = true := by
  obtain ⟨q, hq, hs⟩ := keepF_at (nm := nm) (fs := fs) (lt_of_get h)
  rw [hq] at h
  cases h
  exact hs
/-- the fields with one of a name -/
def setN (nm v : List UInt8) (fs : List (List UInt8 × List UInt8)) : List (List UInt8 × List UInt8) := fs.take (ahead nm fs) ++ (nm, v) :: keepF nm (fs.drop (ahead nm fs))
/-- so far -/
def setAt (nm v : List UInt8) (fs : List (List UInt8 × List UInt8)) (k : Nat) : List (List UInt8 × List UInt8) :=
  if ahead nm fs < k then fs.take (ahead nm fs) ++ (nm, v) :: keepF nm ((fs.drop (ahead nm fs)).take (k - ahead nm fs)) else fs.take k
theorem setAt_hit {nm v : List UInt8} {fs : List (List UInt8 × List UInt8)} {k : Nat} {p : List UInt8 × List UInt8} (hp : fs[k]? = some p) (hs : sameN p.1 nm = true) (hk : ¬ ahead nm fs < k) : ahead nm fs = k ∧ setAt nm v fs (k + 1) = setAt nm v fs k ++ [(nm, v)] := by
  have e : ahead nm fs = k := by
    by_cases h : k < ahead nm fs
    · have := ahead_not h hp
      rw [hs] at this
      cases this
    · have := ahead_le nm fs
      have := lt_of_get hp
      by_cases h2 : ahead nm fs = k
      · exact h2
      · exact absurd (show ahead nm fs < k by omega) hk
  refine ⟨e, ?_⟩
  unfold setAt
  rw [e, if_pos (by omega), if_neg (by omega)]
  have h1 : (fs.drop k).take (k + 1 - k) = [p] := by
    rw [show k + 1 - k = 0 + 1 by omega, take_succ_of (x := p) (by rw [List.getElem?_drop]; exact hp)]
    rfl
  rw [h1]
  simp [keepF, hs]
theorem setAt_skip {nm v : List UInt8} {fs : List (List UInt8 × List UInt8)} {k : Nat} {p : List UInt8 × List UInt8} (hp : fs[k]? = some p) (hs : sameN p.1 nm = true) (hk : ahead nm fs < k) : setAt nm v fs (k + 1) = setAt nm v fs k := by
  unfold setAt
  rw [if_pos (by omega), if_pos hk, show k + 1 - ahead nm fs = (k - ahead nm fs) + 1 by omega, take_succ_of (x := p) (by rw [List.getElem?_drop, show ahead nm fs + (k - ahead nm fs) = k by omega]; exact hp), keepF_snoc, hs]
  simp
theorem setAt_keep {nm v : List UInt8} {fs : List (List UInt8 × List UInt8)} {k : Nat} {p : List UInt8 × List UInt8} (hp : fs[k]? = some p) (hs : sameN p.1 nm = false) : setAt nm v fs (k + 1) = setAt nm v fs k ++ [p] ∧ decide (ahead nm fs < k + 1) = decide (ahead nm fs < k) := by
  have hne : ahead nm fs ≠ k := fun e => by
    have := ahead_is (nm := nm) (fs := fs) (p := p) (by rw [e]; exact hp)
    rw [hs] at this
    cases this
  by_cases hk : ahead nm fs < k
  · refine ⟨?_, by simp [hk]; omega⟩
    unfold setAt
    rw [if_pos (by omega), if_pos hk, show k + 1 - ahead nm fs = (k - ahead nm fs) + 1 by omega, take_succ_of (x := p) (by rw [List.getElem?_drop, show ahead nm fs + (k - ahead nm fs) = k by omega]; exact hp), keepF_snoc, hs]
    simp
  · refine ⟨?_, by simp [hk]; omega⟩
    unfold setAt
    rw [if_neg (by omega), if_neg hk, take_succ_of hp]
theorem setAt_end {nm v : List UInt8} {fs : List (List UInt8 × List UInt8)} : setN nm v fs = if ahead nm fs < fs.length then setAt nm v fs fs.length else setAt nm v fs fs.length ++ [(nm, v)] := by
  unfold setN setAt
  have hl := ahead_le nm fs
  by_cases h : ahead nm fs < fs.length
  · rw [if_pos h, if_pos h, List.take_of_length_le (l := fs.drop (ahead nm fs)) (by simp)]
  · have e : ahead nm fs = fs.length := by omega
    rw [if_neg h, if_neg h, e]
    simp [keepF]
theorem setAt_len (nm v : List UInt8) (fs : List (List UInt8 × List UInt8)) (k : Nat) : (setAt nm v fs k).length ≤ k + 1 := by
  unfold setAt
  split
  · have h1 := keepF_len nm ((fs.drop (ahead nm fs)).take (k - ahead nm fs))
    simp only [List.length_append, List.length_cons, List.length_take] at h1 ⊢
    omega
  · simp
    omega

set_option maxRecDepth 100000 in
set_option maxHeartbeats 2000000 in
theorem rall_any (A A2 : Option Addr) (fs : List (List UInt8 × List UInt8)) (nm : List UInt8) (n c n2 c2 : Nat) (w : World) (hn : fs.length = n) (hA : Rf w A fs) (hnm : nm.length ≤ 1000000000) (hb : n ≤ 1000000) :
    Calls Tryd.prog 21 #[.agg #[.slice A n c, .slice A2 n2 c2], .string (bs nm)] w (AllOut nm fs w) := by
  have HN := Lib.hid hn
  clear hn
  have hpu : ∀ W, Sem.run Tryd.prog (pure #[] : Sem (Array Value)) W = .ok #[] W := fun _ => rfl
  have hst : ∀ a W, Sem.run Tryd.prog (storeCells a []) W = .ok () W := fun _ _ => rfl
  have hB0 : Below w.heap.size w (w.alloc (.cells #[.slice A n c, .slice A2 n2 c2] 41)) := (Below.refl _ _).alloc (Nat.le_refl _) _
  have c00 : (w.alloc (.cells #[.slice A n c, .slice A2 n2 c2] 41)).cell? ⟨w.heap.size, 0, none⟩ = some (.slice A n c) := by simp
  go_enter Tryd.func21, Tryd.ntmps21
  go_wp2_with fail
  have hW0 : (w.alloc (.cells #[.slice A n c, .slice A2 n2 c2] 41)).heap.size = w.heap.size + 1 := by simp
  generalize w.alloc (.cells #[.slice A n c, .slice A2 n2 c2] 41) = W0 at *
  have hown0 := World.ownsRow_made (base := W0.heap.size) (e := 9) (size := 1) W0 #[] 0 (Nat.le_refl _) (by unfold maxLen; omega) rfl
  have hC0 : Below W0.heap.size W0 (W0.alloc (.cells #[] 9)) := (Below.refl _ _).alloc (Nat.le_refl _) _
  rw [hW0] at hown0 hC0
  obtain ⟨N1, hN1⟩ : ∃ N1, w.heap.size + 1 = N1 := ⟨_, rfl⟩
  rw [hN1] at hown0 hC0 ⊢
  have hs0 : w.heap.size ≤ N1 := by omega
  have hlt0 : w.heap.size < N1 := by omega
  have hNW : N1 ≤ W0.heap.size := by omega
  clear hW0 hN1
  go_loopw [5, 6] (fun v i wr => ∃ k M : Nat, i = .int .i64 k ∧ k ≤ n ∧ M ≤ k ∧ Hid ((valsN nm (fs.take k)).length = M) ∧ wr.ownsRow N1 9 1 v M ((valsN nm (fs.take k)).map strv) ∧ Below N1 W0 wr) (fun _ i _ => n - (intOf i).toNat)
  case atStart => exact ⟨0, 0, rfl, by omega, by omega, Lib.hid rfl, hown0, hC0⟩
  case round =>
    obtain ⟨k, M, rfl, hk, hM, hml, hown, hC⟩ := hrel
    have hB := hB0.trans (hC.mono hs0)
    have hs1 := hB.size
    have hsC := Nat.le_trans hNW hC.size
    have hcr := (hC.cell (p := ⟨w.heap.size, 0, none⟩) hlt0).trans c00
    clear hown0
    by_cases hlt : k < n
    · obtain ⟨b, o, p, rfl, hp, g0, g1⟩ := (hA.below hB).one (k := k) (by rw [HN.out]; exact hlt)
      have hcall := rsame2_any p.1 nm wr hnm
      have hst := valsN_snoc nm (fs.take k) p
      rw [← take_succ_of hp.out] at hst
      cases hs : sameN p.1 nm with
      | false =>
        rw [hs] at hcall hst
        simp only [Bool.false_eq_true, if_false, List.append_nil] at hst
        have HST := Lib.hid hst
        clear hs hst
        go_wp2_with fail
        refine hcall.mono ?_
        rintro e w2 ⟨rfl, hd2⟩
        have hown2 := own_below hown (hd2.below _)
        have hB2 := hC.trans ((hd2.below _).mono hsC)
        go_wp2_with fail
        go_roundw
        case rel => exact ⟨k + 1, M, by go_num, by omega, by omega, Lib.hid (by rw [HST.out]; exact hml.out), by rw [HST.out]; exact hown2, hB2⟩
        case measure => simp [intOf]; omega
      | true =>
        rw [hs] at hcall hst
        simp only [if_true] at hst
        have HST := Lib.hid hst
        clear hs hst
        go_wp2_with fail
        refine hcall.mono ?_
        rintro e w2 ⟨rfl, hd2⟩
        have hC2 := hd2.below wr.heap.size
        have hown2 := own_below hown hC2
        have hB2 := hC.trans (hC2.mono hsC)
        have hs2 := Nat.le_trans hNW hB2.size
        have hcr2 := (hC2.cell (p := ⟨w.heap.size, 0, none⟩) (cell_lt hcr)).trans hcr
        have g12 := (hC2.cell (p := ⟨b, o + k * 2 + 1, none⟩) (cell_lt g1)).trans g1
        go_wp2_with (at_builtin; refine wpList_app rfl (.tmp 23) (.tmp 30) _ _ rfl TStr (hown2.alloc (.cells #[strv p.2] 9)) rfl (Src_rv (news := [strv p.2]) Tryd.underlying43 rfl (Rv_new w2 _ _ _ rfl) (by simp [Value.oneCell', strv]) (by omega)) rfl (by omega) (by simp; omega) ?_; intro v6 w6 hown6 hgr6 hat6; have hB6 := below_app (hB2.alloc hs2 (.cells #[strv p.2] 9)) (hown2.alloc _) hgr6 (by simp; omega) (Nat.le_refl _))
        go_roundw
        case rel => exact ⟨k + 1, M + 1, by go_num, by omega, by omega, Lib.hid (by rw [HST.out, List.length_append, hml.out]; rfl), by rw [HST.out, List.map_append]; exact hown6, hB6⟩
        case measure => simp [intOf]; omega
    · obtain rfl : k = n := by omega
      have hfa : fs.take k = fs := List.take_of_length_le (by rw [HN.out]; omega)
      rw [hfa] at hown hml
      have HML := hml
      clear hfa
      go_wp2_with fail
      go_ret
      exact ⟨_, rfl, by rw [HML.out]; exact own_base hown hs0, hB⟩
/-- fields in memory of the call's own -/
def FsOut (ks : List (List UInt8 × List UInt8)) (w : World) (e : Ending) (w' : World) : Prop :=
  ∃ v, e = .returned v ∧ w'.ownsRow w.heap.size 28 2 v ks.length (fcells ks) ∧ Below w.heap.size w w'

set_option maxRecDepth 100000 in
set_option maxHeartbeats 2000000 in
theorem rdrop_any (A A2 : Option Addr) (fs : List (List UInt8 × List UInt8)) (nm : List UInt8) (n c n2 c2 : Nat) (w : World) (hn : fs.length = n) (hA : Rf w A fs) (hnm : nm.length ≤ 1000000000) (hb : n ≤ 1000000) :
    Calls Tryd.prog 26 #[.agg #[.slice A n c, .slice A2 n2 c2], .string (bs nm)] w (FsOut (keepF nm fs) w) := by
  have HN := Lib.hid hn
  clear hn
  have hpu : ∀ W, Sem.run Tryd.prog (pure #[] : Sem (Array Value)) W = .ok #[] W := fun _ => rfl
  have hst : ∀ a W, Sem.run Tryd.prog (storeCells a []) W = .ok () W := fun _ _ => rfl
  have hB0 : Below w.heap.size w (w.alloc (.cells #[.slice A n c, .slice A2 n2 c2] 41)) := (Below.refl _ _).alloc (Nat.le_refl _) _
  have c00 : (w.alloc (.cells #[.slice A n c, .slice A2 n2 c2] 41)).cell? ⟨w.heap.size, 0, none⟩ = some (.slice A n c) := by simp
  go_enter Tryd.func26, Tryd.ntmps26
  go_wp2_with fail
  have hW0 : (w.alloc (.cells #[.slice A n c, .slice A2 n2 c2] 41)).heap.size = w.heap.size + 1 := by simp
  generalize w.alloc (.cells #[.slice A n c, .slice A2 n2 c2] 41) = W0 at *
  have hown0 := World.ownsRow_made (base := W0.heap.size) (e := 28) (size := 2) W0 #[] 0 (Nat.le_refl _) (by unfold maxLen; omega) rfl
  have hC0 : Below W0.heap.size W0 (W0.alloc (.cells #[] 28)) := (Below.refl _ _).alloc (Nat.le_refl _) _
  rw [hW0] at hown0 hC0
  obtain ⟨N1, hN1⟩ : ∃ N1, w.heap.size + 1 = N1 := ⟨_, rfl⟩
  rw [hN1] at hown0 hC0 ⊢
  have hs0 : w.heap.size ≤ N1 := by omega
  have hlt0 : w.heap.size < N1 := by omega
  have hNW : N1 ≤ W0.heap.size := by omega
  clear hW0 hN1
  go_loopw [5, 6] (fun v i wr => ∃ k M : Nat, i = .int .i64 k ∧ k ≤ n ∧ M ≤ k ∧ Hid ((keepF nm (fs.take k)).length = M) ∧ wr.ownsRow N1 28 2 v M (fcells (keepF nm (fs.take k))) ∧ Below N1 W0 wr) (fun _ i _ => n - (intOf i).toNat)
  case atStart => exact ⟨0, 0, rfl, by omega, by omega, Lib.hid rfl, hown0, hC0⟩
  case round =>
    obtain ⟨k, M, rfl, hk, hM, hml, hown, hC⟩ := hrel
    have hB := hB0.trans (hC.mono hs0)
    have hs1 := hB.size
    have hsC := Nat.le_trans hNW hC.size
    have hcr := (hC.cell (p := ⟨w.heap.size, 0, none⟩) hlt0).trans c00
    clear hown0
    by_cases hlt : k < n
    · obtain ⟨b, o, p, rfl, hp, g0, g1⟩ := (hA.below hB).one (k := k) (by rw [HN.out]; exact hlt)
      have hcall := rsame2_any p.1 nm wr hnm
      have hst := keepF_snoc nm (fs.take k) p
      rw [← take_succ_of hp.out] at hst
      cases hs : sameN p.1 nm with
      | true =>
        rw [hs] at hcall hst
        simp only [if_true, List.append_nil] at hst
        have HST := Lib.hid hst
        clear hs hst
        go_wp2_with fail
        refine hcall.mono ?_
        rintro e w2 ⟨rfl, hd2⟩
        have hown2 := own_below hown (hd2.below _)
        have hB2 := hC.trans ((hd2.below _).mono hsC)
        go_wp2_with fail
        go_roundw
        case rel => exact ⟨k + 1, M, by go_num, by omega, by omega, Lib.hid (by rw [HST.out]; exact hml.out), by rw [HST.out]; exact hown2, hB2⟩
        case measure => simp [intOf]; omega
      | false =>
        rw [hs] at hcall hst
        simp only [Bool.false_eq_true, if_false] at hst
        have HST := Lib.hid hst
        clear hs hst
        go_wp2_with fail
        refine hcall.mono ?_
        rintro e w2 ⟨rfl, hd2⟩
        have hC2 := hd2.below wr.heap.size
        have hown2 := own_below hown hC2
        have hB2 := hC.trans (hC2.mono hsC)
        have hs2 := Nat.le_trans hNW hB2.size
        have hcr2 := (hC2.cell (p := ⟨w.heap.size, 0, none⟩) (cell_lt hcr)).trans hcr
        have g12 := (hC2.cell (p := ⟨b, o + k * 2 + 1, none⟩) (cell_lt g1)).trans g1
        have g02 := (hC2.cell (p := ⟨b, o + k * 2, none⟩) (cell_lt g0)).trans g0
        go_wp2_with (at_builtin; refine wpList_app rfl (.tmp 24) (.tmp 30) _ _ rfl TField (hown2.alloc (.cells #[strv p.1, strv p.2] 28)) rfl (Src_rv (news := [strv p.1, strv p.2]) Tryd.underlying22 rfl (Rv_new w2 _ _ _ rfl) (by simp [Value.oneCell', strv]) (by omega)) rfl (by omega) (by simp; omega) ?_; intro v6 w6 hown6 hgr6 hat6; have hB6 := below_app (hB2.alloc hs2 (.cells #[strv p.1, strv p.2] 28)) (hown2.alloc _) hgr6 (by simp; omega) (Nat.le_refl _))
        go_roundw
        case rel => exact ⟨k + 1, M + 1, by go_num, by omega, by omega, Lib.hid (by rw [HST.out, List.length_append, hml.out]; rfl), by rw [HST.out, fcells_app]; exact hown6, hB6⟩
        case measure => simp [intOf]; omega
    · obtain rfl : k = n := by omega
      have hfa : fs.take k = fs := List.take_of_length_le (by rw [HN.out]; omega)
      rw [hfa] at hown hml
      have HML := hml
      clear hfa
      go_wp2_with fail
      go_ret
      exact ⟨_, rfl, by rw [HML.out]; exact own_base hown hs0, hB⟩
set_option maxRecDepth 100000 in
set_option maxHeartbeats 2000000 in
theorem rset_any (A A2 : Option Addr) (fs : List (List UInt8 × List UInt8)) (nm v : List UInt8) (n c n2 c2 : Nat) (w : World) (hn : fs.length = n) (hA : Rf w A fs) (hnm : nm.length ≤ 1000000000) (hb : n ≤ 1000000) :
    Calls Tryd.prog 25 #[.agg #[.slice A n c, .slice A2 n2 c2], .string (bs nm), .string (bs v)] w (FsOut (setN nm v fs) w) := by
  have HN := Lib.hid hn
  clear hn
  have hpu : ∀ W, Sem.run Tryd.prog (pure #[] : Sem (Array Value)) W = .ok #[] W := fun _ => rfl
  have hst : ∀ a W, Sem.run Tryd.prog (storeCells a []) W = .ok () W := fun _ _ => rfl
  have hB0 : Below w.heap.size w (w.alloc (.cells #[.slice A n c, .slice A2 n2 c2] 41)) := (Below.refl _ _).alloc (Nat.le_refl _) _
  have c00 : (w.alloc (.cells #[.slice A n c, .slice A2 n2 c2] 41)).cell? ⟨w.heap.size, 0, none⟩ = some (.slice A n c) := by simp
  go_enter Tryd.func25, Tryd.ntmps25
  go_wp2_with fail
  have hW0 : (w.alloc (.cells #[.slice A n c, .slice A2 n2 c2] 41)).heap.size = w.heap.size + 1 := by simp
  generalize w.alloc (.cells #[.slice A n c, .slice A2 n2 c2] 41) = W0 at *
  have hown0 := World.ownsRow_made (base := W0.heap.size) (e := 28) (size := 2) W0 #[] 0 (Nat.le_refl _) (by unfold maxLen; omega) rfl
  have hC0 : Below W0.heap.size W0 (W0.alloc (.cells #[] 28)) := (Below.refl _ _).alloc (Nat.le_refl _) _
  rw [hW0] at hown0 hC0
  obtain ⟨N1, hN1⟩ : ∃ N1, w.heap.size + 1 = N1 := ⟨_, rfl⟩
  rw [hN1] at hown0 hC0 ⊢
  have hs0 : w.heap.size ≤ N1 := by omega
  have hlt0 : w.heap.size < N1 := by omega
  have hNW : N1 ≤ W0.heap.size := by omega
  clear hW0 hN1
  go_loopw [7, 8, 9] (fun x d i wr => ∃ k M : Nat, i = .int .i64 k ∧ d = .bool (decide (ahead nm fs < k)) ∧ k ≤ n ∧ M ≤ k ∧ Hid ((setAt nm v fs k).length = M) ∧ wr.ownsRow N1 28 2 x M (fcells (setAt nm v fs k)) ∧ Below N1 W0 wr) (fun _ _ i _ => n - (intOf i).toNat)
  case atStart => exact ⟨0, 0, rfl, by simp, by omega, by omega, Lib.hid (by simp [setAt]), by simpa [setAt, fcells] using hown0, hC0⟩
  case round =>
    obtain ⟨k, M, rfl, rfl, hk, hM, hml, hown, hC⟩ := hrel
    have hB := hB0.trans (hC.mono hs0)
    have hs1 := hB.size
    have hsC := Nat.le_trans hNW hC.size
    have hcr := (hC.cell (p := ⟨w.heap.size, 0, none⟩) hlt0).trans c00
    clear hown0
    by_cases hlt : k < n
    · obtain ⟨b, o, p, rfl, hp, g0, g1⟩ := (hA.below hB).one (k := k) (by rw [HN.out]; exact hlt)
      have hcall := rsame2_any p.1 nm wr hnm
      have hhit := fun hs => @setAt_hit nm v fs k p hp.out hs
      have hskip := fun hs => @setAt_skip nm v fs k p hp.out hs
      have hkeep := fun hs => @setAt_keep nm v fs k p hp.out hs
      cases hs : sameN p.1 nm with
      | true =>
        rw [hs] at hcall
        by_cases hd : ahead nm fs < k
        · have HSK := Lib.hid (hskip hs hd)
          have hdt : decide (ahead nm fs < k) = true := decide_eq_true hd
          have hdt2 : decide (ahead nm fs < k + 1) = true := decide_eq_true (by omega)
          rw [hdt]
          have HDT2 := Lib.hid hdt2
          clear hhit hskip hkeep hs hd hdt hdt2
          go_wp2_with fail
          refine hcall.mono ?_
          rintro e w2 ⟨rfl, hd2⟩
          have hown2 := own_below hown (hd2.below _)
          have hB2 := hC.trans ((hd2.below _).mono hsC)
          go_wp2_with fail
          go_roundw
          case rel => exact ⟨k + 1, M, by go_num, by rw [HDT2.out], by omega, by omega, Lib.hid (by rw [HSK.out]; exact hml.out), by rw [HSK.out]; exact hown2, hB2⟩
          case measure => simp [intOf]; omega
        · obtain ⟨hak, hst⟩ := hhit hs hd
          have HST := Lib.hid hst
          have hdt : decide (ahead nm fs < k) = false := decide_eq_false hd
          have hdt2 : decide (ahead nm fs < k + 1) = true := decide_eq_true (by omega)
          rw [hdt]
          have HDT2 := Lib.hid hdt2
          clear hhit hskip hkeep hs hd hdt hdt2 hak hst
          go_wp2_with fail
          refine hcall.mono ?_
          rintro e w2 ⟨rfl, hd2⟩
          have hC2 := hd2.below wr.heap.size
          have hown2 := own_below hown hC2
          have hB2 := hC.trans (hC2.mono hsC)
          have hs2 := Nat.le_trans hNW hB2.size
          go_wp2_with (at_builtin; refine wpList_app rfl (.tmp 37) (.tmp 41) _ _ rfl TField (hown2.alloc (.cells #[strv nm, strv v] 28)) rfl (Src_rv (news := [strv nm, strv v]) Tryd.underlying22 rfl (Rv_new w2 _ _ _ rfl) (by simp [Value.oneCell', strv]) (by omega)) rfl (by omega) (by simp; omega) ?_; intro v6 w6 hown6 hgr6 hat6; have hB6 := below_app (hB2.alloc hs2 (.cells #[strv nm, strv v] 28)) (hown2.alloc _) hgr6 (by simp; omega) (Nat.le_refl _))
          go_roundw
          case rel => exact ⟨k + 1, M + 1, by go_num, by rw [HDT2.out], by omega, by omega, Lib.hid (by rw [HST.out, List.length_append, hml.out]; rfl), by rw [HST.out, fcells_app]; exact hown6, hB6⟩
          case measure => simp [intOf]; omega
      | false =>
        rw [hs] at hcall
        obtain ⟨hst, hdd⟩ := hkeep hs
        have HST := Lib.hid hst
        have HDD := Lib.hid hdd
        clear hhit hskip hkeep hs hst hdd
        generalize hdx : decide (ahead nm fs < k) = dx
        have HDX := Lib.hid hdx
        clear hdx
        go_wp2_with fail
        refine hcall.mono ?_
        rintro e w2 ⟨rfl, hd2⟩
        have hC2 := hd2.below wr.heap.size
        have hown2 := own_below hown hC2
        have hB2 := hC.trans (hC2.mono hsC)
        have hs2 := Nat.le_trans hNW hB2.size
        have hcr2 := (hC2.cell (p := ⟨w.heap.size, 0, none⟩) (cell_lt hcr)).trans hcr
        have g12 := (hC2.cell (p := ⟨b, o + k * 2 + 1, none⟩) (cell_lt g1)).trans g1
        have g02 := (hC2.cell (p := ⟨b, o + k * 2, none⟩) (cell_lt g0)).trans g0
        go_wp2_with (at_builtin; refine wpList_app rfl (.tmp 27) (.tmp 33) _ _ rfl TField (hown2.alloc (.cells #[strv p.1, strv p.2] 28)) rfl (Src_rv (news := [strv p.1, strv p.2]) Tryd.underlying22 rfl (Rv_new w2 _ _ _ rfl) (by simp [Value.oneCell', strv]) (by omega)) rfl (by omega) (by simp; omega) ?_; intro v6 w6 hown6 hgr6 hat6; have hB6 := below_app (hB2.alloc hs2 (.cells #[strv p.1, strv p.2] 28)) (hown2.alloc _) hgr6 (by simp; omega) (Nat.le_refl _))
        go_roundw
        case rel => exact ⟨k + 1, M + 1, by go_num, by rw [HDD.out, HDX.out], by omega, by omega, Lib.hid (by rw [HST.out, List.length_append, hml.out]; rfl), by rw [HST.out, fcells_app]; exact hown6, hB6⟩
        case measure => simp [intOf]; omega
    · obtain rfl : k = n := by omega
      have hend := @setAt_end nm v fs
      rw [HN.out] at hend
      by_cases hd : ahead nm fs < k
      · rw [if_pos hd] at hend
        have HE := Lib.hid hend
        have hdt : decide (ahead nm fs < k) = true := decide_eq_true hd
        rw [hdt]
        have HML := hml
        clear hend hd hdt hml
        go_wp2_with fail
        go_ret
        exact ⟨_, rfl, by rw [HE.out, HML.out]; exact own_base hown hs0, hB⟩
      · rw [if_neg hd] at hend
        have HE := Lib.hid hend
        have hdt : decide (ahead nm fs < k) = false := decide_eq_false hd
        rw [hdt]
        have HML := hml
        clear hend hd hdt hml
        go_wp2_with (at_builtin; refine wpList_app rfl (.tmp 45) (.tmp 49) _ _ rfl TField (hown.alloc (.cells #[strv nm, strv v] 28)) rfl (Src_rv (news := [strv nm, strv v]) Tryd.underlying22 rfl (Rv_new wr _ _ _ rfl) (by simp [Value.oneCell', strv]) (by omega)) rfl (by omega) (by simp; omega) ?_; intro v6 w6 hown6 hgr6 hat6; have hB6 := below_app (hC.alloc hsC (.cells #[strv nm, strv v] 28)) (hown.alloc _) hgr6 (by simp; omega) (Nat.le_refl _))
        go_ret
        exact ⟨_, rfl, by rw [HE.out, fcells_app, List.length_append, HML.out]; exact own_base hown6 hs0, hB0.trans (hB6.mono hs0)⟩
end Go.Proofs.YtgohdohkikkeeaaDoor
