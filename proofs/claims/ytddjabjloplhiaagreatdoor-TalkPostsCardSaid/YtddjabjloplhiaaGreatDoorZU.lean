/- The document's Unstuff. -/
import Derived.Test.YtddjabjloplhiaaGreatDoorZ7
import Derived.Test.YtddjabjloplhiaaGreatDoorY4
namespace Go.Proofs.YtddjabjloplhiaaGreatDoor
set_option linter.unusedVariables false
set_option linter.unusedSimpArgs false
open Go.RowKit

/-- what the document's Unstuff hands back -/
def RUnOut (b : List UInt8) (w : World) (e : Ending) (w' : World) : Prop :=
  match unst b with
  | none => e = .returned (.tuple #[.slice none 0 0, .slice none 0 0, .int .i64 7])
  | some (m, r) => ∃ v1 v2, e = .returned (.tuple #[v1, v2, .int .i64 0]) ∧ OwnM w' w.heap.size 5 1 v1 m.length (m.map bv) ∧ OwnM w' w.heap.size 5 1 v2 r.length (r.map bv)
theorem rUnOut_none {l : List UInt8} {w w' : World} {e : Ending} (h : unst l = none) (he : e = .returned (.tuple #[.slice none 0 0, .slice none 0 0, .int .i64 7])) : RUnOut l w e w' := by
  unfold RUnOut
  rw [h]
  exact he
theorem rUnOut_some {l m r : List UInt8} {v1 v2 : Value} {w w' : World} {e : Ending} (h : unst l = some (m, r)) (he : e = .returned (.tuple #[v1, v2, .int .i64 0])) (h1 : OwnM w' w.heap.size 5 1 v1 m.length (m.map bv)) (h2 : OwnM w' w.heap.size 5 1 v2 r.length (r.map bv)) : RUnOut l w e w' := by
  unfold RUnOut
  rw [h]
  exact ⟨v1, v2, he, h1, h2⟩
/-- so much of the mail is told -/
def UlAt (b : List UInt8) (rest m : List UInt8) (ls : List (List UInt8)) : Prop := unst b = (unL rest ls).map fun p => (m ++ p.1, p.2)
theorem UlAt.next {b rest m l : List UInt8} {ls : List (List UInt8)} (h : UlAt b rest m (l :: ls)) (hl : l ≠ [46]) : UlAt b rest (m ++ undot l ++ [13, 10]) ls := by
  unfold UlAt at *
  rw [h]
  conv => lhs; unfold unL
  rw [if_neg hl]
  cases unL rest ls <;> simp
theorem UlAt.stop {b rest m l : List UInt8} {ls : List (List UInt8)} (h : UlAt b rest m (l :: ls)) (hl : l = [46]) : unst b = some (m, joinE ls ++ rest) := by
  unfold UlAt at h
  rw [h]
  conv => lhs; unfold unL
  rw [if_pos hl]
  simp
theorem UlAt.none {b rest m : List UInt8} (h : UlAt b rest m []) : unst b = none := h

/-- a line of a row of lines, in memory -/
theorem line_at {w1 wr : World} {base cv q : Nat} {Av : Option Addr} {ts : List Tl} {vs : List Value} (ho : OwnM w1 base 22 1 (.slice Av ts.length cv) ts.length (ts.map (·.2))) (hl : LsOk w1 base vs ts) (hB : Below w1.heap.size w1 wr) (hq : q < ts.length) :
    ∃ bo oo l Al cl, Av = some ⟨bo, oo, none⟩ ∧ Hid ((ts.map (·.1))[q]? = some l) ∧ wr.cell? ⟨bo, oo + q, none⟩ = some (.slice Al l.length cl) ∧ Rb wr Al l ∧ l.length ≤ cl := by
  obtain ⟨A', c', e, _, _, hR, _, _, _⟩ := ho.form
  cases e
  obtain ⟨bo, oo, e, hc⟩ := hR (by simp; omega)
  have ht : ts[q]? = some ts[q] := List.getElem?_eq_getElem hq
  obtain ⟨h1, _⟩ := hl _ (List.getElem_mem hq)
  obtain ⟨Al, cl, hs, hlc, _, hRl, _, _, _⟩ := h1.form
  refine ⟨bo, oo, ts[q].1, Al, cl, e, Lib.hid (by rw [List.getElem?_map, ht]; rfl), ?_, Rb.below hRl hB, hlc⟩
  have := hc q ts[q].2 (by rw [List.getElem?_map, ht]; rfl)
  rw [hs] at this
  exact (hB.cell (p := ⟨bo, oo + q, none⟩) (cell_lt this)).trans this
theorem drop_atL {α : Type} {l : List α} {q : Nat} {c : α} (h : l[q]? = some c) : l.drop q = c :: l.drop (q + 1) := by
  obtain ⟨hlt, he⟩ := List.getElem?_eq_some_iff.1 h
  rw [List.drop_eq_getElem_cons hlt, he]
theorem joinE_drop {ls : List (List UInt8)} {q : Nat} {l : List UInt8} (h : ls[q]? = some l) : joinE (ls.drop q) = l ++ [13, 10] ++ joinE (ls.drop (q + 1)) := by
  rw [drop_atL h, joinE_cons]

set_option maxRecDepth 100000 in
set_option maxHeartbeats 4000000 in
theorem runstuff_any (A : Option Addr) (b : List UInt8) (n c : Nat) (w : World) (hn : b.length = n) (hA : Rb w A b) (hnc : n ≤ c) (hb : n ≤ 1000000) :
    Calls Tryz.prog 18 #[.slice A n c] w fun e w' => RUnOut b w e w' ∧ Below w.heap.size w w' := by
  subst hn
  have hpu : ∀ W, Sem.run Tryz.prog (pure #[] : Sem (Array Value)) W = .ok #[] W := fun _ => rfl
  have hst : ∀ a W, Sem.run Tryz.prog (storeCells a []) W = .ok () W := fun _ _ => rfl
  have hsp := rsplit_any A b b.length c w rfl hA hnc hb
  unfold SplitOut at hsp
  have hjl := (spl_len b).2
  have hjl1 := (spl_len b).1
  have hU0 := (unL_spl _ b (Nat.le_refl _)).symm
  obtain ⟨ls, hls⟩ : ∃ ls, (spl b).1 = ls := ⟨_, rfl⟩
  obtain ⟨rest, hrest⟩ : ∃ r, (spl b).2 = r := ⟨_, rfl⟩
  rw [hls, hrest] at hjl hU0 hsp
  rw [hls] at hjl1
  have HU0 := Lib.hid hU0
  clear hls hrest hU0
  go_enter Tryz.func18, Tryz.ntmps18
  go_wp2_with fail
  refine hsp.mono ?_
  rintro e w1 ⟨⟨v, v2, ts, rfl, hts, ho, hr, hlok, hsep⟩, hb1⟩
  clear hsp hsep
  obtain ⟨Av, cv, rfl, hnv, _, _, _, _, _⟩ := ho.form
  obtain ⟨A2, c2, rfl, hn2, _, hR2, _, _, _⟩ := hr.form
  have HTS := Lib.hid hts
  have htl : ts.length = ls.length := by rw [← hts]; simp
  have htb : ts.length ≤ 1000000 := by omega
  have HTL := Lib.hid htl
  have hs1 := hb1.size
  have hB0 : Below w1.heap.size w1 (w1.alloc (.cells #[] 5)) := (Below.refl _ _).alloc (Nat.le_refl _) _
  have hown0 : OwnM (w1.alloc (.cells #[] 5)) w1.heap.size 5 1 (.slice (some ⟨w1.heap.size, 0, none⟩) 0 0) 0 [] := OwnM.of (World.ownsRow_made (base := w1.heap.size) (e := 5) (size := 1) w1 #[] 0 (Nat.le_refl _) (by unfold maxLen; omega) rfl)
  have HR2 := Lib.hid (show Rb w1 A2 rest from hR2)
  have HO := Lib.hid ho
  have HLK := Lib.hid hlok
  clear hts htl hr ho hlok hR2
  go_wp2_with fail
  go_loopw [7, 8] (fun mv i wr => ∃ (q : Nat) (m : List UInt8), i = .int .i64 q ∧ q ≤ ts.length ∧ m.length + (joinE (ls.drop q)).length ≤ (joinE ls).length ∧ Hid (UlAt b rest m (ls.drop q)) ∧ OwnM wr w1.heap.size 5 1 mv m.length (m.map bv) ∧ Below w1.heap.size w1 wr) (fun _ i _ => ts.length - (intOf i).toNat)
  case atStart =>
    refine ⟨0, [], rfl, by omega, by simp, Lib.hid ?_, hown0, hB0⟩
    unfold UlAt
    rw [List.drop_zero, HU0.out]
    cases unL rest ls <;> simp
  case round =>
    clear hown0 hB0
    obtain ⟨q, m, rfl, hq, hml, hU, hown, hB⟩ := hrel
    have hs := hB.size
    have HOWN := Lib.hid hown
    obtain ⟨Am, cm, rfl, _, _, _, _, _, _⟩ := hown.form
    by_cases hlt : q < ts.length
    · obtain ⟨bo, oo, l, Al, cl, rfl, hl, cl1, hRl, hlc⟩ := line_at HO.out HLK.out hB hlt
      have hl' : ls[q]? = some l := by have := hl.out; rwa [HTS.out] at this
      have hjd := joinE_drop hl'
      have hdr := drop_atL hl'
      have hU1 := hU.out
      rw [hdr] at hU1
      rw [hjd] at hml
      simp only [List.length_append, List.length_cons, List.length_nil] at hml
      by_cases h46 : l = [46]
      · have HST := Lib.hid (hU1.stop h46)
        subst h46
        obtain ⟨b9, o9, rfl, c46⟩ := rv_one hRl
        clear hU hU1 hl hl' hjd hdr hRl
        obtain ⟨wo, rfl⟩ : ∃ wo : World, wo = wr := ⟨_, rfl⟩
        have hB2 : Below wo.heap.size wo (wo.alloc (.cells #[] 5)) := (Below.refl _ _).alloc (Nat.le_refl _) _
        have hown2 : OwnM (wo.alloc (.cells #[] 5)) wo.heap.size 5 1 (.slice (some ⟨wo.heap.size, 0, none⟩) 0 0) 0 [] := OwnM.of (World.ownsRow_made (base := wo.heap.size) (e := 5) (size := 1) wo #[] 0 (Nat.le_refl _) (by unfold maxLen; omega) rfl)
        clear hown
        go_wp2_with fail
        go_loopw [9, 10] (fun bv2 k wr => ∃ (j : Nat) (d : List UInt8), k = .int .i64 j ∧ j ≤ ts.length ∧ Hid (d ++ joinE (ls.drop j) = joinE (ls.drop (q + 1))) ∧ d.length + (joinE (ls.drop j)).length ≤ (joinE ls).length ∧ OwnM wr wo.heap.size 5 1 bv2 d.length (d.map bv) ∧ Below wo.heap.size wo wr) (fun _ k _ => ts.length - (intOf k).toNat)
        case atStart => exact ⟨q + 1, [], by go_num, by omega, Lib.hid rfl, by simp; omega, hown2, hB2⟩
        case round =>
          clear hown2 hB2
          obtain ⟨j, d, rfl, hj, hd, hdl, hownd, hBd⟩ := hrel
          have hBw : Below w1.heap.size w1 wr := hB.trans (hBd.mono hs)
          have hsd := hBd.size
          have HOWND := Lib.hid hownd
          obtain ⟨Ad, cd, rfl, _, _, _, _, _, _⟩ := hownd.form
          by_cases hlt2 : j < ts.length
          · obtain ⟨bo', oo', l, Al, cl, e, hl, cl2, hRl, hlc⟩ := line_at HO.out HLK.out hBw hlt2
            cases e
            have hl' : ls[j]? = some l := by have := hl.out; rwa [HTS.out] at this
            have hjd := joinE_drop hl'
            have hd1 := hd.out
            rw [hjd] at hd1 hdl
            simp only [List.length_append, List.length_cons, List.length_nil] at hdl
            have HD := Lib.hid hd1
            clear hd hd1 hl hl' hjd cl1 c46
            go_wp2_with (first
              | (at_builtin; refine wpList_appM rfl _ _ _ _ rfl TU8 HOWND.out rfl (Src_rb Tryz.underlying22 rfl hRl) rfl (by omega) hsd ?_; intro v4 w4 own4 gr4 at4; have hB4 := below_appM hBd HOWND.out gr4 hsd (Nat.le_refl _); have hs4 := hB4.size; have HO4 := Lib.hid own4; obtain ⟨A4, c4, rfl, _, _, _, _, _, _⟩ := own4.form; clear own4 gr4 at4)
              | (at_builtin; refine wpList_appM rfl _ _ _ _ rfl TU8 (HO4.out.alloc (.cells #[bv 13, bv 10] 5)) rfl (Src_rv (news := [bv 13, bv 10]) Tryz.underlying22 rfl (Rv_new w4 _ _ _ rfl) (by simp [Value.oneCell', bv]) (by omega)) rfl (by omega) (by simp; omega) ?_; intro v5 w5 own5 gr5 at5; have hB5 := below_appM (hB4.alloc hs4 (.cells #[bv 13, bv 10] 5)) (HO4.out.alloc (.cells #[bv 13, bv 10] 5)) gr5 (by simp; omega) (Nat.le_refl _); have HO5 := Lib.hid own5; clear own5 gr5 at5))
            go_roundw
            case rel => exact ⟨j + 1, d ++ l ++ [13, 10], by go_num, by omega, Lib.hid (by rw [← HD.out]; simp), by simp only [List.length_append, List.length_cons, List.length_nil]; omega, ownM_eq HO5.out (by simp; omega) (by simp), hB5⟩
            case measure => simp [intOf]; omega
          · obtain rfl : j = ts.length := by omega
            have hd1 := hd.out
            rw [List.drop_of_length_le (by rw [← HTL.out]; exact Nat.le_refl _)] at hd1
            have HD := Lib.hid hd1
            have hRr := HR2.out.below hBw
            clear hd hd1 cl1 c46
            go_wp2_with (at_builtin; refine wpList_appM rfl _ _ _ _ rfl TU8 HOWND.out rfl (Src_rb Tryz.underlying22 rfl hRr) rfl (by omega) hsd ?_; intro v4 w4 own4 gr4 at4; have hB4 := below_appM hBd HOWND.out gr4 hsd (Nat.le_refl _); have HO4 := Lib.hid own4; obtain ⟨A4, c4, rfl, _, _, _, _, _, _⟩ := own4.form; clear own4 gr4 at4)
            go_ret3
            refine ⟨rUnOut_some HST.out rfl ((HOWN.out.below hB4).rebase hs1) (ownM_eq (HO4.out.rebase (by omega)) ?_ ?_), (hb1.trans (hB.mono hs1)).trans (hB4.mono (by omega))⟩
            · rw [← HD.out]; simp [joinE]
            · rw [← HD.out]; simp [joinE]
      have HU := Lib.hid (hU1.next h46)
      have hul := undot_len l
      have hsrc0 : Rb wr Al l := hRl
      rcases list_cases l with hlz | ⟨x, r, hlz⟩
      · subst hlz
        have hun : undot ([] : List UInt8) = [] := rfl
        rw [hun] at HU
        simp only [List.append_nil] at HU
        clear hU hU1 hl hl' hjd hdr h46 hown hul
        go_wp2_with (first
          | (at_builtin; refine wpList_appM rfl _ _ _ _ rfl TU8 HOWN.out rfl (Src_rb Tryz.underlying22 rfl hRl) rfl (by simp; omega) hs ?_; intro v4 w4 own4 gr4 at4; have hB4 := below_appM hB HOWN.out gr4 hs (Nat.le_refl _); have hs4 := hB4.size; have HO4 := Lib.hid own4; obtain ⟨A4, c4, rfl, _, _, _, _, _, _⟩ := own4.form; clear own4 gr4 at4)
          | (at_builtin; refine wpList_appM rfl _ _ _ _ rfl TU8 (HO4.out.alloc (.cells #[bv 13, bv 10] 5)) rfl (Src_rv (news := [bv 13, bv 10]) Tryz.underlying22 rfl (Rv_new w4 _ _ _ rfl) (by simp [Value.oneCell', bv]) (by omega)) rfl (by simp; omega) (by simp; omega) ?_; intro v5 w5 own5 gr5 at5; have hB5 := below_appM (hB4.alloc hs4 (.cells #[bv 13, bv 10] 5)) (HO4.out.alloc (.cells #[bv 13, bv 10] 5)) gr5 (by simp; omega) (Nat.le_refl _); have HO5 := Lib.hid own5; clear own5 gr5 at5))
        go_roundw
        case rel => exact ⟨q + 1, m ++ [13, 10], by go_num, by omega, by simp at hml ⊢; omega, HU, ownM_eq HO5.out (by simp) (by simp), hB5⟩
        case measure => simp [intOf]; omega
      · have hlen1 : r.length + 1 ≤ l.length := by rw [hlz]; simp
        have hlen2 : l.length ≤ r.length + 1 := by rw [hlz]; simp
        have hRx := hRl
        rw [hlz] at hRx
        obtain ⟨b9, o9, rfl, cx⟩ := rv_one hRx
        have t46 : ((x.toNat : Int) == 46) = (x == 46) := u8_test x 46 rfl
        have hgt : (0 : Int) < (l.length : Int) := by omega
        by_cases hx : x = 46
        · have hb46 : ((x.toNat : Int) == 46) = true := by rw [t46, hx]; rfl
          have hr1 : 1 ≤ r.length := by
            rcases r with _ | _
            · exact absurd (by rw [hlz, hx]) h46
            · simp
          have hne1 : ((l.length : Int) == 1) = false := by rw [beq_eq_false_iff_ne]; omega
          have hun := head46 hlz hx
          rw [hun] at HU
          obtain ⟨A', hsl, hrd, _, hA2, _⟩ := slice_from (P := Tryz.prog) (t := 22) (e := 5) (s := 1) Tryz.underlying22 (fun w => Tryz.sizeOf5 w) (some ⟨b9, o9, none⟩) l.length cl 1 (by omega) (by omega)
          have hRr : Rb wr A' r := by
            have := hrd wr (l.map bv) (by simp) hRl
            rw [hlz] at this
            show Rv wr A' (r.map bv)
            simpa using this
          have hsl1 : ∀ W, (Instr.slice 22 (.slice (some ⟨b9, o9, none⟩) l.length cl) (some (.int .i64 1)) none none).run Tryz.prog W = .ok (.slice A' (l.length - 1) (cl - 1)) W := hsl .i64
          have hrl : r.length = l.length - 1 := by omega
          have HRL := Lib.hid hrl
          clear hsl hrd hA2 hrl hlz hRx hRl hsrc0 h46 t46 hun hU hU1 hl hl' hjd hdr hown hul
          go_wp2_with (first
            | (at_builtin; refine wpList_appM rfl _ _ _ _ rfl TU8 HOWN.out rfl (Src_rb Tryz.underlying22 HRL.out hRr) rfl (by omega) hs ?_; intro v4 w4 own4 gr4 at4; have hB4 := below_appM hB HOWN.out gr4 hs (Nat.le_refl _); have hs4 := hB4.size; have HO4 := Lib.hid own4; obtain ⟨A4, c4, rfl, _, _, _, _, _, _⟩ := own4.form; clear own4 gr4 at4)
            | (at_builtin; refine wpList_appM rfl _ _ _ _ rfl TU8 (HO4.out.alloc (.cells #[bv 13, bv 10] 5)) rfl (Src_rv (news := [bv 13, bv 10]) Tryz.underlying22 rfl (Rv_new w4 _ _ _ rfl) (by simp [Value.oneCell', bv]) (by omega)) rfl (by omega) (by simp; omega) ?_; intro v5 w5 own5 gr5 at5; have hB5 := below_appM (hB4.alloc hs4 (.cells #[bv 13, bv 10] 5)) (HO4.out.alloc (.cells #[bv 13, bv 10] 5)) gr5 (by simp; omega) (Nat.le_refl _); have HO5 := Lib.hid own5; clear own5 gr5 at5))
          go_roundw
          case rel => exact ⟨q + 1, m ++ r ++ [13, 10], by go_num, by omega, by simp only [List.length_append, List.length_cons, List.length_nil]; omega, HU, ownM_eq HO5.out (by simp only [List.length_append, List.length_cons, List.length_nil]; omega) (by simp), hB5⟩
          case measure => simp [intOf]; omega
        · have hb46 : ((x.toNat : Int) == 46) = false := by rw [t46]; simp [hx]
          have hun := head46_no hlz hx
          rw [hun] at HU
          clear hlz hRx hsrc0 h46 hun t46 hU hU1 hl hl' hjd hdr hown hul
          have k1 : ((l.length : Int) == 1) = true ∨ ((l.length : Int) == 1) = false := by cases ((l.length : Int) == 1) <;> simp
          rcases k1 with k1 | k1
          all_goals
            go_wp2_with (first
              | (at_builtin; refine wpList_appM rfl _ _ _ _ rfl TU8 HOWN.out rfl (Src_rb Tryz.underlying22 rfl hRl) rfl (by omega) hs ?_; intro v4 w4 own4 gr4 at4; have hB4 := below_appM hB HOWN.out gr4 hs (Nat.le_refl _); have hs4 := hB4.size; have HO4 := Lib.hid own4; obtain ⟨A4, c4, rfl, _, _, _, _, _, _⟩ := own4.form; clear own4 gr4 at4)
              | (at_builtin; refine wpList_appM rfl _ _ _ _ rfl TU8 (HO4.out.alloc (.cells #[bv 13, bv 10] 5)) rfl (Src_rv (news := [bv 13, bv 10]) Tryz.underlying22 rfl (Rv_new w4 _ _ _ rfl) (by simp [Value.oneCell', bv]) (by omega)) rfl (by omega) (by simp; omega) ?_; intro v5 w5 own5 gr5 at5; have hB5 := below_appM (hB4.alloc hs4 (.cells #[bv 13, bv 10] 5)) (HO4.out.alloc (.cells #[bv 13, bv 10] 5)) gr5 (by simp; omega) (Nat.le_refl _); have HO5 := Lib.hid own5; clear own5 gr5 at5))
            go_roundw
            case rel => exact ⟨q + 1, m ++ l ++ [13, 10], by go_num, by omega, by simp only [List.length_append, List.length_cons, List.length_nil]; omega, HU, ownM_eq HO5.out (by simp only [List.length_append, List.length_cons, List.length_nil]) (by simp), hB5⟩
            case measure => simp [intOf]; omega
    · obtain rfl : q = ts.length := by omega
      have hU1 := hU.out
      rw [List.drop_of_length_le (by rw [← HTL.out]; exact Nat.le_refl _)] at hU1
      have HN := Lib.hid hU1.none
      clear hU hU1
      go_wp2_with fail
      go_ret3
      exact ⟨rUnOut_none HN.out rfl, hb1.trans (hB.mono hs1)⟩
end Go.Proofs.YtddjabjloplhiaaGreatDoor
