/- The program's Stuff. -/
import Derived.Test.YtddjabjloplhiaaGreatDoorW8
import Derived.Test.YtddjabjloplhiaaGreatDoorZM
namespace Go.Proofs.YtddjabjloplhiaaGreatDoor
set_option linter.unusedVariables false
set_option linter.unusedSimpArgs false
open Go.RowKit

theorem drop_atL2 {α : Type} {l : List α} {q : Nat} {c : α} (h : l[q]? = some c) : l.drop q = c :: l.drop (q + 1) := by
  obtain ⟨hlt, he⟩ := List.getElem?_eq_some_iff.1 h
  rw [List.drop_eq_getElem_cons hlt, he]
theorem OwnM.take {w : World} {base e n c k : Nat} {A : Option Addr} {xs : List Value} (h : OwnM w base e 1 (.slice A n c) n xs) (hk : k ≤ n) : OwnM w base e 1 (.slice A k c) k (xs.take k) := by
  have hl := h.1
  refine ⟨by simp; omega, ?_⟩
  rcases h.2 with ⟨hv, h0⟩ | ⟨g, cap, cur, fz, hv, hb, hg, hf, hnc, hcm, hcs, htake⟩
  · cases hv
    obtain rfl : k = 0 := by omega
    exact .inl ⟨rfl, rfl⟩
  · cases hv
    refine .inr ⟨g, c, cur, fz, rfl, hb, hg, hf, by omega, hcm, hcs, ?_⟩
    rw [← htake, List.take_take]
    congr 1
    omega
theorem line_at2 {w1 wr : World} {base cv q : Nat} {Av : Option Addr} {ts : List Tl} {vs : List Value} (ho : OwnM w1 base 22 1 (.slice Av ts.length cv) ts.length (ts.map (·.2))) (hl : LsOk w1 base vs ts) (hB : Below w1.heap.size w1 wr) (hq : q < ts.length) :
    ∃ bo oo l Al cl, Av = some ⟨bo, oo, none⟩ ∧ Hid ((ts.map (·.1))[q]? = some l) ∧ wr.cell? ⟨bo, oo + q, none⟩ = some (.slice Al l.length cl) ∧ Rb wr Al l ∧ l.length ≤ cl ∧ Rb w1 Al l ∧ w1.cell? ⟨bo, oo + q, none⟩ = some (.slice Al l.length cl) := by
  obtain ⟨A', c', e, _, _, hR, _, _, _⟩ := ho.form
  cases e
  obtain ⟨bo, oo, e, hc⟩ := hR (by simp; omega)
  have ht : ts[q]? = some ts[q] := List.getElem?_eq_getElem hq
  obtain ⟨h1, _⟩ := hl _ (List.getElem_mem hq)
  obtain ⟨Al, cl, hs, hlc, _, hRl, _, _, _⟩ := h1.form
  refine ⟨bo, oo, ts[q].1, Al, cl, e, Lib.hid (by rw [List.getElem?_map, ht]; rfl), ?_, Rb.below hRl hB, hlc, hRl, ?_⟩
  · have := hc q ts[q].2 (by rw [List.getElem?_map, ht]; rfl)
    rw [hs] at this
    exact (hB.cell (p := ⟨bo, oo + q, none⟩) (cell_lt this)).trans this
  · have := hc q ts[q].2 (by rw [List.getElem?_map, ht]; rfl)
    rwa [hs] at this
theorem dots_take {ls : List (List UInt8)} {q : Nat} {l : List UInt8} (h : ls[q]? = some l) : dots (ls.take (q + 1)) = dots (ls.take q) ++ dot l ++ [13, 10] := by
  rw [take_succ_of h, dots_app]
  simp [dots]
theorem dots_bound (ls : List (List UInt8)) (q : Nat) : (dots (ls.take q)).length ≤ 2 * (joinE ls).length := by
  have h1 := dots_len (ls.take q)
  have h2 : (joinE ls).length = (joinE (ls.take q)).length + (joinE (ls.drop q)).length := by rw [← List.length_append, ← joinE_app, List.take_append_drop]
  omega
theorem dot_yes {l : List UInt8} {x : UInt8} {r : List UInt8} (h : l = x :: r) (hx : x = 46) : dot l = [46] ++ l := by
  subst h
  subst hx
  rfl
theorem dot_no {l : List UInt8} {x : UInt8} {r : List UInt8} (h : l = x :: r) (hx : x ≠ 46) : dot l = l := by
  subst h
  unfold dot
  rw [if_neg (by simpa using hx)]
theorem lsOk_app {w w' : World} {base : Nat} {v v' : Value} {ts : List Tl} (h : LsOk w base [v] ts) (hx : Ext (fun k => nb v k) w w') (hv : ∀ k, nb v' k → nb v k ∨ w.heap.size ≤ k) : LsOk w' base [v'] ts :=
  h.next hx (fun k _ hk => ⟨_, List.mem_singleton.2 rfl, hk⟩) fun k hk ⟨u, hu, huk⟩ => by
    rw [List.mem_singleton.1 hu] at huk
    rcases hv k huk with h | h
    · exact ⟨_, List.mem_singleton.2 rfl, h⟩
    · omega
theorem lsOk_snoc {w : World} {base : Nat} {vs vs' : List Value} {ts : List Tl} {t : Tl} (h : LsOk w base vs ts) (hv : ∀ k, (∃ v ∈ vs', nb v k) → k < w.heap.size → ∃ v ∈ vs, nb v k) (ht : OwnM w base 5 1 t.2 t.1.length (t.1.map bv)) (hn : ∀ k, nb t.2 k → ∀ v ∈ vs', ¬ nb v k) : LsOk w base vs' (ts ++ [t]) := by
  intro x hx
  rcases List.mem_append.1 hx with hx | hx
  · obtain ⟨h1, h2⟩ := h x hx
    refine ⟨h1, fun k hk v hvm hvk => ?_⟩
    obtain ⟨u, hu, huk⟩ := hv k ⟨v, hvm, hvk⟩ (h1.lt k hk).2
    exact h2 k hk u hu huk
  · rw [List.mem_singleton.1 hx]
    exact ⟨ht, hn⟩

set_option maxRecDepth 100000 in
set_option maxHeartbeats 2000000 in
theorem pstuff_any (A : Option Addr) (b : List UInt8) (n c : Nat) (w : World) (hw : Mx w) (hn : b.length = n) (hA : Rb w A b) (hb : n ≤ 10000) :
    Calls Tryz.prog 27 #[.slice A n c] w fun e w' => (∃ v, e = .returned v ∧ OwnM w' w.heap.size 5 1 v (stuffP b).length ((stuffP b).map bv)) ∧ Below w.heap.size w w' := by
  subst hn
  have hwl := wholeP_len b
  have hll := laid_len b
  have hlj := laid_join b
  have hsl := spl_laid b
  have hsp1 := spl_len (wholeP b)
  go_enter Tryz.func27, Tryz.ntmps27
  go_wp2_with fail
  refine (whole_any A b b.length c w rfl hA (by omega)).mono ?_
  rintro e w1 ⟨⟨v1, rfl, ho1⟩, hb1⟩
  obtain ⟨A1, c1, rfl, hl1, _, hR1, _, hz1, hy1⟩ := ho1.form
  have hsp := psplit_any A1 (wholeP b) (wholeP b).length c1 w1 (hw.below hb1) rfl hR1 hl1 (pl_of hz1 hy1) (by omega)
  unfold SplitOut at hsp
  go_wp2_with fail
  refine hsp.mono ?_
  rintro e w2 ⟨⟨v, v2, ts, rfl, hts, ho, hr, hlok, hsep⟩, hb2⟩
  have hB2 := hb1.trans (hb2.mono hb1.size)
  have hs1 := hb1.size
  have hs2 := hb2.size
  have ho := ho.rebase hs1
  have hr := hr.rebase hs1
  have hlok : LsOk w2 w.heap.size [v, v2] ts := fun t ht => ⟨(hlok t ht).1.rebase hs1, (hlok t ht).2⟩
  obtain ⟨rest, hrest⟩ : ∃ r, (spl (wholeP b)).2 = r := ⟨_, rfl⟩
  obtain ⟨ls0, hls0⟩ : ∃ r, (spl (wholeP b)).1 = r := ⟨_, rfl⟩
  obtain ⟨ls, hls⟩ : ∃ r, (spl (laidP b)).1 = r := ⟨_, rfl⟩
  have hst0 : stuffP b = dots ls ++ [46, 13, 10] := by unfold stuffP; rw [hls]
  rw [hrest] at hr hsp1
  rw [hls0] at hts hsp1
  rw [hls, hls0, hrest] at hsl
  rw [hls] at hlj
  have hjl : (joinE ls).length ≤ 2 * b.length + 2 := by rw [hlj]; exact hll
  have htl : ts.length = ls0.length := by rw [← hts]; simp
  obtain ⟨Av, cv, rfl, _, _, _, _, _, _⟩ := ho.form
  obtain ⟨A2, c2, rfl, _, _, _, _, _, _⟩ := hr.form
  have hlv := ho.lt
  have hl2 := hr.lt
  have hno : ∀ k, nb (.slice A2 rest.length c2) k → ¬ nb (.slice Av ts.length cv) k := fun k h1 h2 => hsep 0 1 _ _ (by omega) rfl rfl k h2 h1
  have htb : ts.length ≤ 30000 := by omega
  have HST0 := Lib.hid hst0
  clear hsp hwl hll hlj hrest hls0 hls hst0 hsep htl hsp1
  have hlok1 : LsOk w2 w.heap.size [.slice Av ts.length cv] ts := hlok.next (S := fun _ => False) (Ext.refl _ _) (fun _ _ hs => hs.elim) fun k _ ⟨v, hv, hvk⟩ => ⟨v, by simp at hv ⊢; exact .inl hv, hvk⟩
  have hsw2 : w.heap.size ≤ w2.heap.size := by omega
  have HSL := Lib.hid hsl
  have HTS := Lib.hid hts
  have HLK := Lib.hid hlok1
  clear hlok hlok1 hsl hts
  rcases list_cases rest with hr0 | ⟨x0, r0, hr0⟩
  · have hi : ¬ (0 : Int) < (rest.length : Int) := by rw [hr0]; simp
    have HR0 := Lib.hid hr0
    clear hr0
    go_wp2_with (at_builtin; refine wpList_appM rfl _ _ _ _ rfl TBs (ho.alloc (.cells #[.slice none 0 0] 22)) rfl (Src_rv (news := [.slice none 0 0]) Tryz.underlying65 rfl (Rv_new w2 _ _ _ rfl) (by simp [Value.oneCell']) (by omega)) rfl (by omega) (by simp; omega) ?_; intro v6 w6 own6 gr6 at6; obtain ⟨A6, c6, rfl, _, _, _, _, _, _⟩ := own6.form)
    have hx6 : Ext (fun k => nb (.slice Av ts.length cv) k) w2 w6 := ((Ext.refl _ w2).alloc _).trans (Ext.of_grown (S := fun k => nb (.slice Av ts.length cv) k) gr6 (fun k e => e)) fun _ h => .inl h
    have hv6 : ∀ k, nb (.slice A6 (ts.length + 1) c6) k → nb (.slice Av ts.length cv) k ∨ w2.heap.size ≤ k := fun k hk => by
      unfold nb at hk ⊢
      rcases at6 with h | h
      · rw [h] at hk; exact .inl hk
      · rw [h] at hk; have := Option.some.inj hk; simp at this; exact .inr (by omega)
    have hk6 : LsOk w6 w.heap.size [.slice A6 (ts.length + 1) c6] (ts ++ [([], .slice none 0 0)]) := lsOk_snoc (lsOk_app HLK.out hx6 hv6) (fun k hv _ => hv) (OwnM.nil _ _ _ _) fun k hk => (nb_nil hk).elim
    have hm6 : (ts ++ [(([] : List UInt8), Value.slice none 0 0)]).map (·.1) = ls ++ [[]] := by
      rw [List.map_append, HTS.out, HSL.out.1, if_pos HR0.out]
      simp
    have hB6 : Below w.heap.size w w6 := (hx6.mono (T := fun k => w.heap.size ≤ k) fun k hk => (hlv k hk).1).below hB2 hsw2 fun _ h => h
    have ho6 : OwnM w6 w.heap.size 22 1 (.slice A6 (ts.length + 1) c6) (ts.length + 1) ((ts ++ [(([] : List UInt8), Value.slice none 0 0)]).map (·.2)) := by rw [List.map_append]; exact own6
    have hn6 : (ts ++ [(([] : List UInt8), Value.slice none 0 0)]).length = ts.length + 1 := by simp
    obtain ⟨tz, htz⟩ : ∃ tz, ts ++ [(([] : List UInt8), Value.slice none 0 0)] = tz := ⟨_, rfl⟩
    rw [htz] at hk6 hm6 ho6 hn6
    clear own6 gr6 at6 htz hx6 hv6
    have hs6 := hB6.size
    have HO := Lib.hid (show OwnM w6 w.heap.size 22 1 (.slice A6 tz.length c6) tz.length (tz.map (·.2)) by rw [hn6]; exact ho6)
    have HK := Lib.hid (show LsOk w6 w.heap.size [.slice A6 (ts.length + 1) c6] tz from hk6)
    have HM := Lib.hid hm6
    have HNT := Lib.hid hn6
    have hNb : (ts.length + 1) ≤ 1000000 := by omega
    clear ho6 hk6 hm6 hn6
    go_loopw [2, 24] (fun ov i wr => ∃ (q : Nat) (o : List UInt8), i = .int .i64 q ∧ q ≤ (ts.length + 1) ∧ Hid (o = dots ((ls ++ [[]]).take q)) ∧ o.length ≤ 100000 ∧ OwnM wr w6.heap.size 5 1 ov o.length (o.map bv) ∧ Below w6.heap.size w6 wr) (fun _ i _ => (ts.length + 1) - (intOf i).toNat)
    case atStart => exact ⟨0, [], rfl, by omega, Lib.hid rfl, by simp, OwnM.nil _ _ _ _, Below.refl _ _⟩
    case round =>
      obtain ⟨q, o, rfl, hq, hod, hol, hown, hB⟩ := hrel
      have hs := hB.size
      have HOWN := Lib.hid hown
      obtain ⟨Ao, co, rfl, _, _, _, _, _, _⟩ := hown.form
      clear hown
      by_cases hlt : q < (ts.length + 1)
      · obtain ⟨bo, oo, l, Al, cl, rfl, hl, cl1, hRl, hlc, hRl6, cl6⟩ := line_at2 HO.out HK.out hB (q := q) (by rw [HNT.out]; exact hlt)
        have hl' : (ls ++ [[]])[q]? = some l := by have := hl.out; rwa [HM.out] at this
        have hdt := dots_take hl'
        have hbd := dots_bound (ls ++ [[]]) (q + 1)
        rw [joinE_app, joinE_cons] at hbd
        have hbd2 : (dots ((ls ++ [[]]).take q) ++ dot l ++ [13, 10]).length ≤ 100000 := by
          rw [← hdt]
          simp [joinE] at hbd hjl ⊢
          omega
        rw [← hod.out] at hdt hbd2
        simp only [List.length_append, List.length_cons, List.length_nil] at hbd2
        have hdl : l.length ≤ (dot l).length := by unfold dot; split <;> simp
        have HDT := Lib.hid hdt
        clear hdt hl' hbd hod hl
        rcases list_cases l with hlz | ⟨x, r, hlz⟩
        · subst hlz
          have hd0 : dot ([] : List UInt8) = [] := rfl
          rw [hd0] at HDT hbd2
          clear hd0
          go_wp2_with (first
            | (at_builtin; refine wpList_appM rfl _ _ _ _ rfl TU8 HOWN.out rfl (Src_rb Tryz.underlying22 rfl hRl) rfl (by omega) hs ?_; intro v4 w4 own4 gr4 at4; have hB4 := below_appM hB HOWN.out gr4 hs (Nat.le_refl _); have hs4 := hB4.size; have HO4 := Lib.hid own4; obtain ⟨A4, c4, rfl, _, _, _, _, _, _⟩ := own4.form; clear own4 gr4 at4)
            | (at_builtin; refine wpList_appM rfl _ _ _ _ rfl TU8 HO4.out rfl (Src_str Tryz.underlying9 [13, 10]) rfl (by simp; omega) hs4 ?_; intro v5 w5 own5 gr5 at5; have hB5 := below_appM hB4 HO4.out gr5 hs4 (Nat.le_refl _); have hs5 := hB5.size; have HO5 := Lib.hid own5; obtain ⟨A5, c5, rfl, _, _, _, _, _, _⟩ := own5.form; clear own5 gr5 at5))
          go_roundw
          case rel => exact ⟨q + 1, o ++ [] ++ [13, 10], by go_num, by omega, Lib.hid HDT.out.symm, by simp at hbd2 ⊢; omega, ownM_eq HO5.out (by simp) (by simp), hB5⟩
          case measure => simp [intOf]; omega
        · have hRx := hRl
          rw [hlz] at hRx
          obtain ⟨b9, o9, rfl, cx⟩ := rv_one hRx
          have t46 : ((x.toNat : Int) == 46) = (x == 46) := u8_test x 46 rfl
          have hgt : (0 : Int) < (l.length : Int) := by rw [hlz, List.length_cons]; omega
          by_cases hx : x = 46
          · have hb46 : ((x.toNat : Int) == 46) = true := by rw [t46, hx]; rfl
            have hdy := dot_yes hlz hx
            rw [hdy] at HDT hbd2
            simp only [List.length_append, List.length_cons, List.length_nil] at hbd2
            clear hlz hRx t46 hdy hdl
            go_wp2_with (first
              | (at_builtin; refine wpList_appM rfl _ _ _ _ rfl TU8 (HOWN.out.alloc (.cells #[bv 46] 5)) rfl (Src_rv (news := [bv 46]) Tryz.underlying22 rfl (Rv_new wr _ _ _ rfl) (by simp [Value.oneCell', bv]) (by omega)) rfl (by omega) (by simp; omega) ?_; intro v3 w3 own3 gr3 at3; have hB3 := below_appM (hB.alloc hs (.cells #[bv 46] 5)) (HOWN.out.alloc (.cells #[bv 46] 5)) gr3 (by simp; omega) (Nat.le_refl _); have hs3 := hB3.size; have HO3 := Lib.hid own3; obtain ⟨A3, c3, rfl, _, _, _, _, _, _⟩ := own3.form; clear own3 gr3 at3)
              | (at_builtin; refine wpList_appM rfl _ _ _ _ rfl TU8 HO3.out rfl (Src_rb Tryz.underlying22 rfl (hRl6.below hB3)) rfl (by omega) hs3 ?_; intro v4 w4 own4 gr4 at4; have hB4 := below_appM hB3 HO3.out gr4 hs3 (Nat.le_refl _); have hs4 := hB4.size; have HO4 := Lib.hid own4; obtain ⟨A4, c4, rfl, _, _, _, _, _, _⟩ := own4.form; clear own4 gr4 at4)
              | (at_builtin; refine wpList_appM rfl _ _ _ _ rfl TU8 HO4.out rfl (Src_str Tryz.underlying9 [13, 10]) rfl (by simp; omega) hs4 ?_; intro v5 w5 own5 gr5 at5; have hB5 := below_appM hB4 HO4.out gr5 hs4 (Nat.le_refl _); have hs5 := hB5.size; have HO5 := Lib.hid own5; obtain ⟨A5, c5, rfl, _, _, _, _, _, _⟩ := own5.form; clear own5 gr5 at5))
            go_roundw
            case rel => exact ⟨q + 1, o ++ ([46] ++ l) ++ [13, 10], by go_num, by omega, Lib.hid HDT.out.symm, by simp only [List.length_append, List.length_cons, List.length_nil]; omega, ownM_eq HO5.out (by simp; omega) (by simp), hB5⟩
            case measure => simp [intOf]; omega
          · have hb46 : ((x.toNat : Int) == 46) = false := by rw [t46]; simp [hx]
            have hdy := dot_no hlz hx
            rw [hdy] at HDT hbd2
            clear hlz hRx t46 hdy hdl
            go_wp2_with (first
              | (at_builtin; refine wpList_appM rfl _ _ _ _ rfl TU8 HOWN.out rfl (Src_rb Tryz.underlying22 rfl hRl) rfl (by omega) hs ?_; intro v4 w4 own4 gr4 at4; have hB4 := below_appM hB HOWN.out gr4 hs (Nat.le_refl _); have hs4 := hB4.size; have HO4 := Lib.hid own4; obtain ⟨A4, c4, rfl, _, _, _, _, _, _⟩ := own4.form; clear own4 gr4 at4)
              | (at_builtin; refine wpList_appM rfl _ _ _ _ rfl TU8 HO4.out rfl (Src_str Tryz.underlying9 [13, 10]) rfl (by simp; omega) hs4 ?_; intro v5 w5 own5 gr5 at5; have hB5 := below_appM hB4 HO4.out gr5 hs4 (Nat.le_refl _); have hs5 := hB5.size; have HO5 := Lib.hid own5; obtain ⟨A5, c5, rfl, _, _, _, _, _, _⟩ := own5.form; clear own5 gr5 at5))
            go_roundw
            case rel => exact ⟨q + 1, o ++ l ++ [13, 10], by go_num, by omega, Lib.hid HDT.out.symm, by simp only [List.length_append, List.length_cons, List.length_nil]; omega, ownM_eq HO5.out (by simp; omega) (by simp), hB5⟩
            case measure => simp [intOf]; omega
      · obtain rfl : q = (ts.length + 1) := by omega
        have hNl : (ls ++ [[]]).length = (ts.length + 1) := by rw [← HM.out, List.length_map, HNT.out]
        have hof : o = dots ls ++ [13, 10] := by
          rw [hod.out, ← hNl, List.take_length, dots_app]
          simp [dots, dot]
        have hol2 : o.length = (dots ls).length + 2 := by rw [hof]; simp
        have hto : ∀ W, (Instr.slice 22 (.slice Ao o.length co) none (some (.int .i64 ((o.length : Int) - 2))) none).run Tryz.prog W = .ok (.slice Ao (dots ls).length co) W := fun W => by
          have h := slice_to (P := Tryz.prog) (t := 22) (e := 5) (s := 1) Tryz.underlying22 (fun w => Tryz.sizeOf5 w) Ao o.length co (dots ls).length (by omega) .i64 W
          rwa [show (((dots ls).length : Nat) : Int) = (o.length : Int) - 2 by omega] at h
        have hcut : OwnM wr w6.heap.size 5 1 (.slice Ao (dots ls).length co) (dots ls).length ((dots ls).map bv) := by
          have h := HOWN.out.take (k := (dots ls).length) (by omega)
          refine ownM_eq h rfl ?_
          rw [hof, List.map_append]
          exact List.take_left' (by simp)
        have HCUT := Lib.hid hcut
        have hdl : (dots ls).length ≤ 100000 := by omega
        clear hod hof hol2 hcut hNl HOWN
        go_wp2_with (first
          | (at_builtin; refine wpList_appM rfl _ _ _ _ rfl TU8 (HCUT.out.alloc (.cells #[bv 46] 5)) rfl (Src_rv (news := [bv 46]) Tryz.underlying22 rfl (Rv_new wr _ _ _ rfl) (by simp [Value.oneCell', bv]) (by omega)) rfl (by omega) (by simp; omega) ?_; intro v4 w4 own4 gr4 at4; have hB4 := below_appM (hB.alloc hs (.cells #[bv 46] 5)) (HCUT.out.alloc (.cells #[bv 46] 5)) gr4 (by simp; omega) (Nat.le_refl _); have hs4 := hB4.size; have HO4 := Lib.hid own4; obtain ⟨A4, c4, rfl, _, _, _, _, _, _⟩ := own4.form; clear own4 gr4 at4)
          | (at_builtin; refine wpList_appM rfl _ _ _ _ rfl TU8 HO4.out rfl (Src_str Tryz.underlying9 [13, 10]) rfl (by simp; omega) hs4 ?_; intro v5 w5 own5 gr5 at5; have hB5 := below_appM hB4 HO4.out gr5 hs4 (Nat.le_refl _); have hs5 := hB5.size; have HO5 := Lib.hid own5; obtain ⟨A5, c5, rfl, _, _, _, _, _, _⟩ := own5.form; clear own5 gr5 at5))
        go_ret
        refine ⟨⟨_, rfl, ?_⟩, hB6.trans (hB5.mono hs6)⟩
        exact (ownM_eq HO5.out (by rw [HST0.out]; simp) (by rw [HST0.out]; simp)).rebase hs6
  · have hi : (0 : Int) < (rest.length : Int) := by rw [hr0, List.length_cons]; omega
    have HR0 := Lib.hid (show rest ≠ [] by rw [hr0]; simp)
    clear hr0
    go_wp2_with (first
      | (at_builtin; refine wpList_appM rfl _ _ _ _ rfl TBs (ho.alloc (.cells #[.slice A2 rest.length c2] 22)) rfl (Src_rv (news := [.slice A2 rest.length c2]) Tryz.underlying65 rfl (Rv_new w2 _ _ _ rfl) (by simp [Value.oneCell']) (by omega)) rfl (by omega) (by simp; omega) ?_; intro v3 w3 own3 gr3 at3; obtain ⟨A3, c3, rfl, _, _, _, _, _, _⟩ := own3.form; have hs3w : w.heap.size ≤ w3.heap.size := (by have := gr3.size; simp at this; omega))
      | (at_builtin; refine wpList_appM rfl _ _ _ _ rfl TBs (own3.alloc (.cells #[.slice none 0 0] 22)) rfl (Src_rv (news := [.slice none 0 0]) Tryz.underlying65 rfl (Rv_new w3 _ _ _ rfl) (by simp [Value.oneCell']) (by omega)) rfl (by omega) (by simp; omega) ?_; intro v6 w6 own6 gr6 at6; obtain ⟨A6, c6, rfl, _, _, _, _, _, _⟩ := own6.form))
    have hx3 : Ext (fun k => nb (.slice Av ts.length cv) k) w2 w3 := ((Ext.refl _ w2).alloc _).trans (Ext.of_grown (S := fun k => nb (.slice Av ts.length cv) k) gr3 (fun k e => e)) fun _ h => .inl h
    have hv3 : ∀ k, nb (.slice A3 (ts.length + 1) c3) k → nb (.slice Av ts.length cv) k ∨ w2.heap.size ≤ k := fun k hk => by
      unfold nb at hk ⊢
      rcases at3 with h | h
      · rw [h] at hk; exact .inl hk
      · rw [h] at hk; have := Option.some.inj hk; simp at this; exact .inr (by omega)
    have hk3 : LsOk w3 w.heap.size [.slice A3 (ts.length + 1) c3] (ts ++ [(rest, .slice A2 rest.length c2)]) := lsOk_snoc (lsOk_app HLK.out hx3 hv3) (fun k hv _ => hv) (hx3.own hr hno) fun k hk v hvm hvk => by
      rw [List.mem_singleton.1 hvm] at hvk
      rcases hv3 k hvk with h | h
      · exact hno k hk h
      · have := (hl2 k hk).2
        omega
    have hs3 := hx3.size
    have hx6 : Ext (fun k => nb (.slice A3 (ts.length + 1) c3) k) w3 w6 := ((Ext.refl _ w3).alloc _).trans (Ext.of_grown (S := fun k => nb (.slice A3 (ts.length + 1) c3) k) gr6 (fun k e => e)) fun _ h => .inl h
    have hv6 : ∀ k, nb (.slice A6 (ts.length + 1 + 1) c6) k → nb (.slice A3 (ts.length + 1) c3) k ∨ w3.heap.size ≤ k := fun k hk => by
      unfold nb at hk ⊢
      rcases at6 with h | h
      · rw [h] at hk; exact .inl hk
      · rw [h] at hk; have := Option.some.inj hk; simp at this; exact .inr (by omega)
    have hk6 : LsOk w6 w.heap.size [.slice A6 (ts.length + 1 + 1) c6] ((ts ++ [(rest, .slice A2 rest.length c2)]) ++ [([], .slice none 0 0)]) := lsOk_snoc (lsOk_app hk3 hx6 hv6) (fun k hv _ => hv) (OwnM.nil _ _ _ _) fun k hk => (nb_nil hk).elim
    have hm6 : ((ts ++ [(rest, Value.slice A2 rest.length c2)]) ++ [(([] : List UInt8), Value.slice none 0 0)]).map (·.1) = ls ++ [[]] := by
      rw [List.map_append, List.map_append, HTS.out, HSL.out.1, if_neg HR0.out]
      simp
    have hB3 : Below w.heap.size w w3 := (hx3.mono (T := fun k => w.heap.size ≤ k) fun k hk => (hlv k hk).1).below hB2 hsw2 fun _ h => h
    have hl3 := own3.lt
    have hB6 : Below w.heap.size w w6 := (hx6.mono (T := fun k => w.heap.size ≤ k) fun k hk => (hl3 k hk).1).below hB3 (by omega) fun _ h => h
    have ho6 : OwnM w6 w.heap.size 22 1 (.slice A6 (ts.length + 1 + 1) c6) (ts.length + 1 + 1) (((ts ++ [(rest, Value.slice A2 rest.length c2)]) ++ [(([] : List UInt8), Value.slice none 0 0)]).map (·.2)) := by rw [List.map_append, List.map_append]; exact own6
    have hn6 : ((ts ++ [(rest, Value.slice A2 rest.length c2)]) ++ [(([] : List UInt8), Value.slice none 0 0)]).length = ts.length + 1 + 1 := by simp
    obtain ⟨tz, htz⟩ : ∃ tz, (ts ++ [(rest, Value.slice A2 rest.length c2)]) ++ [(([] : List UInt8), Value.slice none 0 0)] = tz := ⟨_, rfl⟩
    rw [htz] at hk6 hm6 ho6 hn6
    clear own6 gr6 at6 htz hx6 hv6 own3 gr3 at3 hx3 hv3 hk3
    have hs6 := hB6.size
    have HO := Lib.hid (show OwnM w6 w.heap.size 22 1 (.slice A6 tz.length c6) tz.length (tz.map (·.2)) by rw [hn6]; exact ho6)
    have HK := Lib.hid (show LsOk w6 w.heap.size [.slice A6 (ts.length + 1 + 1) c6] tz from hk6)
    have HM := Lib.hid hm6
    have HNT := Lib.hid hn6
    have hNb : (ts.length + 1 + 1) ≤ 1000000 := by omega
    clear ho6 hk6 hm6 hn6
    go_loopw [2, 24] (fun ov i wr => ∃ (q : Nat) (o : List UInt8), i = .int .i64 q ∧ q ≤ (ts.length + 1 + 1) ∧ Hid (o = dots ((ls ++ [[]]).take q)) ∧ o.length ≤ 100000 ∧ OwnM wr w6.heap.size 5 1 ov o.length (o.map bv) ∧ Below w6.heap.size w6 wr) (fun _ i _ => (ts.length + 1 + 1) - (intOf i).toNat)
    case atStart => exact ⟨0, [], rfl, by omega, Lib.hid rfl, by simp, OwnM.nil _ _ _ _, Below.refl _ _⟩
    case round =>
      obtain ⟨q, o, rfl, hq, hod, hol, hown, hB⟩ := hrel
      have hs := hB.size
      have HOWN := Lib.hid hown
      obtain ⟨Ao, co, rfl, _, _, _, _, _, _⟩ := hown.form
      clear hown
      by_cases hlt : q < (ts.length + 1 + 1)
      · obtain ⟨bo, oo, l, Al, cl, rfl, hl, cl1, hRl, hlc, hRl6, cl6⟩ := line_at2 HO.out HK.out hB (q := q) (by rw [HNT.out]; exact hlt)
        have hl' : (ls ++ [[]])[q]? = some l := by have := hl.out; rwa [HM.out] at this
        have hdt := dots_take hl'
        have hbd := dots_bound (ls ++ [[]]) (q + 1)
        rw [joinE_app, joinE_cons] at hbd
        have hbd2 : (dots ((ls ++ [[]]).take q) ++ dot l ++ [13, 10]).length ≤ 100000 := by
          rw [← hdt]
          simp [joinE] at hbd hjl ⊢
          omega
        rw [← hod.out] at hdt hbd2
        simp only [List.length_append, List.length_cons, List.length_nil] at hbd2
        have hdl : l.length ≤ (dot l).length := by unfold dot; split <;> simp
        have HDT := Lib.hid hdt
        clear hdt hl' hbd hod hl
        rcases list_cases l with hlz | ⟨x, r, hlz⟩
        · subst hlz
          have hd0 : dot ([] : List UInt8) = [] := rfl
          rw [hd0] at HDT hbd2
          clear hd0
          go_wp2_with (first
            | (at_builtin; refine wpList_appM rfl _ _ _ _ rfl TU8 HOWN.out rfl (Src_rb Tryz.underlying22 rfl hRl) rfl (by omega) hs ?_; intro v4 w4 own4 gr4 at4; have hB4 := below_appM hB HOWN.out gr4 hs (Nat.le_refl _); have hs4 := hB4.size; have HO4 := Lib.hid own4; obtain ⟨A4, c4, rfl, _, _, _, _, _, _⟩ := own4.form; clear own4 gr4 at4)
            | (at_builtin; refine wpList_appM rfl _ _ _ _ rfl TU8 HO4.out rfl (Src_str Tryz.underlying9 [13, 10]) rfl (by simp; omega) hs4 ?_; intro v5 w5 own5 gr5 at5; have hB5 := below_appM hB4 HO4.out gr5 hs4 (Nat.le_refl _); have hs5 := hB5.size; have HO5 := Lib.hid own5; obtain ⟨A5, c5, rfl, _, _, _, _, _, _⟩ := own5.form; clear own5 gr5 at5))
          go_roundw
          case rel => exact ⟨q + 1, o ++ [] ++ [13, 10], by go_num, by omega, Lib.hid HDT.out.symm, by simp at hbd2 ⊢; omega, ownM_eq HO5.out (by simp) (by simp), hB5⟩
          case measure => simp [intOf]; omega
        · have hRx := hRl
          rw [hlz] at hRx
          obtain ⟨b9, o9, rfl, cx⟩ := rv_one hRx
          have t46 : ((x.toNat : Int) == 46) = (x == 46) := u8_test x 46 rfl
          have hgt : (0 : Int) < (l.length : Int) := by rw [hlz, List.length_cons]; omega
          by_cases hx : x = 46
          · have hb46 : ((x.toNat : Int) == 46) = true := by rw [t46, hx]; rfl
            have hdy := dot_yes hlz hx
            rw [hdy] at HDT hbd2
            simp only [List.length_append, List.length_cons, List.length_nil] at hbd2
            clear hlz hRx t46 hdy hdl
            go_wp2_with (first
              | (at_builtin; refine wpList_appM rfl _ _ _ _ rfl TU8 (HOWN.out.alloc (.cells #[bv 46] 5)) rfl (Src_rv (news := [bv 46]) Tryz.underlying22 rfl (Rv_new wr _ _ _ rfl) (by simp [Value.oneCell', bv]) (by omega)) rfl (by omega) (by simp; omega) ?_; intro v3 w3 own3 gr3 at3; have hB3 := below_appM (hB.alloc hs (.cells #[bv 46] 5)) (HOWN.out.alloc (.cells #[bv 46] 5)) gr3 (by simp; omega) (Nat.le_refl _); have hs3 := hB3.size; have HO3 := Lib.hid own3; obtain ⟨A3, c3, rfl, _, _, _, _, _, _⟩ := own3.form; clear own3 gr3 at3)
              | (at_builtin; refine wpList_appM rfl _ _ _ _ rfl TU8 HO3.out rfl (Src_rb Tryz.underlying22 rfl (hRl6.below hB3)) rfl (by omega) hs3 ?_; intro v4 w4 own4 gr4 at4; have hB4 := below_appM hB3 HO3.out gr4 hs3 (Nat.le_refl _); have hs4 := hB4.size; have HO4 := Lib.hid own4; obtain ⟨A4, c4, rfl, _, _, _, _, _, _⟩ := own4.form; clear own4 gr4 at4)
              | (at_builtin; refine wpList_appM rfl _ _ _ _ rfl TU8 HO4.out rfl (Src_str Tryz.underlying9 [13, 10]) rfl (by simp; omega) hs4 ?_; intro v5 w5 own5 gr5 at5; have hB5 := below_appM hB4 HO4.out gr5 hs4 (Nat.le_refl _); have hs5 := hB5.size; have HO5 := Lib.hid own5; obtain ⟨A5, c5, rfl, _, _, _, _, _, _⟩ := own5.form; clear own5 gr5 at5))
            go_roundw
            case rel => exact ⟨q + 1, o ++ ([46] ++ l) ++ [13, 10], by go_num, by omega, Lib.hid HDT.out.symm, by simp only [List.length_append, List.length_cons, List.length_nil]; omega, ownM_eq HO5.out (by simp; omega) (by simp), hB5⟩
            case measure => simp [intOf]; omega
          · have hb46 : ((x.toNat : Int) == 46) = false := by rw [t46]; simp [hx]
            have hdy := dot_no hlz hx
            rw [hdy] at HDT hbd2
            clear hlz hRx t46 hdy hdl
            go_wp2_with (first
              | (at_builtin; refine wpList_appM rfl _ _ _ _ rfl TU8 HOWN.out rfl (Src_rb Tryz.underlying22 rfl hRl) rfl (by omega) hs ?_; intro v4 w4 own4 gr4 at4; have hB4 := below_appM hB HOWN.out gr4 hs (Nat.le_refl _); have hs4 := hB4.size; have HO4 := Lib.hid own4; obtain ⟨A4, c4, rfl, _, _, _, _, _, _⟩ := own4.form; clear own4 gr4 at4)
              | (at_builtin; refine wpList_appM rfl _ _ _ _ rfl TU8 HO4.out rfl (Src_str Tryz.underlying9 [13, 10]) rfl (by simp; omega) hs4 ?_; intro v5 w5 own5 gr5 at5; have hB5 := below_appM hB4 HO4.out gr5 hs4 (Nat.le_refl _); have hs5 := hB5.size; have HO5 := Lib.hid own5; obtain ⟨A5, c5, rfl, _, _, _, _, _, _⟩ := own5.form; clear own5 gr5 at5))
            go_roundw
            case rel => exact ⟨q + 1, o ++ l ++ [13, 10], by go_num, by omega, Lib.hid HDT.out.symm, by simp only [List.length_append, List.length_cons, List.length_nil]; omega, ownM_eq HO5.out (by simp; omega) (by simp), hB5⟩
            case measure => simp [intOf]; omega
      · obtain rfl : q = (ts.length + 1 + 1) := by omega
        have hNl : (ls ++ [[]]).length = (ts.length + 1 + 1) := by rw [← HM.out, List.length_map, HNT.out]
        have hof : o = dots ls ++ [13, 10] := by
          rw [hod.out, ← hNl, List.take_length, dots_app]
          simp [dots, dot]
        have hol2 : o.length = (dots ls).length + 2 := by rw [hof]; simp
        have hto : ∀ W, (Instr.slice 22 (.slice Ao o.length co) none (some (.int .i64 ((o.length : Int) - 2))) none).run Tryz.prog W = .ok (.slice Ao (dots ls).length co) W := fun W => by
          have h := slice_to (P := Tryz.prog) (t := 22) (e := 5) (s := 1) Tryz.underlying22 (fun w => Tryz.sizeOf5 w) Ao o.length co (dots ls).length (by omega) .i64 W
          rwa [show (((dots ls).length : Nat) : Int) = (o.length : Int) - 2 by omega] at h
        have hcut : OwnM wr w6.heap.size 5 1 (.slice Ao (dots ls).length co) (dots ls).length ((dots ls).map bv) := by
          have h := HOWN.out.take (k := (dots ls).length) (by omega)
          refine ownM_eq h rfl ?_
          rw [hof, List.map_append]
          exact List.take_left' (by simp)
        have HCUT := Lib.hid hcut
        have hdl : (dots ls).length ≤ 100000 := by omega
        clear hod hof hol2 hcut hNl HOWN
        go_wp2_with (first
          | (at_builtin; refine wpList_appM rfl _ _ _ _ rfl TU8 (HCUT.out.alloc (.cells #[bv 46] 5)) rfl (Src_rv (news := [bv 46]) Tryz.underlying22 rfl (Rv_new wr _ _ _ rfl) (by simp [Value.oneCell', bv]) (by omega)) rfl (by omega) (by simp; omega) ?_; intro v4 w4 own4 gr4 at4; have hB4 := below_appM (hB.alloc hs (.cells #[bv 46] 5)) (HCUT.out.alloc (.cells #[bv 46] 5)) gr4 (by simp; omega) (Nat.le_refl _); have hs4 := hB4.size; have HO4 := Lib.hid own4; obtain ⟨A4, c4, rfl, _, _, _, _, _, _⟩ := own4.form; clear own4 gr4 at4)
          | (at_builtin; refine wpList_appM rfl _ _ _ _ rfl TU8 HO4.out rfl (Src_str Tryz.underlying9 [13, 10]) rfl (by simp; omega) hs4 ?_; intro v5 w5 own5 gr5 at5; have hB5 := below_appM hB4 HO4.out gr5 hs4 (Nat.le_refl _); have hs5 := hB5.size; have HO5 := Lib.hid own5; obtain ⟨A5, c5, rfl, _, _, _, _, _, _⟩ := own5.form; clear own5 gr5 at5))
        go_ret
        refine ⟨⟨_, rfl, ?_⟩, hB6.trans (hB5.mono hs6)⟩
        exact (ownM_eq HO5.out (by rw [HST0.out]; simp) (by rw [HST0.out]; simp)).rebase hs6
end Go.Proofs.YtddjabjloplhiaaGreatDoor
