/- The statement LetterSets: the walk of the law. -/
import Derived.Test.YtgohdohkikkeeaaDoorB14
import Derived.Test.YtgohdohkikkeeaaDoorP16
namespace Go.Proofs.YtgohdohkikkeeaaDoor
set_option linter.unusedVariables false
set_option linter.unusedSimpArgs false
open Go.RowKit

set_option maxRecDepth 100000 in
set_option maxHeartbeats 4000000 in
theorem lsets_any (A A2 : Option Addr) (fs : List (List UInt8 × List UInt8)) (bd nm v ot : List UInt8) (n c n2 c2 : Nat) (w : World) (hn : fs.length = n) (hn2 : bd.length = n2) (hA : Rf w A fs) (hA2 : Rb w A2 bd) (hnc : n ≤ c) (hnc2 : n2 ≤ c2)
    (hs : ∀ p ∈ fs, p.1.length ≤ 9223372036854775807 ∧ p.2.length ≤ 9223372036854775807)
    (hT : Lib.Utf8Tabs 1 2 w) :
    Calls Tryd.prog 7 #[.agg #[.slice A n c, .slice A2 n2 c2], .string (bs nm), .string (bs v), .string (bs ot)] w fun e w' => e = .returned (.bool true) ∧ Below w.heap.size w w' := by
  have HN := Lib.hid hn
  have HN2 := Lib.hid hn2
  have HS := Lib.hid hs
  clear hn hn2 hs
  have hB0 : Below w.heap.size w (w.alloc (.cells #[.slice A n c, .slice A2 n2 c2] 41)) := (Below.refl _ _).alloc (Nat.le_refl _) _
  have r0 := row_new2 w (.slice A n c) (.slice A2 n2 c2) 41
  have hs0 : w.heap.size + 1 ≤ (w.alloc (.cells #[.slice A n c, .slice A2 n2 c2] 41)).heap.size := by simp
  go_enter Tryd.func7, Tryd.ntmps7
  go_wp2_with fail
  generalize w.alloc (.cells #[.slice A n c, .slice A2 n2 c2] 41) = W0 at *
  refine (speaks11_any W0).mono ?_
  rintro e w1 ⟨rfl, hb1⟩
  have r1 := r0.below hb1
  have hB1 := hB0.trans (hb1.mono hB0.size)
  have c10 := r1.cell (j := 0) rfl
  have c11 := r1.cell (j := 1) rfl
  go_wp2_with fail
  refine (great_any A A2 fs n c n2 c2 w1 HN.out (hA.below hB1) HS.out).mono ?_
  rintro e w2 ⟨hgr, hb2⟩
  have hB2 := hB1.trans (hb2.mono hB1.size)
  have r2 := r1.below hb2
  have hs2 : W0.heap.size ≤ w2.heap.size := Nat.le_trans hb1.size hb2.size
  clear c10 c11
  rcases hgr with rfl | ⟨rfl, hn3, hn23⟩
  · go_wp2_with fail
    go_ret
    exact ⟨rfl, hB2⟩
  by_cases h1 : 200 < nm.length
  · go_wp2_with fail
    go_ret
    exact ⟨rfl, hB2⟩
  by_cases h2 : 200 < v.length
  · go_wp2_with fail
    go_ret
    exact ⟨rfl, hB2⟩
  by_cases h3 : 200 < ot.length
  · go_wp2_with fail
    go_ret
    exact ⟨rfl, hB2⟩
  go_wp2_with fail
  have c20 := r2.cell (j := 0) rfl
  have c21 := r2.cell (j := 1) rfl
  have hRF2 := hA.below hB2
  have hRB2 := hA2.below hB2
  have hwl : w.heap.size < w2.heap.size := cell_lt c20
  have hset : ∀ W, Below w2.heap.size w2 W → Calls Tryd.prog 23 #[.agg #[.slice A n c, .slice A2 n2 c2], .string (bs nm), .string (bs v)] W (fun e w' => ∃ S1 cS S2 dS, e = .returned (.agg #[.slice S1 (setN nm v fs).length cS, .slice S2 n2 dS]) ∧ Rf w' S1 (setN nm v fs) ∧ Rb w' S2 bd ∧ Below W.heap.size W w' ∧ (∀ b o, S1 = some ⟨b, o, none⟩ → W.heap.size ≤ b ∧ b < w'.heap.size) ∧ (∀ b o, S2 = some ⟨b, o, none⟩ → W.heap.size ≤ b ∧ b < w'.heap.size)) := fun W hb => by
    refine (set_any A A2 fs bd nm v n c n2 c2 W HN.out HN2.out (hRF2.below hb) (hRB2.below hb) hnc (tabs_below hT (hB2.trans (hb.mono hB2.size))) (by omega) (by omega) (by omega)).mono ?_
    rintro e w' ⟨v1, v2, rfl, ho1, ho2, hbW⟩
    rw [HN2.out] at ho2
    obtain ⟨S1, cS, rfl, hc1, _, hR1, _⟩ := own_form ho1
    obtain ⟨S2, dS, rfl, hc2, _, hR2, _⟩ := own_form ho2
    exact ⟨S1, cS, S2, dS, rfl, hR1, hR2, hbW, fun b o e => by subst e; exact own_where ho1, fun b o e => by subst e; exact own_where ho2⟩
  have hdrp : ∀ W, Below w2.heap.size w2 W → Calls Tryd.prog 24 #[.agg #[.slice A n c, .slice A2 n2 c2], .string (bs nm)] W (fun e w' => ∃ S1 cS S2 dS, e = .returned (.agg #[.slice S1 (keepF nm fs).length cS, .slice S2 n2 dS]) ∧ Rf w' S1 (keepF nm fs) ∧ Rb w' S2 bd ∧ Below W.heap.size W w' ∧ (∀ b o, S1 = some ⟨b, o, none⟩ → W.heap.size ≤ b ∧ b < w'.heap.size) ∧ (∀ b o, S2 = some ⟨b, o, none⟩ → W.heap.size ≤ b ∧ b < w'.heap.size)) := fun W hb => by
    refine (drop_any A A2 fs bd nm n c n2 c2 W HN.out HN2.out (hRF2.below hb) (hRB2.below hb) (tabs_below hT (hB2.trans (hb.mono hB2.size))) (by omega) (by omega) (by omega)).mono ?_
    rintro e w' ⟨v1, v2, rfl, ho1, ho2, _, hbW⟩
    rw [HN2.out] at ho2
    obtain ⟨S1, cS, rfl, hc1, _, hR1, _⟩ := own_form ho1
    obtain ⟨S2, dS, rfl, hc2, _, hR2, _⟩ := own_form ho2
    exact ⟨S1, cS, S2, dS, rfl, hR1, hR2, hbW, fun b o e => by subst e; exact own_where ho1, fun b o e => by subst e; exact own_where ho2⟩
  have hv1 := valsN_set nm v fs
  have hv2 := valsN_keep nm fs
  have hv3 : sameN nm ot = false → valsN ot (setN nm v fs) = valsN ot fs := fun h => valsN_set_other h v fs
  have hv4 : sameN nm ot = false → valsN ot (keepF nm fs) = valsN ot fs := fun h => valsN_keep_other h fs
  have hl1 := setN_len nm v fs
  have hl2 := keepF_len nm fs
  rw [HN.out] at hl1 hl2
  generalize setN nm v fs = ss at *
  generalize keepF nm fs = kk at *
  obtain ⟨lS, hlS⟩ : ∃ lS, ss.length = lS := ⟨_, rfl⟩
  obtain ⟨lD, hlD⟩ : ∃ lD, kk.length = lD := ⟨_, rfl⟩
  rw [hlS] at hset hl1
  rw [hlD] at hdrp hl2
  have HLS := Lib.hid hlS
  have HLD := Lib.hid hlD
  have HV1 := Lib.hid hv1
  have HV2 := Lib.hid hv2
  have HV3 := Lib.hid hv3
  have HV4 := Lib.hid hv4
  clear hlS hlD hv1 hv2 hv3 hv4
  go_cut [9, 10] (fun s13 s14 wx => ∃ g13 g14 S1 cS S2 dS D1 cD D2 dD, s13 = .pointer (some ⟨g13, 0, none⟩) ∧ s14 = .pointer (some ⟨g14, 0, none⟩) ∧ Row wx g13 41 [.slice S1 lS cS, .slice S2 n2 dS] ∧ Row wx g14 41 [.slice D1 lD cD, .slice D2 n2 dD] ∧ Rf wx S1 ss ∧ Rf wx D1 kk ∧ Below w2.heap.size w2 wx)
  case first =>
    as_aux_lemma =>
      clear hA hA2 hT hB0 r0 hb1 r1 hB1 hb2 hB2 r2 hs2 HS hnc hnc2 h1 h2 h3 hs0 hRF2 hRB2 HN HN2 HLS HLD HV1 HV2 HV3 HV4 hn3 hn23 hl1 hl2
      have hbase := Below.refl w2.heap.size w2
      go_region_held3 (fun w' => Below w2.heap.size w2 w' ∧ w'.cell? ⟨w.heap.size, 0, none⟩ = some (.slice A n c) ∧ w'.cell? ⟨w.heap.size, 1, none⟩ = some (.slice A2 n2 c2))
        (refine ⟨?_, ?_, ?_⟩ <;> (repeat (first | (with_reducible assumption) | (with_reducible refine cell_al _ ?_) | (with_reducible refine cell_dr ?_) | (with_reducible refine cell_sc ?_ (by simp <;> omega)) | (with_reducible refine Below.drew ?_) | (with_reducible refine bel_al ?_ _) | (with_reducible refine bel_sc ?_ (by simp <;> omega) _))))
        (first
        | (go_at_call 23; (with_reducible refine (hset _ (And.left (by assumption))).mono ?_); rintro e wS ⟨S1, cS, S2, dS, rfl, hRS1, hRS2, hbS, hS1, hS2⟩; have hRS1v : Rv wS S1 (fcells ss) := hRS1; obtain ⟨kS, kfS⟩ := bcell hbS; have hbS2 := Below.trans (And.left (by assumption) : Below w2.heap.size w2 _) (hbS.mono (And.left (by assumption) : Below w2.heap.size w2 _).size); have sS := hbS2.size; have sSS := hbS.size; (try simp at sSS); (try have := (by omega : w2.heap.size < wS.heap.size)); (try have := (by omega : w2.heap.size ≠ wS.heap.size)); (try have := (by omega : w2.heap.size < wS.heap.size + 1)); (try have := (by omega : w2.heap.size ≠ wS.heap.size + 1)); (try have := (by omega : w2.heap.size + 1 < wS.heap.size)); (try have := (by omega : w2.heap.size + 1 ≠ wS.heap.size)); (try have := (by omega : w2.heap.size + 1 < wS.heap.size + 1)); (try have := (by omega : w2.heap.size + 1 ≠ wS.heap.size + 1)); have cS0 := (hbS2.cell (p := ⟨w.heap.size, 0, none⟩) (cell_lt c20)).trans c20; have cS1 := (hbS2.cell (p := ⟨w.heap.size, 1, none⟩) (cell_lt c21)).trans c21)
        | (go_at_call 24; (with_reducible refine (hdrp _ (And.left (by assumption))).mono ?_); rintro e wD ⟨D1, cD, D2, dD, rfl, hRD1, hRD2, hbD, hD1, hD2⟩; have hRD1v : Rv wD D1 (fcells kk) := hRD1; obtain ⟨kD, kfD⟩ := bcell hbD; have hbD2 := Below.trans (And.left (by assumption) : Below w2.heap.size w2 _) (hbD.mono (And.left (by assumption) : Below w2.heap.size w2 _).size); have sD := hbD2.size; have sDD := hbD.size; (try simp at sDD); (try have := (by omega : w2.heap.size < wD.heap.size)); (try have := (by omega : w2.heap.size ≠ wD.heap.size)); (try have := (by omega : w2.heap.size < wD.heap.size + 1)); (try have := (by omega : w2.heap.size ≠ wD.heap.size + 1)); (try have := (by omega : w2.heap.size + 1 < wD.heap.size)); (try have := (by omega : w2.heap.size + 1 ≠ wD.heap.size)); (try have := (by omega : w2.heap.size + 1 < wD.heap.size + 1)); (try have := (by omega : w2.heap.size + 1 ≠ wD.heap.size + 1)); (try have := (by omega : wS.heap.size < wD.heap.size)); (try have := (by omega : wS.heap.size ≠ wD.heap.size)); (try have := (by omega : wS.heap.size < wD.heap.size + 1)); (try have := (by omega : wS.heap.size ≠ wD.heap.size + 1)); (try have := (by omega : wS.heap.size + 1 < wD.heap.size)); (try have := (by omega : wS.heap.size + 1 ≠ wD.heap.size)); (try have := (by omega : wS.heap.size + 1 < wD.heap.size + 1)); (try have := (by omega : wS.heap.size + 1 ≠ wD.heap.size + 1)); have cD0 := (hbD2.cell (p := ⟨w.heap.size, 0, none⟩) (cell_lt c20)).trans c20; have cD1 := (hbD2.cell (p := ⟨w.heap.size, 1, none⟩) (cell_lt c21)).trans c21))
      all_goals
        go_wp2_with fail
        go_meet
        refine ⟨_, _, S1, cS, S2, dS, D1, cD, D2, dD, rfl, rfl, ?_, ?_, ?_, ?_, ?_⟩
        · repeat (first | (with_reducible exact row_new2 _ _ _ _) | (with_reducible exact row_newsc _ _ _ _ _ _ _ _) | (with_reducible exact row_two2 _ _ _ _ _) | (with_reducible exact row_three2 _ _ _ _ _ _) | (with_reducible apply row_sets) | (with_reducible refine row_far2 ?_ (by (try simp) <;> omega)) | (with_reducible refine Row.alloc ?_ _) | (with_reducible refine row_dr ?_) | (with_reducible refine Row.below ?_ hbD) | (with_reducible refine Row.below ?_ hbS))
        · repeat (first | (with_reducible exact row_new2 _ _ _ _) | (with_reducible exact row_newsc _ _ _ _ _ _ _ _) | (with_reducible exact row_two2 _ _ _ _ _) | (with_reducible exact row_three2 _ _ _ _ _ _) | (with_reducible apply row_sets) | (with_reducible refine row_far2 ?_ (by (try simp) <;> omega)) | (with_reducible refine Row.alloc ?_ _) | (with_reducible refine row_dr ?_) | (with_reducible refine Row.below ?_ hbD) | (with_reducible refine Row.below ?_ hbS))
        · show Rv _ _ _
          repeat (first | (with_reducible exact hRS1v) | (with_reducible refine Rv_al ?_ _) | (with_reducible refine Rv_far2 ?_ (fun hp b o e => by have h := hS1 b o e; (try simp at h); (try simp) <;> omega)) | (with_reducible refine Rv_dr ?_) | (with_reducible refine Rv.below ?_ hbD) | (with_reducible refine Rv.below ?_ hbS))
        · show Rv _ _ _
          repeat (first | (with_reducible exact hRD1v) | (with_reducible refine Rv_al ?_ _) | (with_reducible refine Rv_far2 ?_ (fun hp b o e => by have h := hD1 b o e; (try simp at h); (try simp) <;> omega)) | (with_reducible refine Rv_dr ?_) | (with_reducible refine Rv.below ?_ hbD) | (with_reducible refine Rv.below ?_ hbS))
        · repeat (first | (with_reducible assumption) | (with_reducible refine bel_al ?_ _) | (with_reducible refine bel_sc ?_ (by simp <;> omega) _) | (with_reducible refine Below.drew ?_))
  case rest =>
    obtain ⟨g13, g14, S1, cS, S2, dS, D1, cD, D2, dD, rfl, rfl, q13, q14, hRS1, hRD1, hb9⟩ := hcut
    obtain ⟨w9, hw9⟩ : ∃ w9, w9 = wc := ⟨_, rfl⟩
    rw [← hw9] at q13 q14 hRS1 hRD1 hb9 ⊢
    clear hw9 hset hdrp c20 c21
    have hB9 := hB2.trans (hb9.mono hB2.size)
    have l9 := r2.below hb9
    have c130 := q13.cell (j := 0) rfl
    have c131 := q13.cell (j := 1) rfl
    have hT9 := tabs_below hT hB9
    clear hb1 hB1 hb2 r1 r2 r0 hB0
    go_wp2_with fail
    refine (all_any S1 S2 ss nm lS cS n2 dS w9 HLS.out hRS1 hT9 (by omega) (by omega)).mono ?_
    rintro e u1 ⟨va, rfl, hva, hu1⟩
    rw [HV1.out] at hva
    obtain ⟨VA, vc, rfl, _, _, hVR, _⟩ := own_form hva
    clear hva c130 c131
    have hB10 := hB9.trans (hu1.mono hB9.size)
    have p13 := q13.below hu1
    have c130 := p13.cell (j := 0) rfl
    have c131 := p13.cell (j := 1) rfl
    go_wp2_with fail
    refine (get_any S1 S2 ss nm lS cS n2 dS u1 HLS.out (hRS1.below hu1) (tabs_below hT hB10) (by omega) (by omega)).mono ?_
    rintro e u2 ⟨hg2, hu2⟩
    unfold GetOut at hg2
    rw [HV1.out] at hg2
    subst hg2
    have hB11 := hB10.trans (hu2.mono hB10.size)
    have p14 := (q14.below hu1).below hu2
    have c140 := p14.cell (j := 0) rfl
    have c141 := p14.cell (j := 1) rfl
    clear c130 c131
    go_wp2_with fail
    refine (get_any D1 D2 kk nm lD cD n2 dD u2 HLD.out ((hRD1.below hu1).below hu2) (tabs_below hT hB11) (by omega) (by omega)).mono ?_
    rintro e u3 ⟨hg3, hu3⟩
    unfold GetOut at hg3
    rw [HV2.out] at hg3
    subst hg3
    have hB12 := hB11.trans (hu3.mono hB11.size)
    have t14 := p14.below hu3
    have d140 := t14.cell (j := 0) rfl
    have d141 := t14.cell (j := 1) rfl
    obtain ⟨b, o, y, rfl, hy, hcv⟩ := ((hVR.below hu2).below hu3).one (k := 0) (by simp)
    obtain rfl : y = strv v := by have := hy.out; simp at this; exact this.symm
    rw [Nat.add_zero] at hcv
    unfold strv at hcv
    have hself : (bs v != bs v) = false := by rw [bs_bne]; simp
    clear c140 c141 hVR
    go_wp2_with fail
    refine (all_any D1 D2 kk nm lD cD n2 dD u3 HLD.out (((hRD1.below hu1).below hu2).below hu3) (tabs_below hT hB12) (by omega) (by omega)).mono ?_
    rintro e u4 ⟨vb, rfl, hvb, hu4⟩
    rw [HV2.out] at hvb
    obtain ⟨VB, vbc, rfl, _, _, _, _⟩ := own_form hvb
    have hB13 := hB12.trans (hu4.mono hB12.size)
    clear hvb hcv hself d140 d141
    go_wp2_with fail
    refine (rsame2_any nm ot u4 (by omega)).mono ?_
    rintro e u5 ⟨rfl, hd5⟩
    have hu5 := hd5.below u4.heap.size
    have hB14 := hB13.trans (hu5.mono hB13.size)
    cases hso : sameN nm ot with
    | true =>
      go_wp2_with fail
      go_ret
      exact ⟨rfl, hB14⟩
    | false =>
      have hw3 := HV3.out hso
      have hw4 := HV4.out hso
      have hL := (((hu1.trans (hu2.mono hu1.size)).trans (hu3.mono (Nat.le_trans hu1.size hu2.size))).trans (hu4.mono (Nat.le_trans hu1.size (Nat.le_trans hu2.size hu3.size)))).trans (hu5.mono (Nat.le_trans hu1.size (Nat.le_trans hu2.size (Nat.le_trans hu3.size hu4.size))))
      have m13 := q13.below hL
      have m14 := q14.below hL
      have ml := l9.below hL
      have hRSu := hRS1.below hL
      have hRDu := hRD1.below hL
      have c130 := m13.cell (j := 0) rfl
      have c131 := m13.cell (j := 1) rfl
      have c140 := m14.cell (j := 0) rfl
      have c141 := m14.cell (j := 1) rfl
      clear hu1 hu2 hu3 hu4 hu5 hd5 p13 p14 t14 hB10 hB11 hB12 hB13 q13 q14 l9 hRS1 hRD1 hL
      have hAl := bel_al (Below.refl u5.heap.size u5) (.cells #[.slice S1 lS cS, .slice S2 n2 dS, .slice D1 lD cD, .slice D2 n2 dD] 41)
      have b13 : Row (u5.alloc (.cells #[.slice S1 lS cS, .slice S2 n2 dS, .slice D1 lD cD, .slice D2 n2 dD] 41)) u5.heap.size 41 [.slice S1 lS cS, .slice S2 n2 dS, .slice D1 lD cD, .slice D2 n2 dD] := Row.new u5 #[.slice S1 lS cS, .slice S2 n2 dS, .slice D1 lD cD, .slice D2 n2 dD] 41
      have hB15 := hB14.trans (hAl.mono hB14.size)
      have mlw := ml.below hAl
      have hRSw := hRSu.below hAl
      have hRDw := hRDu.below hAl
      obtain ⟨vs, hvs⟩ : ∃ vs, valsN ot fs = vs := ⟨_, rfl⟩
      have hkv := valsN_len ot fs
      rw [HN.out, hvs] at hkv
      rw [hvs] at hw3 hw4
      have HVS := Lib.hid hvs
      obtain ⟨K, hK⟩ : ∃ K, vs.length = K := ⟨_, rfl⟩
      rw [hK] at hkv
      have HK := Lib.hid hK
      have HW3 := Lib.hid hw3
      have HW4 := Lib.hid hw4
      clear hvs hK hw3 hw4 hso m13 m14 ml hRSu hRDu hAl
      go_wp2_with fail
      clear c130 c131 c140 c141
      obtain ⟨gb, hgb⟩ : ∃ gb, u5.heap.size = gb := ⟨_, rfl⟩
      rw [hgb] at b13 ⊢
      clear hgb
      generalize u5.alloc (.cells #[.slice S1 lS cS, .slice S2 n2 dS, .slice D1 lD cD, .slice D2 n2 dD] 41) = W at *
      go_loopw [98] (fun i wr => ∃ k : Nat, i = .int .i64 k ∧ k ≤ 2 ∧ Below W.heap.size W wr) (fun i _ => 2 - (intOf i).toNat)
      case atStart => exact ⟨0, rfl, by omega, Below.refl _ _⟩
      case round =>
        obtain ⟨k, rfl, hk, hbr⟩ := hrel
        have hBr := hB15.trans (hbr.mono hB15.size)
        by_cases hlt : k < 2
        · have hpick : ∃ X lX cX Y dY Lx, wr.cell? ⟨gb, k * 2, none⟩ = some (.slice X lX cX) ∧ wr.cell? ⟨gb, k * 2 + 1, none⟩ = some (.slice Y n2 dY) ∧ Hid (Rf wr X Lx ∧ Lx.length = lX ∧ valsN ot Lx = vs) ∧ lX ≤ 1000000 := by
            have bb := b13.below hbr
            rcases (by omega : k = 0 ∨ k = 1) with rfl | rfl
            · exact ⟨S1, lS, cS, S2, dS, ss, bb.cell rfl, bb.cell rfl, Lib.hid ⟨hRSw.below hbr, HLS.out, HW3.out⟩, by omega⟩
            · exact ⟨D1, lD, cD, D2, dD, kk, bb.cell rfl, bb.cell rfl, Lib.hid ⟨hRDw.below hbr, HLD.out, HW4.out⟩, by omega⟩
          obtain ⟨X, lX, cX, Y, dY, Lx, x0, x1, HX, hlX⟩ := hpick
          have hki : (k : Int) < 2 := by omega
          go_upto_region 16 with fail
          have hAx := bel_al (Below.refl wr.heap.size wr) (.cells #[.slice X lX cX, .slice Y n2 dY] 41)
          have hBx := hBr.trans (hAx.mono hBr.size)
          have bx := row_new2 wr (.slice X lX cX) (.slice Y n2 dY) 41
          have lx := (mlw.below hbr).below hAx
          have hRX := HX.out.1.below hAx
          have hRA := hA.below hBx
          have hTx := tabs_below hT hBx
          have hbw := hbr.trans (hAx.mono hbr.size)
          obtain ⟨gx, hgx⟩ : ∃ gx, wr.heap.size = gx := ⟨_, rfl⟩
          rw [hgx] at bx ⊢
          clear hgx
          generalize wr.alloc (.cells #[.slice X lX cX, .slice Y n2 dY] 41) = Wx at *
          have c30 := lx.cell (j := 0) rfl
          have c31 := lx.cell (j := 1) rfl
          have e30 := bx.cell (j := 0) rfl
          have e31 := bx.cell (j := 1) rfl
          have hall : ∀ V, Below Wx.heap.size Wx V → Calls Tryd.prog 20 #[.agg #[.slice A n c, .slice A2 n2 c2], .string (bs ot)] V (AllOut ot fs V) := fun V hb => all_any A A2 fs ot n c n2 c2 V HN.out (hRA.below hb) (tabs_below hTx hb) (by omega) (by omega)
          have hallx : ∀ V, Below Wx.heap.size Wx V → Calls Tryd.prog 20 #[.agg #[.slice X lX cX, .slice Y n2 dY], .string (bs ot)] V (AllOut ot Lx V) := fun V hb => all_any X Y Lx ot lX cX n2 dY V HX.out.2.1 (hRX.below hb) (tabs_below hTx hb) (by omega) (by omega)
          go_cut [18, 19] (fun s8 s9 wx => ∃ A8 c8 A9 c9, s8 = .slice A8 K c8 ∧ s9 = .slice A9 K c9 ∧ Rv wx A8 (vs.map strv) ∧ Rv wx A9 (vs.map strv) ∧ Below Wx.heap.size Wx wx)
          case first =>
            as_aux_lemma =>
              clear hA hA2 hT hs2 HS hnc hnc2 h1 h2 h3 hs0 hRF2 hRB2 hn3 hn23 hl1 hl2 hB2 hwl hB9 hT9 hB14 b13 hB15 mlw hRSw hRDw hkv hbr hBr x0 x1 hki hBx bx lx hRX hRA hTx hbw hlX hk hlt HLS HLD HV1 HV2 HV3 HV4 HW3 HW4
              have hD0 : Below Wx.heap.size Wx Wx.drew := (Below.refl _ Wx).drew
              go_region_held3 (fun w' => w'.cell? ⟨w.heap.size, 0, none⟩ = some (.slice A n c) ∧ w'.cell? ⟨w.heap.size, 1, none⟩ = some (.slice A2 n2 c2) ∧ w'.cell? ⟨gx, 0, none⟩ = some (.slice X lX cX) ∧ w'.cell? ⟨gx, 1, none⟩ = some (.slice Y n2 dY))
                (exact ⟨by assumption, by assumption, by assumption, by assumption⟩)
                (first
                | (go_at_call 20; (with_reducible refine (hall _ hD0).mono ?_); rintro e w4 ⟨v8, rfl, hown8, hb4⟩; rw [HVS.out, HK.out] at hown8; obtain ⟨A8, c8, rfl, _, _, hR8, _⟩ := own_form hown8; have hC4 := hD0.trans hb4; have c40 := (hC4.cell (p := ⟨w.heap.size, 0, none⟩) (cell_lt c30)).trans c30; have c41 := (hC4.cell (p := ⟨w.heap.size, 1, none⟩) (cell_lt c31)).trans c31; have e40 := (hC4.cell (p := ⟨gx, 0, none⟩) (cell_lt e30)).trans e30; have e41 := (hC4.cell (p := ⟨gx, 1, none⟩) (cell_lt e31)).trans e31)
                | (go_at_call 20; (with_reducible refine (hallx _ hC4).mono ?_); rintro e w5 ⟨v9, rfl, hown9, hb5⟩; rw [HX.out.2.2, HK.out] at hown9; obtain ⟨A9, c9, rfl, _, _, hR9, _⟩ := own_form hown9; have hC5 := hC4.trans (hb5.mono hC4.size); have c50 := (hC5.cell (p := ⟨w.heap.size, 0, none⟩) (cell_lt c30)).trans c30; have c51 := (hC5.cell (p := ⟨w.heap.size, 1, none⟩) (cell_lt c31)).trans c31; have e50 := (hC5.cell (p := ⟨gx, 0, none⟩) (cell_lt e30)).trans e30; have e51 := (hC5.cell (p := ⟨gx, 1, none⟩) (cell_lt e31)).trans e31))
              all_goals
                go_wp2_with fail
                go_meet
                exact ⟨A8, c8, A9, c9, rfl, rfl, hR8.below hb5, hR9, hC5⟩
          case rest =>
            obtain ⟨A8, c8, A9, c9, rfl, rfl, hR8, hR9, hb6⟩ := hcut
            obtain ⟨w6, hw6⟩ : ∃ w6, w6 = wc := ⟨_, rfl⟩
            rw [← hw6] at hR8 hR9 hb6 ⊢
            clear hw6 hall hallx c30 c31 e30 e31 x0 x1
            have hb7 := hbw.trans (hb6.mono hbw.size)
            go_wp2_with fail
            go_loopw [115] (fun i wr => ∃ q : Nat, i = .int .i64 q ∧ q ≤ K ∧ Dn w6 wr) (fun i _ => K - (intOf i).toNat)
            case atStart => exact ⟨0, rfl, by omega, Dn.refl _⟩
            case round =>
              obtain ⟨q, rfl, hq, hd⟩ := hrel
              have hdb := hd.below w6.heap.size
              by_cases hltq : q < K
              · obtain ⟨b, o, y, rfl, hy, hcy⟩ := (hR8.below hdb).one (k := q) (by simp only [List.length_map, HK.out]; exact hltq)
                obtain ⟨b2, o2, y2, rfl, hy2, hcy2⟩ := (hR9.below hdb).one (k := q) (by simp only [List.length_map, HK.out]; exact hltq)
                obtain rfl : y2 = y := Option.some.inj (hy2.out.symm.trans hy.out)
                obtain ⟨p, rfl⟩ : ∃ p, y2 = strv p := by
                  have := hy.out
                  rw [List.getElem?_map, Option.map_eq_some_iff] at this
                  obtain ⟨p, _, h⟩ := this
                  exact ⟨p, h.symm⟩
                have hself : (bs p != bs p) = false := by rw [bs_bne]; simp
                unfold strv at hcy hcy2
                go_wp2_with fail
                go_quiet (fail)
                go_wp2_with fail
                go_roundw
                case rel => exact ⟨q + 1, by go_num, by omega, by first | exact hd.drewN _ | exact hd.drew | exact hd⟩
                case measure => simp [intOf]; omega
              · have hfin := hb7.trans (hdb.mono hb7.size)
                go_wp2_with fail
                go_roundw
                case rel => exact ⟨k + 1, by go_num, by omega, hfin⟩
                case measure => simp [intOf]; omega
        · go_wp2_with fail
          go_ret
          exact ⟨rfl, hBr⟩
end Go.Proofs.YtgohdohkikkeeaaDoor
