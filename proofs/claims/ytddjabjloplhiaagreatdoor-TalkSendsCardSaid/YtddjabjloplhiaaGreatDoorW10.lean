/- The document's Whole, Laid, Stuff. -/
import Derived.Test.YtddjabjloplhiaaGreatDoorW9
namespace Go.Proofs.YtddjabjloplhiaaGreatDoor
set_option linter.unusedVariables false
set_option linter.unusedSimpArgs false
open Go.RowKit

set_option maxRecDepth 100000 in
set_option maxHeartbeats 2000000 in
theorem rwhole_any (A : Option Addr) (b : List UInt8) (n c : Nat) (w : World) (hn : b.length = n) (hA : Rb w A b) (hb : n ≤ 10000) :
    Calls Tryz.prog 33 #[.slice A n c] w fun e w' => (∃ v, e = .returned v ∧ OwnM w' w.heap.size 5 1 v (wholeP b).length ((wholeP b).map bv)) ∧ Below w.heap.size w w' := by
  have HN := Lib.hid hn
  clear hn
  have hpu : ∀ W, Sem.run Tryz.prog (pure #[] : Sem (Array Value)) W = .ok #[] W := fun _ => rfl
  have hst : ∀ a W, Sem.run Tryz.prog (storeCells a []) W = .ok () W := fun _ _ => rfl
  have hB0 : Below w.heap.size w (w.alloc (.cells #[] 5)) := (Below.refl _ _).alloc (Nat.le_refl _) _
  have hown0 := OwnM.of (World.ownsRow_made (base := w.heap.size) (e := 5) (size := 1) w #[] 0 (Nat.le_refl _) (by unfold maxLen; omega) rfl)
  go_enter Tryz.func33, Tryz.ntmps33
  go_wp2_with fail
  clear hpu hst
  go_loopw [3, 4] (fun v i wr => ∃ (q k : Nat), i = .int .i64 q ∧ q ≤ n ∧ k ≤ 2 * q ∧ OwnM wr w.heap.size 5 1 v k ((whT b q).map bv) ∧ Below w.heap.size w wr) (fun _ i _ => n - (intOf i).toNat)
  case atStart => exact ⟨0, 0, rfl, by omega, by omega, hown0, hB0⟩
  case round =>
    clear hown0 hB0
    obtain ⟨q, k, rfl, hq, hk, hown, hB⟩ := hrel
    have hs := hB.size
    have HOWN := Lib.hid hown
    have hkl : (whT b q).length = k := by have : ((whT b q).map bv).length = k * 1 := hown.1; simpa using this
    have HKL := Lib.hid hkl
    obtain ⟨Ao, co, rfl, _, _, _, _, _, _⟩ := hown.form
    clear hkl hown
    by_cases hlt : q < n
    · obtain ⟨b0, o0, x, rfl, hx, cx⟩ := hA.one (k := q) (by rw [HN.out]; exact hlt)
      have cx' : wr.cell? ⟨b0, o0 + q, none⟩ = some (.int .u8 (x.toNat : Int)) := (hB.cell (p := ⟨b0, o0 + q, none⟩) (cell_lt cx)).trans cx
      have t10 : ((x.toNat : Int) == 10) = (x == 10) := u8_test x 10 rfl
      have t13 : ((x.toNat : Int) == 13) = (x == 13) := u8_test x 13 rfl
      have hw2 := whT_succ hx.out
      have one : whB b q x = [x] ∨ whB b q x = [13, 10] := by
        unfold whB
        split
        · rename_i h
          split
          · exact .inl (by rw [h])
          · exact .inr rfl
        · split
          · rename_i h
            split
            · exact .inl (by rw [h])
            · exact .inr rfl
          · exact .inl rfl
      by_cases h10 : x = 10
      · have hb10 : ((x.toNat : Int) == 10) = true := by rw [t10, h10]; rfl
        have hb13 : ((x.toNat : Int) == 13) = false := by rw [t13, h10]; rfl
        rcases Nat.eq_zero_or_pos q with hq0 | hq0
        · have hz : ((q : Int) == 0) = true := by rw [hq0]; rfl
          have hwb : whB b q x = [13, 10] := by unfold whB; rw [if_pos h10, if_neg (by omega)]
          rw [hwb] at hw2
          have HW := Lib.hid hw2
          clear t10 t13 hw2 hwb one hx h10 cx hq0
          go_wp2_with (at_builtin; refine wpList_appM rfl _ _ _ _ rfl TU8 (HOWN.out.alloc (.cells #[bv 13, bv 10] 5)) rfl (Src_rv (news := [bv 13, bv 10]) Tryz.underlying22 rfl (Rv_new wr _ _ _ rfl) (by simp [Value.oneCell', bv]) (by omega)) rfl (by omega) (by simp; omega) ?_; intro v4 w4 own4 gr4 at4; have hB4 := below_appM (hB.alloc hs (.cells #[bv 13, bv 10] 5)) (HOWN.out.alloc (.cells #[bv 13, bv 10] 5)) gr4 (by simp; omega) (Nat.le_refl _); have hs4 := hB4.size; have HO4 := Lib.hid own4; obtain ⟨A4, c4, rfl, _, _, _, _, _, _⟩ := own4.form; clear own4 gr4 at4)
          go_roundw
          case rel => exact ⟨q + 1, k + 2, by go_num, by omega, by omega, by rw [HW.out]; exact ownM_eq HO4.out rfl (by simp), hB4⟩
          case measure => simp [intOf]; omega
        · obtain ⟨p, rfl⟩ : ∃ p, q = p + 1 := ⟨q - 1, by omega⟩
          clear hq0
          obtain ⟨b1, o1, y, e1, hy, cy⟩ := hA.one (k := p) (by rw [HN.out]; omega)
          cases e1
          have cy' : wr.cell? ⟨b0, o0 + p, none⟩ = some (.int .u8 (y.toNat : Int)) := (hB.cell (p := ⟨b0, o0 + p, none⟩) (cell_lt cy)).trans cy
          have n13 : ((y.toNat : Int) != 13) = (y != 13) := u8_bne y 13
          have hp1 : ((p : Int) + 1 - 1) = (p : Int) := by omega
          have hz : (((p : Int) + 1) == 0) = false := by rw [beq_eq_false_iff_ne]; omega
          have hp0 : (0 : Int) ≤ (p : Int) := by omega
          have hpn : (p : Int) < (n : Int) := by omega
          by_cases hy13 : y = 13
          · have hby : ((y.toNat : Int) != 13) = false := by rw [n13, hy13]; rfl
            have hwb : whB b (p + 1) x = [x] := by unfold whB; rw [if_pos h10, if_pos ⟨by omega, by rw [Nat.add_sub_cancel, hy.out, hy13]⟩, h10]
            rw [hwb] at hw2
            have HW := Lib.hid hw2
            clear t10 t13 hw2 hwb one hx h10 cx cy n13 hy13 hy
            go_wp2_with (at_builtin; refine wpList_appM rfl _ _ _ _ rfl TU8 (HOWN.out.alloc (.cells #[bv x] 5)) rfl (Src_rv (news := [bv x]) Tryz.underlying22 rfl (Rv_new wr _ _ _ rfl) (by simp [Value.oneCell', bv]) (by omega)) rfl (by omega) (by simp; omega) ?_; intro v4 w4 own4 gr4 at4; have hB4 := below_appM (hB.alloc hs (.cells #[bv x] 5)) (HOWN.out.alloc (.cells #[bv x] 5)) gr4 (by simp; omega) (Nat.le_refl _); have hs4 := hB4.size; have HO4 := Lib.hid own4; obtain ⟨A4, c4, rfl, _, _, _, _, _, _⟩ := own4.form; clear own4 gr4 at4)
            go_roundw
            case rel => exact ⟨p + 1 + 1, k + 1, by go_num, by omega, by omega, by rw [HW.out]; exact ownM_eq HO4.out rfl (by simp), hB4⟩
            case measure => simp [intOf]; omega
          · have hby : ((y.toNat : Int) != 13) = true := by rw [n13]; simp [hy13]
            have hwb : whB b (p + 1) x = [13, 10] := by
              unfold whB
              rw [if_pos h10, if_neg]
              rintro ⟨_, h⟩
              rw [Nat.add_sub_cancel, hy.out] at h
              exact hy13 (Option.some.inj h)
            rw [hwb] at hw2
            have HW := Lib.hid hw2
            clear t10 t13 hw2 hwb one hx h10 cx cy n13 hy13 hy
            go_wp2_with (at_builtin; refine wpList_appM rfl _ _ _ _ rfl TU8 (HOWN.out.alloc (.cells #[bv 13, bv 10] 5)) rfl (Src_rv (news := [bv 13, bv 10]) Tryz.underlying22 rfl (Rv_new wr _ _ _ rfl) (by simp [Value.oneCell', bv]) (by omega)) rfl (by omega) (by simp; omega) ?_; intro v4 w4 own4 gr4 at4; have hB4 := below_appM (hB.alloc hs (.cells #[bv 13, bv 10] 5)) (HOWN.out.alloc (.cells #[bv 13, bv 10] 5)) gr4 (by simp; omega) (Nat.le_refl _); have hs4 := hB4.size; have HO4 := Lib.hid own4; obtain ⟨A4, c4, rfl, _, _, _, _, _, _⟩ := own4.form; clear own4 gr4 at4)
            go_roundw
            case rel => exact ⟨p + 1 + 1, k + 2, by go_num, by omega, by omega, by rw [HW.out]; exact ownM_eq HO4.out rfl (by simp), hB4⟩
            case measure => simp [intOf]; omega
      · have hb10 : ((x.toNat : Int) == 10) = false := by rw [t10]; simp [h10]
        by_cases h13 : x = 13
        · have hb13 : ((x.toNat : Int) == 13) = true := by rw [t13, h13]; rfl
          by_cases hnx : b[q + 1]? = some 10
          · have hq1 := lt_of_get hnx
            rw [HN.out] at hq1
            obtain ⟨b1, o1, x1, e1, hx1, cx1⟩ := hA.one (k := q + 1) (by rw [HN.out]; exact hq1)
            cases e1
            have hx10 : x1 = 10 := by have := hx1.out; rw [hnx] at this; exact (Option.some.inj this).symm
            subst hx10
            have cx1' : wr.cell? ⟨b0, o0 + (q + 1), none⟩ = some (.int .u8 10) := (hB.cell (p := ⟨b0, o0 + (q + 1), none⟩) (cell_lt cx1)).trans cx1
            have hne : ((q : Int) + 1 == (n : Int)) = false := by rw [beq_eq_false_iff_ne]; omega
            have hlq : (q : Int) + 1 < (n : Int) := by omega
            have hwb : whB b q x = [x] := by unfold whB; rw [if_neg h10, if_pos h13, if_pos hnx, h13]
            rw [hwb] at hw2
            have HW := Lib.hid hw2
            clear t10 t13 hw2 hwb one hx hx1 h10 h13 hnx cx cx1
            go_wp2_with (at_builtin; refine wpList_appM rfl _ _ _ _ rfl TU8 (HOWN.out.alloc (.cells #[bv x] 5)) rfl (Src_rv (news := [bv x]) Tryz.underlying22 rfl (Rv_new wr _ _ _ rfl) (by simp [Value.oneCell', bv]) (by omega)) rfl (by omega) (by simp; omega) ?_; intro v4 w4 own4 gr4 at4; have hB4 := below_appM (hB.alloc hs (.cells #[bv x] 5)) (HOWN.out.alloc (.cells #[bv x] 5)) gr4 (by simp; omega) (Nat.le_refl _); have hs4 := hB4.size; have HO4 := Lib.hid own4; obtain ⟨A4, c4, rfl, _, _, _, _, _, _⟩ := own4.form; clear own4 gr4 at4)
            go_roundw
            case rel => exact ⟨q + 1, k + 1, by go_num, by omega, by omega, by rw [HW.out]; exact ownM_eq HO4.out rfl (by simp), hB4⟩
            case measure => simp [intOf]; omega
          · have hwb : whB b q x = [13, 10] := by unfold whB; rw [if_neg h10, if_pos h13, if_neg hnx]
            rw [hwb] at hw2
            have HW := Lib.hid hw2
            have hcase : (((q : Int) + 1 == (n : Int)) = true) ∨ (((q : Int) + 1 == (n : Int)) = false ∧ (q : Int) + 1 < (n : Int) ∧ ∃ y : UInt8, ((y.toNat : Int) != 10) = true ∧ wr.cell? ⟨b0, o0 + (q + 1), none⟩ = some (.int .u8 (y.toNat : Int))) := by
              by_cases h2 : q + 1 < n
              · obtain ⟨b1, o1, x1, e1, hx1, cx1⟩ := hA.one (k := q + 1) (by rw [HN.out]; exact h2)
                cases e1
                refine .inr ⟨by rw [beq_eq_false_iff_ne]; omega, by omega, x1, ?_, (hB.cell (p := ⟨b0, o0 + (q + 1), none⟩) (cell_lt cx1)).trans cx1⟩
                rw [show ((x1.toNat : Int) != 10) = (x1 != 10) from u8_bne x1 10]
                rw [bne_iff_ne]
                rintro rfl
                exact hnx hx1.out
              · exact .inl (by rw [beq_iff_eq]; omega)
            clear t10 t13 hw2 hwb one hx h10 h13 hnx cx
            rcases hcase with k1 | ⟨k1, k2, y, k3, cy⟩
            all_goals
              go_wp2_with (at_builtin; refine wpList_appM rfl _ _ _ _ rfl TU8 (HOWN.out.alloc (.cells #[bv 13, bv 10] 5)) rfl (Src_rv (news := [bv 13, bv 10]) Tryz.underlying22 rfl (Rv_new wr _ _ _ rfl) (by simp [Value.oneCell', bv]) (by omega)) rfl (by omega) (by simp; omega) ?_; intro v4 w4 own4 gr4 at4; have hB4 := below_appM (hB.alloc hs (.cells #[bv 13, bv 10] 5)) (HOWN.out.alloc (.cells #[bv 13, bv 10] 5)) gr4 (by simp; omega) (Nat.le_refl _); have hs4 := hB4.size; have HO4 := Lib.hid own4; obtain ⟨A4, c4, rfl, _, _, _, _, _, _⟩ := own4.form; clear own4 gr4 at4)
              go_roundw
              case rel => exact ⟨q + 1, k + 2, by go_num, by omega, by omega, by rw [HW.out]; exact ownM_eq HO4.out rfl (by simp), hB4⟩
              case measure => simp [intOf]; omega
        · have hb13 : ((x.toNat : Int) == 13) = false := by rw [t13]; simp [h13]
          have hwb : whB b q x = [x] := by unfold whB; rw [if_neg h10, if_neg h13]
          rw [hwb] at hw2
          have HW := Lib.hid hw2
          clear t10 t13 hw2 hwb one hx h10 h13 cx
          go_wp2_with (at_builtin; refine wpList_appM rfl _ _ _ _ rfl TU8 (HOWN.out.alloc (.cells #[bv x] 5)) rfl (Src_rv (news := [bv x]) Tryz.underlying22 rfl (Rv_new wr _ _ _ rfl) (by simp [Value.oneCell', bv]) (by omega)) rfl (by omega) (by simp; omega) ?_; intro v4 w4 own4 gr4 at4; have hB4 := below_appM (hB.alloc hs (.cells #[bv x] 5)) (HOWN.out.alloc (.cells #[bv x] 5)) gr4 (by simp; omega) (Nat.le_refl _); have hs4 := hB4.size; have HO4 := Lib.hid own4; obtain ⟨A4, c4, rfl, _, _, _, _, _, _⟩ := own4.form; clear own4 gr4 at4)
          go_roundw
          case rel => exact ⟨q + 1, k + 1, by go_num, by omega, by omega, by rw [HW.out]; exact ownM_eq HO4.out rfl (by simp), hB4⟩
          case measure => simp [intOf]; omega
    · obtain rfl : q = n := by omega
      have hq2 : whT b q = wholeP b := by unfold wholeP; rw [HN.out]
      rw [hq2] at HKL HOWN
      go_wp2_with fail
      go_ret
      exact ⟨⟨_, rfl, by rw [HKL.out]; exact HOWN.out⟩, hB⟩

set_option maxRecDepth 100000 in
set_option maxHeartbeats 2000000 in
theorem rlaid_any (A : Option Addr) (b : List UInt8) (n c : Nat) (w : World) (hn : b.length = n) (hA : Rb w A b) (hb : n ≤ 10000) :
    Calls Tryz.prog 15 #[.slice A n c] w fun e w' => (∃ v, e = .returned v ∧ OwnM w' w.heap.size 5 1 v (laidP b).length ((laidP b).map bv)) ∧ Below w.heap.size w w' := by
  have hwl := wholeP_len b
  rw [hn] at hwl
  have hrn := rest_nil (wholeP b)
  have hld : laidP b = if (spl (wholeP b)).2 = [] then wholeP b else wholeP b ++ [13, 10] := rfl
  have hrw := rwhole_any A b n c w hn hA hb
  obtain ⟨W, hW⟩ : ∃ W, wholeP b = W := ⟨_, rfl⟩
  rw [hW] at hwl hrn hld hrw
  have HLD := Lib.hid hld
  have HRN := Lib.hid hrn
  clear hld hrn hW hn hA
  go_enter Tryz.func15, Tryz.ntmps15
  go_wp2_with fail
  refine hrw.mono ?_
  rintro e w1 ⟨⟨v, rfl, ho⟩, hB⟩
  have hs := hB.size
  have HOWN := Lib.hid ho
  obtain ⟨Ao, co, rfl, _, _, hR, _, _, _⟩ := ho.form
  clear hrw ho
  rcases List.eq_nil_or_concat W with hW0 | ⟨W', y, hW0⟩
  · have hl0 : laidP b = W := by rw [HLD.out, if_pos (HRN.out.2 (.inl hW0))]
    have hlen : ¬ (0 : Int) < (W.length : Int) := by rw [hW0]; simp
    have HL := Lib.hid hl0
    clear hW0 hl0
    go_wp2_with fail
    go_ret
    exact ⟨⟨_, rfl, by rw [HL.out]; exact HOWN.out⟩, hB⟩
  · rw [List.concat_eq_append] at hW0
    have hWl : W.length = W'.length + 1 := by rw [hW0]; simp
    obtain ⟨b0, o0, x, e0, hx, cx⟩ := (show Rb w1 Ao W from hR).one (k := W'.length) (by omega)
    subst e0
    have hxy : x = y := by
      have := hx.out
      rw [hW0, List.getElem?_append_right (Nat.le_refl _)] at this
      simpa using this.symm
    have hgt : (0 : Int) < (W.length : Int) := by omega
    have hi1 : (W.length : Int) - 1 = (W'.length : Int) := by omega
    have n10 : ((x.toNat : Int) != 10) = (x != 10) := u8_bne x 10
    have hi1b : (0 : Int) ≤ (W'.length : Int) := by omega
    have hi1c : (W'.length : Int) < (W.length : Int) := by omega
    by_cases h10 : x = 10
    · have hb10 : ((x.toNat : Int) != 10) = false := by rw [n10, h10]; rfl
      rcases List.eq_nil_or_concat W' with hV0 | ⟨V, z, hV0⟩
      · have hlt2 : (W.length : Int) < 2 := by rw [hWl, hV0]; simp
        have hl0 : laidP b = W ++ [13, 10] := by
          rw [HLD.out, if_neg]
          intro h
          rcases HRN.out.1 h with h | ⟨u, h⟩
          · rw [h] at hWl; simp at hWl
          · have := congrArg List.length h
            rw [hWl, hV0] at this
            simp at this
            try omega
        have HL := Lib.hid hl0
        have hc0 : w1.cell? ⟨b0, o0 + (W.length - 1), none⟩ = some (.int .u8 (x.toNat : Int)) := by rw [hWl, Nat.add_sub_cancel]; exact cx
        have hjj : (0 : Int) ≤ (W.length : Int) - 1 := by omega
        have hjk : (W.length : Int) - 1 < (W.length : Int) := by omega
        clear hW0 hl0 hWl hi1 hi1b hi1c hV0 hx hxy cx n10 h10 hR
        go_wp2_with (at_builtin; refine wpList_appM rfl _ _ _ _ rfl TU8 (HOWN.out.alloc (.cells #[bv 13, bv 10] 5)) rfl (Src_rv (news := [bv 13, bv 10]) Tryz.underlying22 rfl (Rv_new w1 _ _ _ rfl) (by simp [Value.oneCell', bv]) (by omega)) rfl (by omega) (by simp; omega) ?_; intro v4 w4 own4 gr4 at4; have hB4 := below_appM (hB.alloc hs (.cells #[bv 13, bv 10] 5)) (HOWN.out.alloc (.cells #[bv 13, bv 10] 5)) gr4 (by simp; omega) (Nat.le_refl _); have hs4 := hB4.size; have HO4 := Lib.hid own4; obtain ⟨A4, c4, rfl, _, _, _, _, _, _⟩ := own4.form; clear own4 gr4 at4)
        go_ret
        exact ⟨⟨_, rfl, ownM_eq HO4.out (by rw [HL.out]; simp) (by rw [HL.out]; simp)⟩, hB4⟩
      · rw [List.concat_eq_append] at hV0
        have hVl : W'.length = V.length + 1 := by rw [hV0]; simp
        obtain ⟨b1, o1, z1, e1, hz1, cz⟩ := (show Rb w1 (some ⟨b0, o0, none⟩) W from hR).one (k := V.length) (by omega)
        cases e1
        have hzz : z1 = z := by
          have := hz1.out
          rw [hW0, hV0, List.append_assoc, List.getElem?_append_right (Nat.le_refl _)] at this
          simpa using this.symm
        have n13 : ((z1.toNat : Int) != 13) = (z1 != 13) := u8_bne z1 13
        have hlt2 : ¬ (W.length : Int) < 2 := by omega
        have hc0 : w1.cell? ⟨b0, o0 + (W.length - 1), none⟩ = some (.int .u8 (x.toNat : Int)) := by rw [hWl, Nat.add_sub_cancel]; exact cx
        have hc1 : w1.cell? ⟨b0, o0 + (W.length - 2), none⟩ = some (.int .u8 (z1.toNat : Int)) := by rw [show W.length - 2 = V.length by omega]; exact cz
        have hjj : (0 : Int) ≤ (W.length : Int) - 1 := by omega
        have hjk : (W.length : Int) - 1 < (W.length : Int) := by omega
        have hkk : (0 : Int) ≤ (W.length : Int) - 2 := by omega
        have hkl : (W.length : Int) - 2 < (W.length : Int) := by omega
        by_cases h13 : z1 = 13
        · have hb13 : ((z1.toNat : Int) != 13) = false := by rw [n13, h13]; rfl
          have hl0 : laidP b = W := by
            rw [HLD.out, if_pos (HRN.out.2 (.inr ⟨V, ?_⟩))]
            rw [hW0, hV0, ← hxy, ← hzz, h10, h13]
            simp
          have HL := Lib.hid hl0
          clear hW0 hl0 hWl hi1 hi1b hi1c hV0 hx hxy cx n10 h10 hR hVl hz1 cz hzz n13 h13
          go_wp2_with fail
          go_ret
          exact ⟨⟨_, rfl, by rw [HL.out]; exact HOWN.out⟩, hB⟩
        · have hb13 : ((z1.toNat : Int) != 13) = true := by rw [n13]; simp [h13]
          have hl0 : laidP b = W ++ [13, 10] := by
            rw [HLD.out, if_neg]
            intro h
            rcases HRN.out.1 h with h | ⟨u, h⟩
            · rw [h] at hWl; simp at hWl
            · rw [hW0, hV0] at h
              have h2 : V ++ [z, y] = u ++ [13, 10] := by simpa using h
              have h3 := List.append_inj_right' h2 rfl
              simp at h3
              exact h13 (hzz.trans h3.1)
          have HL := Lib.hid hl0
          clear hW0 hl0 hWl hi1 hi1b hi1c hV0 hx hxy cx n10 h10 hR hVl hz1 cz hzz n13 h13
          go_wp2_with (at_builtin; refine wpList_appM rfl _ _ _ _ rfl TU8 (HOWN.out.alloc (.cells #[bv 13, bv 10] 5)) rfl (Src_rv (news := [bv 13, bv 10]) Tryz.underlying22 rfl (Rv_new w1 _ _ _ rfl) (by simp [Value.oneCell', bv]) (by omega)) rfl (by omega) (by simp; omega) ?_; intro v4 w4 own4 gr4 at4; have hB4 := below_appM (hB.alloc hs (.cells #[bv 13, bv 10] 5)) (HOWN.out.alloc (.cells #[bv 13, bv 10] 5)) gr4 (by simp; omega) (Nat.le_refl _); have hs4 := hB4.size; have HO4 := Lib.hid own4; obtain ⟨A4, c4, rfl, _, _, _, _, _, _⟩ := own4.form; clear own4 gr4 at4)
          go_ret
          exact ⟨⟨_, rfl, ownM_eq HO4.out (by rw [HL.out]; simp) (by rw [HL.out]; simp)⟩, hB4⟩
    · have hb10 : ((x.toNat : Int) != 10) = true := by rw [n10]; simp [h10]
      have hl0 : laidP b = W ++ [13, 10] := by
        rw [HLD.out, if_neg]
        intro h
        rcases HRN.out.1 h with h | ⟨u, h⟩
        · rw [h] at hWl; simp at hWl
        · rw [hW0] at h
          have h2 : W' ++ [y] = (u ++ [13]) ++ [10] := by simpa using h
          have h3 := List.append_inj_right' h2 rfl
          simp at h3
          exact h10 (hxy.trans h3)
      have HL := Lib.hid hl0
      have hc0 : w1.cell? ⟨b0, o0 + (W.length - 1), none⟩ = some (.int .u8 (x.toNat : Int)) := by rw [hWl, Nat.add_sub_cancel]; exact cx
      have hjj : (0 : Int) ≤ (W.length : Int) - 1 := by omega
      have hjk : (W.length : Int) - 1 < (W.length : Int) := by omega
      clear hW0 hl0 hWl hi1 hi1b hi1c hx hxy cx n10 h10 hR
      go_wp2_with (at_builtin; refine wpList_appM rfl _ _ _ _ rfl TU8 (HOWN.out.alloc (.cells #[bv 13, bv 10] 5)) rfl (Src_rv (news := [bv 13, bv 10]) Tryz.underlying22 rfl (Rv_new w1 _ _ _ rfl) (by simp [Value.oneCell', bv]) (by omega)) rfl (by omega) (by simp; omega) ?_; intro v4 w4 own4 gr4 at4; have hB4 := below_appM (hB.alloc hs (.cells #[bv 13, bv 10] 5)) (HOWN.out.alloc (.cells #[bv 13, bv 10] 5)) gr4 (by simp; omega) (Nat.le_refl _); have hs4 := hB4.size; have HO4 := Lib.hid own4; obtain ⟨A4, c4, rfl, _, _, _, _, _, _⟩ := own4.form; clear own4 gr4 at4)
      go_ret
      exact ⟨⟨_, rfl, ownM_eq HO4.out (by rw [HL.out]; simp) (by rw [HL.out]; simp)⟩, hB4⟩

set_option maxRecDepth 100000 in
set_option maxHeartbeats 2000000 in
theorem rstuff_any (A : Option Addr) (b : List UInt8) (n c : Nat) (w : World) (hn : b.length = n) (hA : Rb w A b) (hb : n ≤ 10000) :
    Calls Tryz.prog 32 #[.slice A n c] w fun e w' => (∃ v, e = .returned v ∧ OwnM w' w.heap.size 5 1 v (stuffP b).length ((stuffP b).map bv)) ∧ Below w.heap.size w w' := by
  subst hn
  have hpu : ∀ W, Sem.run Tryz.prog (pure #[] : Sem (Array Value)) W = .ok #[] W := fun _ => rfl
  have hst : ∀ a W, Sem.run Tryz.prog (storeCells a []) W = .ok () W := fun _ _ => rfl
  have hll := laid_len b
  have hlj := laid_join b
  have hsp1 := spl_len (laidP b)
  have hst0 : stuffP b = dots (spl (laidP b)).1 ++ [46, 13, 10] := rfl
  go_enter Tryz.func32, Tryz.ntmps32
  go_wp2_with fail
  refine (rlaid_any A b b.length c w rfl hA (by omega)).mono ?_
  rintro e w1 ⟨⟨v1, rfl, ho1⟩, hb1⟩
  obtain ⟨A1, c1, rfl, hl1, _, hR1, _, hz1, hy1⟩ := ho1.form
  have hsp := rsplit_any A1 (laidP b) (laidP b).length c1 w1 rfl hR1 hl1 (by omega)
  unfold SplitOut at hsp
  go_wp2_with fail
  refine hsp.mono ?_
  rintro e w2 ⟨⟨v, v2, ts, rfl, hts, ho, hr, hlok, hsep⟩, hb2⟩
  have hs1 := hb1.size
  have hs2 := hb2.size
  have hB6 := hb1.trans (hb2.mono hs1)
  obtain ⟨ls, hls⟩ : ∃ r, (spl (laidP b)).1 = r := ⟨_, rfl⟩
  rw [hls] at hts hsp1 hlj hst0
  have hjl : (joinE ls).length ≤ 2 * b.length + 2 := by rw [hlj]; exact hll
  obtain ⟨Av, cv, rfl, _, _, _, _, _, _⟩ := ho.form
  have htl : ts.length = ls.length := by rw [← hts]; simp
  have htb : ts.length ≤ 100000 := by omega
  have HTS := Lib.hid hts
  have HO := Lib.hid ho
  have HK := Lib.hid hlok
  have HST0 := Lib.hid hst0
  have HTL := Lib.hid htl
  have hs6 := hB6.size
  have hBa : Below w2.heap.size w2 (w2.alloc (.cells #[] 5)) := (Below.refl _ _).alloc (Nat.le_refl _) _
  have hown0 : OwnM (w2.alloc (.cells #[] 5)) w2.heap.size 5 1 (.slice (some ⟨w2.heap.size, 0, none⟩) 0 0) 0 [] := OwnM.of (World.ownsRow_made (base := w2.heap.size) (e := 5) (size := 1) w2 #[] 0 (Nat.le_refl _) (by unfold maxLen; omega) rfl)
  clear hsp hll hlj hsp1 hst0 hls hts htl ho hr hlok hsep
  go_wp2_with fail
  go_loopw [5, 6] (fun ov i wr => ∃ (q : Nat) (o : List UInt8), i = .int .i64 q ∧ q ≤ ts.length ∧ Hid (o = dots (ls.take q)) ∧ o.length ≤ 100000 ∧ OwnM wr w2.heap.size 5 1 ov o.length (o.map bv) ∧ Below w2.heap.size w2 wr) (fun _ i _ => ts.length - (intOf i).toNat)
  case atStart => exact ⟨0, [], rfl, by omega, Lib.hid rfl, by simp, hown0, hBa⟩
  case round =>
    clear hown0 hBa
    obtain ⟨q, o, rfl, hq, hod, hol, hown, hB⟩ := hrel
    have hs := hB.size
    have HOWN := Lib.hid hown
    obtain ⟨Ao, co, rfl, _, _, _, _, _, _⟩ := hown.form
    clear hown
    by_cases hlt : q < ts.length
    · obtain ⟨bo, oo, l, Al, cl, rfl, hl, cl1, hRl, hlc, hRl6, cl6⟩ := line_at2 HO.out HK.out hB (q := q) hlt
      have hl' : ls[q]? = some l := by have := hl.out; rwa [HTS.out] at this
      have hdt := dots_take hl'
      have hbd := dots_bound ls (q + 1)
      have hbd2 : (dots (ls.take q) ++ dot l ++ [13, 10]).length ≤ 100000 := by
        rw [← hdt]
        omega
      rw [← hod.out] at hdt hbd2
      simp only [List.length_append, List.length_cons, List.length_nil] at hbd2
      have hdl : l.length ≤ (dot l).length := by unfold dot; split <;> simp
      have HDT := Lib.hid hdt
      clear hdt hl' hbd hod hl
      rcases list_cases l with hlz | ⟨x, r, hlz⟩
      · subst hlz
        have hd0 : dot ([] : List UInt8) = [] := rfl
        rw [hd0] at HDT hbd2
        clear hd0
        go_wp2_with (first
          | (at_builtin; refine wpList_appM rfl _ _ _ _ rfl TU8 HOWN.out rfl (Src_rb Tryz.underlying22 rfl hRl) rfl (by omega) hs ?_; intro v4 w4 own4 gr4 at4; have hB4 := below_appM hB HOWN.out gr4 hs (Nat.le_refl _); have hs4 := hB4.size; have HO4 := Lib.hid own4; obtain ⟨A4, c4, rfl, _, _, _, _, _, _⟩ := own4.form; clear own4 gr4 at4)
          | (at_builtin; refine wpList_appM rfl _ _ _ _ rfl TU8 (HO4.out.alloc (.cells #[bv 13, bv 10] 5)) rfl (Src_rv (news := [bv 13, bv 10]) Tryz.underlying22 rfl (Rv_new w4 _ _ _ rfl) (by simp [Value.oneCell', bv]) (by omega)) rfl (by omega) (by simp; omega) ?_; intro v5 w5 own5 gr5 at5; have hB5 := below_appM (hB4.alloc hs4 (.cells #[bv 13, bv 10] 5)) (HO4.out.alloc (.cells #[bv 13, bv 10] 5)) gr5 (by simp; omega) (Nat.le_refl _); have hs5 := hB5.size; have HO5 := Lib.hid own5; obtain ⟨A5, c5, rfl, _, _, _, _, _, _⟩ := own5.form; clear own5 gr5 at5))
        go_roundw
        case rel => exact ⟨q + 1, o ++ [] ++ [13, 10], by go_num, by omega, Lib.hid HDT.out.symm, by simp at hbd2 ⊢; omega, ownM_eq HO5.out (by simp) (by simp), hB5⟩
        case measure => simp [intOf]; omega
      · have hRx := hRl
        rw [hlz] at hRx
        obtain ⟨b9, o9, rfl, cx⟩ := rv_one hRx
        have t46 : ((x.toNat : Int) == 46) = (x == 46) := u8_test x 46 rfl
        have hgt : (0 : Int) < (l.length : Int) := by rw [hlz, List.length_cons]; omega
        by_cases hx : x = 46
        · have hb46 : ((x.toNat : Int) == 46) = true := by rw [t46, hx]; rfl
          have hdy := dot_yes hlz hx
          rw [hdy] at HDT hbd2
          simp only [List.length_append, List.length_cons, List.length_nil] at hbd2
          clear hlz hRx t46 hdy hdl
          go_wp2_with (first
            | (at_builtin; refine wpList_appM rfl _ _ _ _ rfl TU8 (HOWN.out.alloc (.cells #[bv 46] 5)) rfl (Src_rv (news := [bv 46]) Tryz.underlying22 rfl (Rv_new wr _ _ _ rfl) (by simp [Value.oneCell', bv]) (by omega)) rfl (by omega) (by simp; omega) ?_; intro v3 w3 own3 gr3 at3; have hB3 := below_appM (hB.alloc hs (.cells #[bv 46] 5)) (HOWN.out.alloc (.cells #[bv 46] 5)) gr3 (by simp; omega) (Nat.le_refl _); have hs3 := hB3.size; have HO3 := Lib.hid own3; obtain ⟨A3, c3, rfl, _, _, _, _, _, _⟩ := own3.form; clear own3 gr3 at3; have cl3 := (hB3.cell (p := ⟨bo, oo + q, none⟩) (cell_lt cl6)).trans cl6)
            | (at_builtin; refine wpList_appM rfl _ _ _ _ rfl TU8 HO3.out rfl (Src_rb Tryz.underlying22 rfl (hRl6.below hB3)) rfl (by omega) hs3 ?_; intro v4 w4 own4 gr4 at4; have hB4 := below_appM hB3 HO3.out gr4 hs3 (Nat.le_refl _); have hs4 := hB4.size; have HO4 := Lib.hid own4; obtain ⟨A4, c4, rfl, _, _, _, _, _, _⟩ := own4.form; clear own4 gr4 at4)
            | (at_builtin; refine wpList_appM rfl _ _ _ _ rfl TU8 (HO4.out.alloc (.cells #[bv 13, bv 10] 5)) rfl (Src_rv (news := [bv 13, bv 10]) Tryz.underlying22 rfl (Rv_new w4 _ _ _ rfl) (by simp [Value.oneCell', bv]) (by omega)) rfl (by omega) (by simp; omega) ?_; intro v5 w5 own5 gr5 at5; have hB5 := below_appM (hB4.alloc hs4 (.cells #[bv 13, bv 10] 5)) (HO4.out.alloc (.cells #[bv 13, bv 10] 5)) gr5 (by simp; omega) (Nat.le_refl _); have hs5 := hB5.size; have HO5 := Lib.hid own5; obtain ⟨A5, c5, rfl, _, _, _, _, _, _⟩ := own5.form; clear own5 gr5 at5))
          go_roundw
          case rel => exact ⟨q + 1, o ++ ([46] ++ l) ++ [13, 10], by go_num, by omega, Lib.hid HDT.out.symm, by simp only [List.length_append, List.length_cons, List.length_nil]; omega, ownM_eq HO5.out (by simp; omega) (by simp), hB5⟩
          case measure => simp [intOf]; omega
        · have hb46 : ((x.toNat : Int) == 46) = false := by rw [t46]; simp [hx]
          have hdy := dot_no hlz hx
          rw [hdy] at HDT hbd2
          clear hlz hRx t46 hdy hdl
          go_wp2_with (first
            | (at_builtin; refine wpList_appM rfl _ _ _ _ rfl TU8 HOWN.out rfl (Src_rb Tryz.underlying22 rfl hRl) rfl (by omega) hs ?_; intro v4 w4 own4 gr4 at4; have hB4 := below_appM hB HOWN.out gr4 hs (Nat.le_refl _); have hs4 := hB4.size; have HO4 := Lib.hid own4; obtain ⟨A4, c4, rfl, _, _, _, _, _, _⟩ := own4.form; clear own4 gr4 at4)
            | (at_builtin; refine wpList_appM rfl _ _ _ _ rfl TU8 (HO4.out.alloc (.cells #[bv 13, bv 10] 5)) rfl (Src_rv (news := [bv 13, bv 10]) Tryz.underlying22 rfl (Rv_new w4 _ _ _ rfl) (by simp [Value.oneCell', bv]) (by omega)) rfl (by omega) (by simp; omega) ?_; intro v5 w5 own5 gr5 at5; have hB5 := below_appM (hB4.alloc hs4 (.cells #[bv 13, bv 10] 5)) (HO4.out.alloc (.cells #[bv 13, bv 10] 5)) gr5 (by simp; omega) (Nat.le_refl _); have hs5 := hB5.size; have HO5 := Lib.hid own5; obtain ⟨A5, c5, rfl, _, _, _, _, _, _⟩ := own5.form; clear own5 gr5 at5))
          go_roundw
          case rel => exact ⟨q + 1, o ++ l ++ [13, 10], by go_num, by omega, Lib.hid HDT.out.symm, by simp only [List.length_append, List.length_cons, List.length_nil]; omega, ownM_eq HO5.out (by simp; omega) (by simp), hB5⟩
          case measure => simp [intOf]; omega
    · obtain rfl : q = ts.length := by omega
      have hof : o = dots ls := by rw [hod.out, List.take_of_length_le (by rw [HTL.out]; exact Nat.le_refl _)]
      have HOF := Lib.hid hof
      clear hod hof
      go_wp2_with (at_builtin; refine wpList_appM rfl _ _ _ _ rfl TU8 (HOWN.out.alloc (.cells #[bv 46, bv 13, bv 10] 5)) rfl (Src_rv (news := [bv 46, bv 13, bv 10]) Tryz.underlying22 rfl (Rv_new wr _ _ _ rfl) (by simp [Value.oneCell', bv]) (by omega)) rfl (by omega) (by simp; omega) ?_; intro v5 w5 own5 gr5 at5; have hB5 := below_appM (hB.alloc hs (.cells #[bv 46, bv 13, bv 10] 5)) (HOWN.out.alloc (.cells #[bv 46, bv 13, bv 10] 5)) gr5 (by simp; omega) (Nat.le_refl _); have hs5 := hB5.size; have HO5 := Lib.hid own5; obtain ⟨A5, c5, rfl, _, _, _, _, _, _⟩ := own5.form; clear own5 gr5 at5)
      go_ret
      refine ⟨⟨_, rfl, ?_⟩, hB6.trans (hB5.mono hs6)⟩
      exact (ownM_eq HO5.out (by rw [HST0.out, HOF.out]; simp) (by rw [HST0.out, HOF.out]; simp)).rebase hs6
end Go.Proofs.YtddjabjloplhiaaGreatDoor
