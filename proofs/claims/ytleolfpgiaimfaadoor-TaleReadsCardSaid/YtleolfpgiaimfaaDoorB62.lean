/- TaleReads' walk. -/
import Derived.Test.YtleolfpgiaimfaaDoorB61
namespace Go.Proofs.YtleolfpgiaimfaaDoor
set_option linter.unusedVariables false
set_option linter.unusedSimpArgs false
open Go.RowKit Go.Shelf

set_option maxRecDepth 100000 in
set_option maxHeartbeats 4000000 in
theorem taleReads_any (s : List UInt8) (w : World) (hG : Gt w) :
    Calls Tryd.prog 4 #[.string (bs s)] w fun e w' => e = .returned (.bool true) ∧ Below w.heap.size w w' := by
  have hsp := speaks25_any w hG
  obtain ⟨n, hn⟩ : ∃ n, s.length = n := ⟨_, rfl⟩
  have hsz : (bs s).size = n := by rw [bs_size, hn]
  obtain ⟨S, hS⟩ : ∃ S, bs s = S := ⟨_, rfl⟩
  by_cases hgr : 1000 < n
  · have g1 : decide ((1000 : Int) < (n : Int)) = true := by simp; omega
    rw [hS] at hsz ⊢
    clear hS hn
    go_enter Tryd.func4, Tryd.ntmps4
    go_wp2_with (go_at_call 5; refine hsp.mono ?_; rintro e w2 ⟨rfl, hb2⟩)
    go_ret
    exact ⟨rfl, hb2⟩
  · have g1 : decide ((1000 : Int) < (n : Int)) = false := by simp; omega
    have hrd := fun W (h : Gt W) => tread_any s W (by omega) h
    have hz0 := (zero_of_info zero_ev).1
    obtain ⟨zz, hzz⟩ : ∃ zz, zev.toArray = zz := ⟨_, rfl⟩
    have hzsz : zz.size = 46 := by rw [← hzz]; exact zev_size
    rw [hzz] at hz0
    have HZZ := Lib.hid hzz
    rw [hS] at hsz
    have HS := Lib.hid hS
    have HRD := Lib.hid hrd
    rw [hS]
    clear hS hn hzz hrd
    go_enter Tryd.func4, Tryd.ntmps4
    go_upto_region 5 with (go_at_call 5; refine hsp.mono ?_; rintro e w2 ⟨rfl, hb2⟩)
    have hr2 := HRD.out w2 (hG.below hb2)
    rw [HS.out] at hr2
    clear hsz g1 hsp
    go_upto_region 6 with (go_at_call 7; refine hr2.mono ?_; rintro e w4 ⟨E, A, c, code, rfl, hok, hsz, hfit, hR, hor, hb4⟩; have HOR := Lib.hid hor; obtain ⟨Y, hY⟩ : ∃ Y, (evl E (.slice A E.body.length c)).toArray = Y := ⟨_, rfl⟩; have hYs : Y.size = 46 := (by rw [← hY, List.size_toArray]; exact evl_len hok.fresh); have hsn := store_new_ev w4 zz Y hzsz hYs (by rw [← hY]; exact evl_one _ _ _ _); rw [hY]; have HY := Lib.hid hY; clear hY hor)
    have hBa : Below w4.heap.size w4 (w4.alloc (.cells Y 28)) := (Below.refl _ w4).alloc (Nat.le_refl _) _
    have r4 := Row.new w4 Y 28
    obtain ⟨w5, hw5⟩ : ∃ w5, w4.alloc (.cells Y 28) = w5 := ⟨_, rfl⟩
    obtain ⟨b4, hb4'⟩ : ∃ b4, w4.heap.size = b4 := ⟨_, rfl⟩
    have hY5 := hR.below hBa
    rw [hw5] at r4 hBa hY5 ⊢
    rw [hb4'] at r4 ⊢
    rw [← HY.out, List.toList_toArray] at r4
    clear hw5 hb4' hsn hr2
    rcases HOR.out with ⟨rfl, hone⟩ | ⟨rfl, rfl, hnone⟩
    · skip
      have hf := hone
      obtain ⟨fw, ffs, hff, _, _, _, hls⟩ := readOne_form hf
      have htt := readOne_told hf
      have hne : s ≠ [63] := by rw [← hls]; exact line_ne (w := fw) (fs := ffs) hff
      have hq1 : (S == (⟨#[63]⟩ : ByteArray)) = false := by
        rw [← HS.out, show (⟨#[63]⟩ : ByteArray) = bs [63] from rfl, bs_beq]
        simpa using hne
      have hq2 : (S != (⟨#[63]⟩ : ByteArray)) = true := by rw [bne, hq1]; rfl
      have hq3 : (S.toList == [63]) = false := by rw [← HS.out, bs_list, beq_eq_false_iff_ne]; exact hne
      have hss : (S == S) = true := (ba_beq S S).2 rfl
      have hln : bs (lineL E) = S := by rw [hls]; exact HS.out
      have hld6 : (Instr.loadAt 28 (.pointer (some ⟨b4, 0, none⟩))).run Tryd.prog w5.drew = .ok (.agg Y) w5.drew := by
        have h := lda_ev (W := w5.drew) r4 (evl_len hok.fresh)
        rw [HY.out] at h
        exact h
      have hrl := rline_any E A c w5.drew hsz hok hfit hY5
      rw [HY.out, hln] at hrl
      have HTT := Lib.hid htt
      clear hf hone HOR hff hls htt hln hne
      go_upto_region 8 with fail
      refine wp_region_held_drew (S := fun W => (Instr.loadAt 28 (.pointer (some ⟨b4, 0, none⟩))).run Tryd.prog W = .ok (.agg Y) W) (by kernel_rfl) (by exact hld6) (fun hHeld => ?_)
      refine wpAnyH_take (i := 0) (v := .agg Y) rfl (by kernel_rfl) (by kernel_rfl) (by kernel_rfl) (fun _ _ _ h => h) (Or.inl ⟨by rfl, fun w hSw => x_load rfl rfl hSw⟩) (by assumption) ?_
      (try simp only [Act.put, List.setIfInBounds_toArray, List.set_cons_zero, List.set_cons_succ, List.getElem_toArray, List.getElem_cons_zero, List.getElem_cons_succ])
      refine wpAnyH_take (i := 2) (v := ?_) rfl (by kernel_rfl) (by kernel_rfl) (by kernel_rfl) (fun _ _ _ h => h) (Or.inl ⟨by rfl, ?_⟩) (by assumption) ?_
      rotate_left 1
      focus (intro w hSw; clear hSw; go_simp; (try with_reducible rfl))
      (try simp only [Act.put, List.setIfInBounds_toArray, List.set_cons_zero, List.set_cons_succ, List.getElem_toArray, List.getElem_cons_zero, List.getElem_cons_succ])
      refine wpAnyH_ready (rs := [1]) (by kernel_rfl) (by simp) ?_
      refine AllReadyH.cons rfl (fun K hK => ?_) AllReadyH.nil
      go_simp
      go_wp2_with (refine hrl.mono ?_; rintro e w6 ⟨rfl, hb6⟩; have hb6' : Below w5.heap.size w5 w6 := ((Below.refl _ w5).drew).trans hb6; have r6 := r4.below hb6'; have m1 := lda_ev r6 (evl_len hok.fresh); rw [HY.out] at m1; have htd := rtold_any E A c w6 hok hfit (hY5.below hb6'); rw [HY.out] at htd)
      refine hK.out _ _ (by exact m1) (fun hHeld => ?_)
      clear hK K
      (try simp only [Act.put, List.setIfInBounds_toArray, List.set_cons_zero, List.set_cons_succ, List.getElem_toArray, List.getElem_cons_zero, List.getElem_cons_succ])
      refine wpAnyH_take (i := 3) (v := ?_) rfl (by kernel_rfl) (by kernel_rfl) (by kernel_rfl) (fun _ _ _ h => h) (Or.inl ⟨by rfl, ?_⟩) (by assumption) ?_
      rotate_left 1
      focus (intro w hSw; clear hSw; go_simp; (try with_reducible rfl))
      (try simp only [Act.put, List.setIfInBounds_toArray, List.set_cons_zero, List.set_cons_succ, List.getElem_toArray, List.getElem_cons_zero, List.getElem_cons_succ])
      refine wpAnyH_take (i := 4) (v := ?_) rfl (by kernel_rfl) (by kernel_rfl) (by kernel_rfl) (fun _ _ _ h => h) (Or.inl ⟨by rfl, ?_⟩) (by assumption) ?_
      rotate_left 1
      focus (intro w hSw; clear hSw; go_simp; (try with_reducible rfl))
      (try simp only [Act.put, List.setIfInBounds_toArray, List.set_cons_zero, List.set_cons_succ, List.getElem_toArray, List.getElem_cons_zero, List.getElem_cons_succ])
      refine wpAnyH_take (i := 5) (v := ?_) rfl (by kernel_rfl) (by kernel_rfl) (by kernel_rfl) (fun _ _ _ h => h) (Or.inl ⟨by rfl, ?_⟩) (by assumption) ?_
      rotate_left 1
      focus (intro w hSw; clear hSw; go_simp; (try with_reducible rfl))
      (try simp only [Act.put, List.setIfInBounds_toArray, List.set_cons_zero, List.set_cons_succ, List.getElem_toArray, List.getElem_cons_zero, List.getElem_cons_succ])
      refine wpAnyH_take (i := 6) (v := ?_) rfl (by kernel_rfl) (by kernel_rfl) (by kernel_rfl) (fun _ _ _ h => h) (Or.inl ⟨by rfl, ?_⟩) (by assumption) ?_
      rotate_left 1
      focus (intro w hSw; clear hSw; go_simp; (try with_reducible rfl))
      (try simp only [Act.put, List.setIfInBounds_toArray, List.set_cons_zero, List.set_cons_succ, List.getElem_toArray, List.getElem_cons_zero, List.getElem_cons_succ])
      refine wpAnyH_take (i := 7) (v := ?_) rfl (by kernel_rfl) (by kernel_rfl) (by kernel_rfl) (fun _ _ _ h => h) (Or.inl ⟨by rfl, ?_⟩) (by assumption) ?_
      rotate_left 1
      focus (intro w hSw; clear hSw; go_simp; (try with_reducible rfl))
      (try simp only [Act.put, List.setIfInBounds_toArray, List.set_cons_zero, List.set_cons_succ, List.getElem_toArray, List.getElem_cons_zero, List.getElem_cons_succ])
      refine wpAnyH_take (i := 8) (v := ?_) rfl (by kernel_rfl) (by kernel_rfl) (by kernel_rfl) (fun _ _ _ h => h) (Or.inl ⟨by rfl, ?_⟩) (by assumption) ?_
      rotate_left 1
      focus (intro w hSw; clear hSw; go_simp; (try with_reducible rfl))
      (try simp only [Act.put, List.setIfInBounds_toArray, List.set_cons_zero, List.set_cons_succ, List.getElem_toArray, List.getElem_cons_zero, List.getElem_cons_succ])
      refine wpAnyH_take (i := 9) (v := .agg Y) rfl (by kernel_rfl) (by kernel_rfl) (by kernel_rfl) (fun _ _ _ h => h) (Or.inl ⟨by rfl, fun w hSw => x_load rfl rfl hSw⟩) (by assumption) ?_
      (try simp only [Act.put, List.setIfInBounds_toArray, List.set_cons_zero, List.set_cons_succ, List.getElem_toArray, List.getElem_cons_zero, List.getElem_cons_succ])
      refine wpAnyH_take (i := 10) (v := .agg Y) rfl (by kernel_rfl) (by kernel_rfl) (by kernel_rfl) (fun _ _ _ h => h) (Or.inl ⟨by rfl, fun w hSw => x_load rfl rfl hSw⟩) (by assumption) ?_
      (try simp only [Act.put, List.setIfInBounds_toArray, List.set_cons_zero, List.set_cons_succ, List.getElem_toArray, List.getElem_cons_zero, List.getElem_cons_succ])
      refine wpAnyH_ready (rs := [11]) (by kernel_rfl) (by simp) ?_
      refine AllReadyH.cons rfl (fun K hK => ?_) AllReadyH.nil
      go_simp
      go_wp2_with (refine htd.mono ?_; rintro e w7 ⟨A2, c2, rfl, hfit2, hR2, hb7⟩; rw [HTT.out] at hfit2 hR2 ⊢; have r7 := r6.below hb7; have m2 := lda_ev r7 (evl_len hok.fresh); rw [HY.out] at m2; have hsame := rsame_any E A A2 c c2 w7 hok hfit ((hY5.below hb6').below hb7) hfit2 hR2; rw [HY.out] at hsame; obtain ⟨Z, hZ⟩ : ∃ Z, (evl E (.slice A2 E.body.length c2)).toArray = Z := ⟨_, rfl⟩; rw [hZ] at hsame ⊢; have HZ := Lib.hid hZ; clear hZ)
      refine hK.out _ _ (by exact m2) (fun hHeld => ?_)
      clear hK K
      (try simp only [Act.put, List.setIfInBounds_toArray, List.set_cons_zero, List.set_cons_succ, List.getElem_toArray, List.getElem_cons_zero, List.getElem_cons_succ])
      refine wpAnyH_ready (rs := [12]) (by kernel_rfl) (by simp) ?_
      refine AllReadyH.cons rfl (fun K hK => ?_) AllReadyH.nil
      go_simp
      go_wp2_with (refine hsame.mono ?_; rintro e w8 ⟨rfl, hb8⟩; have r8 := r7.below hb8; have m3 := lda_ev r8 (evl_len hok.fresh); rw [HY.out] at m3)
      refine hK.out _ _ (by exact m3) (fun hHeld => ?_)
      clear hK K
      (try simp only [Act.put, List.setIfInBounds_toArray, List.set_cons_zero, List.set_cons_succ, List.getElem_toArray, List.getElem_cons_zero, List.getElem_cons_succ])
      refine wpAnyH_take (i := 13) (v := ?_) rfl (by kernel_rfl) (by kernel_rfl) (by kernel_rfl) (fun _ _ _ h => h) (Or.inl ⟨by rfl, ?_⟩) (by assumption) ?_
      rotate_left 1
      focus (intro w hSw; clear hSw; go_simp; (try with_reducible rfl))
      (try simp only [Act.put, List.setIfInBounds_toArray, List.set_cons_zero, List.set_cons_succ, List.getElem_toArray, List.getElem_cons_zero, List.getElem_cons_succ])
      refine wpAnyH_take (i := 14) (v := ?_) rfl (by kernel_rfl) (by kernel_rfl) (by kernel_rfl) (fun _ _ _ h => h) (Or.inl ⟨by rfl, ?_⟩) (by assumption) ?_
      rotate_left 1
      focus (intro w hSw; clear hSw; go_simp; (try with_reducible rfl))
      (try simp only [Act.put, List.setIfInBounds_toArray, List.set_cons_zero, List.set_cons_succ, List.getElem_toArray, List.getElem_cons_zero, List.getElem_cons_succ])
      refine wpAnyH_done (by kernel_rfl) ?_ _
      go_wp2_with fail
      go_ret
      exact ⟨rfl, below_then (below_then (below_then (below_then (below_then (hb2) hb4) hBa) hb6') hb7) hb8⟩
    · have HNO := Lib.hid hnone
      clear hnone HOR
      have hld6 := lda_ev r4 (evl_len hok.fresh)
      rw [HY.out] at hld6
      have hs6 := rsame_any (zeroEv 0) A none c 0 w5 hok hfit hY5 (Nat.le_refl _) (Rb.nil _ _)
      rw [HY.out, show (evl (zeroEv 0) (.slice none (zeroEv 0).body.length 0)).toArray = zev.toArray from rfl, HZZ.out] at hs6
      clear r4
      go_wp2_with (first
        | (refine wpList_load 28 (.tmp 3) rfl (.pointer (some ⟨b4, 0, none⟩)) (.agg Y) rfl rfl hld6 ?_)
        | (go_at_call 9; refine hs6.mono ?_; rintro e w7 ⟨rfl, hb7⟩))
      go_ret
      exact ⟨rfl, below_then (below_then (below_then (hb2) hb4) hBa) hb7⟩

end Go.Proofs.YtleolfpgiaimfaaDoor
