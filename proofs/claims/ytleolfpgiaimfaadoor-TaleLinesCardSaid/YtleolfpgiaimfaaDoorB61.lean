/- TaleLines' walk. -/
import Derived.Test.YtleolfpgiaimfaaDoorB60
namespace Go.Proofs.YtleolfpgiaimfaaDoor
set_option linter.unusedVariables false
set_option linter.unusedSimpArgs false
open Go.RowKit Go.Shelf

/-- one behind the other -/
theorem below_then {w w1 w2 : World} (h : Below w.heap.size w w1) (k : Below w1.heap.size w1 w2) : Below w.heap.size w w2 := h.trans (k.mono h.size)
theorem EvR.below {w w' : World} {b c : Nat} {E : Ev} {A : Option Addr} (h : EvR w b E A c) (hb : Below w.heap.size w w') : EvR w' b E A c := ⟨h.row.below hb, h.fit, h.body.below hb⟩
theorem read_some {E E' : Ev} {code : Int} {p : List UInt8 × List Fk} (hf : formL E.kind = some p) (hok : E.Ok) (h : (code = 0 ∧ readOne E'.kind (lineL E) = some E') ∨ (code = 3 ∧ E' = zeroEv 0 ∧ ∀ k, readOne k (lineL E) = none)) : E' = toldL E ∧ code = 0 := by
  have h1 := readOne_line hok (w := p.1) (fs := p.2) hf
  rcases h with ⟨h2, h3⟩ | ⟨_, _, h3⟩
  · exact ⟨(readOne_one h3 h1).2, h2⟩
  · rw [h3] at h1
    cases h1
theorem read_none {E E' : Ev} {code : Int} (hf : formL E.kind = none) (h : (code = 0 ∧ readOne E'.kind (lineL E) = some E') ∨ (code = 3 ∧ E' = zeroEv 0 ∧ ∀ k, readOne k (lineL E) = none)) : E' = zeroEv 0 ∧ code = 3 := by
  have hl : lineL E = [63] := by unfold lineL; rw [hf]
  rcases h with ⟨h2, h3⟩ | ⟨h2, h3, _⟩
  · rw [hl, readOne_mark] at h3
    cases h3
  · exact ⟨h3, h2⟩

set_option maxRecDepth 100000 in
set_option maxHeartbeats 4000000 in
theorem lines_great (E : Ev) (A : Option Addr) (c : Nat) (w : World) (hok : E.Ok) (hfit : E.body.length ≤ c) (hR : Rb w A E.body) (hG : Gt w) (hgr : 500 < E.body.length ∨ 500 < E.thread.length ∨ 500 < E.rt.length) :
    Calls Tryd.prog 3 #[.agg (evl E (.slice A E.body.length c)).toArray] w fun e w' => e = .returned (.bool true) ∧ Below w.heap.size w w' := by
  have hr0 : Row (w.alloc (.cells (evl E (.slice A E.body.length c)).toArray 28)) w.heap.size 28 (evl E (.slice A E.body.length c)) := Row.new w _ _
  have hB0 : Below w.heap.size w (w.alloc (.cells (evl E (.slice A E.body.length c)).toArray 28)) := (Below.refl _ w).alloc (Nat.le_refl _) _
  have hE1 : EvR (w.alloc (.cells (evl E (.slice A E.body.length c)).toArray 28)) w.heap.size E A c := ⟨hr0, hfit, hR.below hB0⟩
  obtain ⟨X, hX⟩ : ∃ X, (evl E (.slice A E.body.length c)).toArray = X := ⟨_, rfl⟩
  rw [hX] at hB0 hE1 ⊢
  have hsp := speaks25_any _ (hG.below hB0)
  have HE := Lib.hid hE1
  clear hX hr0 hE1
  go_enter Tryd.func3, Tryd.ntmps3
  go_upto_region 3 with (go_at_call 5; refine hsp.mono ?_; rintro e w2 ⟨rfl, hb2⟩)
  obtain ⟨p0, p1, p2, p3, p4, p5, p6, p7, p8, p9, p42, p43, p44, p45⟩ := (HE.out.below hb2).cells hok
  clear p0 p1 p2 p3 p4 p7 p8 p9 p42 p43 p44 hsp hR hfit hok HE
  generalize E.body.length = n at *
  have hsz : ∀ l : List UInt8, (bs l).size = l.length := bs_size
  generalize E.thread = x5 at *
  generalize E.rt = x45 at *
  obtain ⟨m, hm⟩ : ∃ m, x5.length = m := ⟨_, rfl⟩
  obtain ⟨q, hq⟩ : ∃ q, x45.length = q := ⟨_, rfl⟩
  rw [hm, hq] at hgr
  by_cases h1 : 500 < n
  · have g1 : decide ((500 : Int) < (n : Int)) = true := by simp; omega
    go_wp2_with fail
    go_ret
    exact ⟨rfl, below_then (hB0) hb2⟩
  · have g1 : decide ((500 : Int) < (n : Int)) = false := by simp; omega
    by_cases h2 : 500 < m
    · have g2 : decide ((500 : Int) < (m : Int)) = true := by simp; omega
      go_wp2_with fail
      go_ret
      exact ⟨rfl, below_then (hB0) hb2⟩
    · have g2 : decide ((500 : Int) < (m : Int)) = false := by simp; omega
      have g3 : decide ((500 : Int) < (q : Int)) = true := by simp; omega
      go_wp2_with fail
      go_ret
      exact ⟨rfl, below_then (hB0) hb2⟩

theorem word_len2 (E : Ev) (hok : E.Ok) (hb : E.body.length ≤ 500) (ht : E.thread.length ≤ 500) (hr : E.rt.length ≤ 500) (x : Fk) : (x.word E).length ≤ 1001 := by
  have hi : ∀ z, isInt z → (Lib.itoa z).length ≤ 1001 := fun z h => by
    have := Lib.itoa_length_le z h.1 h.2
    omega
  have hh : ∀ l : List UInt8, l.length ≤ 500 → (hexL l).length ≤ 1001 := fun l h => by
    have := hexL_len l
    omega
  have htr : ∀ b, (tru b).length ≤ 1001 := fun b => by
    unfold tru
    split <;> simp
  cases x <;> simp only [Fk.word]
  · exact hi _ hok.who
  · exact hi _ hok.dst
  · exact hi _ hok.n
  · exact hi _ hok.m
  · exact hh _ ht
  · exact hh _ hb
  · exact htr _
  · exact htr _
  · exact hi _ (isInt_byte _)
  · exact hh _ (by rw [hok.fresh]; omega)
  · exact hi _ hok.rk
  · exact hi _ hok.rn
  · exact hi _ hok.rm
  · exact hh _ hr
theorem sum_words2 (E : Ev) (hok : E.Ok) (hb : E.body.length ≤ 500) (ht : E.thread.length ≤ 500) (hr : E.rt.length ≤ 500) : ∀ fs : List Fk, ((fs.map (·.word E)).map List.length).sum ≤ 1001 * fs.length
  | [] => by simp
  | x :: fs => by
    have h1 := word_len2 E hok hb ht hr x
    have h2 := sum_words2 E hok hb ht hr fs
    simp only [List.map_cons, List.sum_cons, List.length_cons]
    omega
theorem line_len2 (E : Ev) (hok : E.Ok) (hb : E.body.length ≤ 500) (ht : E.thread.length ≤ 500) (hr : E.rt.length ≤ 500) : (lineL E).length ≤ 1000000 := by
  unfold lineL
  cases hf : formL E.kind with
  | none => simp
  | some p =>
    obtain ⟨w, fs⟩ := p
    simp only
    have h1 := joinW_len (w :: fs.map (·.word E))
    have h2 := sum_words2 E hok hb ht hr fs
    have h3 : fs.length ≤ 6 := by
      rcases formL_some hf with h | h | h | h | h | h | h | h | h <;> (rw [h] at hf; cases hf; decide)
    have h4 : w.length ≤ 10 := by
      rcases formL_some hf with h | h | h | h | h | h | h | h | h <;> (rw [h] at hf; cases hf; decide)
    simp only [List.length_cons, List.length_map, List.map_cons, List.sum_cons] at h1
    simp only [List.map_map] at h1 h2
    omega
set_option maxRecDepth 100000 in
set_option maxHeartbeats 4000000 in
theorem lines_none (E : Ev) (A : Option Addr) (c : Nat) (w : World) (hok : E.Ok) (hfit : E.body.length ≤ c) (hR : Rb w A E.body) (hG : Gt w) (hb5 : E.body.length ≤ 500) (ht5 : E.thread.length ≤ 500) (hr5 : E.rt.length ≤ 500) (hf : formL E.kind = none) :
    Calls Tryd.prog 3 #[.agg (evl E (.slice A E.body.length c)).toArray] w fun e w' => e = .returned (.bool true) ∧ Below w.heap.size w w' := by
  have hsz : E.Sz := ⟨by omega, by omega, by omega⟩
  have hr0 : Row (w.alloc (.cells (evl E (.slice A E.body.length c)).toArray 28)) w.heap.size 28 (evl E (.slice A E.body.length c)) := Row.new w _ _
  have hB0 : Below w.heap.size w (w.alloc (.cells (evl E (.slice A E.body.length c)).toArray 28)) := (Below.refl _ w).alloc (Nat.le_refl _) _
  have hE1 : EvR (w.alloc (.cells (evl E (.slice A E.body.length c)).toArray 28)) w.heap.size E A c := ⟨hr0, hfit, hR.below hB0⟩
  obtain ⟨X, hX⟩ : ∃ X, (evl E (.slice A E.body.length c)).toArray = X := ⟨_, rfl⟩
  rw [hX] at hB0 hE1 ⊢
  have hG1 := hG.below hB0
  have hsp := speaks25_any _ hG1
  have HE := Lib.hid hE1
  have HX := Lib.hid hX
  obtain ⟨b, hb⟩ : ∃ b, w.heap.size = b := ⟨_, rfl⟩
  have HB := Lib.hid hb
  obtain ⟨LE, hLE⟩ : ∃ LE, lineL E = LE := ⟨_, rfl⟩
  have HLE := Lib.hid hLE
  have hq : LE = [63] := by rw [← hLE]; unfold lineL; rw [hf]
  have hq1 : (LE == [63]) = true := by rw [hq]; rfl
  have hq2 : LE.length ≤ 1000000 := by rw [hq]; simp
  have HF := Lib.hid hf
  have hz0 := (zero_of_info zero_ev).1
  obtain ⟨zz, hzz⟩ : ∃ zz, zev.toArray = zz := ⟨_, rfl⟩
  have hzsz : zz.size = 46 := by rw [← hzz]; exact zev_size
  rw [hzz] at hz0
  have HZZ := Lib.hid hzz
  clear hX hr0 hE1 hLE hq hf hzz hb
  go_enter Tryd.func3, Tryd.ntmps3
  go_upto_region 3 with (go_at_call 5; refine hsp.mono ?_; rintro e w2 ⟨rfl, hb2⟩)
  rw [HB.out]
  have hE2 := HE.out.below hb2
  rw [HB.out] at hE2
  obtain ⟨p0, p1, p2, p3, p4, p5, p6, p7, p8, p9, p42, p43, p44, p45⟩ := hE2.cells hok
  have hld2 := lda_ev hE2.row (evl_len hok.fresh)
  rw [HX.out] at hld2
  have hG2 := hG1.below hb2
  have hl2 := line_any E A c w2 hsz hok hfit hE2.body hG2
  rw [HX.out, HLE.out] at hl2
  have HE2 := Lib.hid hE2
  obtain ⟨n, hn⟩ : ∃ n, E.body.length = n := ⟨_, rfl⟩
  obtain ⟨m, hm⟩ : ∃ m, E.thread.length = m := ⟨_, rfl⟩
  obtain ⟨q, hq⟩ : ∃ q, E.rt.length = q := ⟨_, rfl⟩
  rw [hn] at hb5 p6
  rw [hm] at ht5
  rw [hq] at hr5
  have hsm : (bs E.thread).size = m := by rw [bs_size, hm]
  have hsq : (bs E.rt).size = q := by rw [bs_size, hq]
  have g1 : decide ((500 : Int) < (n : Int)) = false := by simp; omega
  have g2 : decide ((500 : Int) < (m : Int)) = false := by simp; omega
  have g3 : decide ((500 : Int) < (q : Int)) = false := by simp; omega
  obtain ⟨v5, h5⟩ : ∃ v5, bs E.thread = v5 := ⟨_, rfl⟩
  obtain ⟨v45, h45⟩ : ∃ v45, bs E.rt = v45 := ⟨_, rfl⟩
  rw [h5] at p5 hsm
  rw [h45] at p45 hsq
  clear p0 p1 p2 p3 p4 p7 p8 p9 p42 p43 p44 hsp hE2 HE hn hm hq h5 h45
  go_upto_region 6 with (first
    | (refine wpList_load 28 (.tmp 1) rfl (.pointer (some ⟨b, 0, none⟩)) (.agg X) rfl rfl hld2 ?_)
    | (go_at_call 6; refine hl2.mono ?_; rintro e w3 ⟨rfl, hb3⟩))
  have hB23 := hb3
  have hE3 := HE2.out.below hb3
  have hG3 := hG2.below hb3
  have hrd := tread_any LE w3 hq2 hG3
  clear hld2 hl2 hG2 p5 p6 p45 g1 g2 g3 hsm hsq
  go_upto_region 7 with (go_at_call 7; refine hrd.mono ?_; rintro e w4 ⟨E', A', c', code, rfl, hok', hsz', hfit', hR', hor, hb4⟩; rw [← HLE.out] at hor; obtain ⟨rfl, rfl⟩ := read_none HF.out hor; obtain ⟨Y, hY⟩ : ∃ Y, (evl (zeroEv 0) (.slice A' (zeroEv 0).body.length c')).toArray = Y := ⟨_, rfl⟩; have hYs : Y.size = 46 := (by rw [← hY, List.size_toArray]; exact evl_len hok'.fresh); have hsn := store_new_ev w4 zz Y hzsz hYs (by rw [← hY]; exact evl_one _ _ _ _); rw [hY]; have HY := Lib.hid hY; clear hY hor)
  have hBa : Below w4.heap.size w4 (w4.alloc (.cells Y 28)) := (Below.refl _ w4).alloc (Nat.le_refl _) _
  have r4 := Row.new w4 Y 28
  obtain ⟨w5, hw5⟩ : ∃ w5, w4.alloc (.cells Y 28) = w5 := ⟨_, rfl⟩
  obtain ⟨b4, hb4'⟩ : ∃ b4, w4.heap.size = b4 := ⟨_, rfl⟩
  have hE5 := (hE3.below hb4).below hBa
  have hY5 := hR'.below hBa
  rw [hw5] at r4 hBa hE5 hY5 ⊢
  rw [hb4'] at r4 ⊢
  rw [← HY.out, List.toList_toArray] at r4
  have hld5 := lda_ev hE5.row (evl_len hok.fresh)
  have hl5 := rline_any E A c w5 hsz hok hE5.fit hE5.body
  rw [HX.out] at hld5 hl5
  rw [HLE.out] at hl5
  have H5 := Lib.hid hE5
  clear hw5 hb4' hsn hE5
  go_upto_region 10 with (first
    | (refine wpList_load 28 (.tmp 1) rfl (.pointer (some ⟨b, 0, none⟩)) (.agg X) rfl rfl hld5 ?_)
    | (go_at_call 8; refine hl5.mono ?_; rintro e w6 ⟨rfl, hb6⟩))
  have r6 := r4.below hb6
  have hld6 := lda_ev r6 (evl_len hok'.fresh)
  rw [HY.out] at hld6
  have hs6 := rsame_any (zeroEv 0) A' none c' 0 w6 hok' hfit' (hY5.below hb6) (Nat.le_refl _) (Rb.nil _ _)
  rw [HY.out, show (evl (zeroEv 0) (.slice none (zeroEv 0).body.length 0)).toArray = zev.toArray from rfl, HZZ.out] at hs6
  clear hld5 hl5 r4 r6
  go_wp2_with (first
    | (refine wpList_load 28 (.tmp 4) rfl (.pointer (some ⟨b4, 0, none⟩)) (.agg Y) rfl rfl hld6 ?_)
    | (go_at_call 9; refine hs6.mono ?_; rintro e w7 ⟨rfl, hb7⟩))
  go_ret
  exact ⟨rfl, below_then (below_then (below_then (below_then (below_then (below_then (hB0) hb2) hb3) hb4) hBa) hb6) hb7⟩
set_option maxRecDepth 100000 in
set_option maxHeartbeats 4000000 in
theorem lines_some (E : Ev) (A : Option Addr) (c : Nat) (w : World) (hok : E.Ok) (hfit : E.body.length ≤ c) (hR : Rb w A E.body) (hG : Gt w) (hb5 : E.body.length ≤ 500) (ht5 : E.thread.length ≤ 500) (hr5 : E.rt.length ≤ 500) (p : List UInt8 × List Fk) (hf : formL E.kind = some p) :
    Calls Tryd.prog 3 #[.agg (evl E (.slice A E.body.length c)).toArray] w fun e w' => e = .returned (.bool true) ∧ Below w.heap.size w w' := by
  have hsz : E.Sz := ⟨by omega, by omega, by omega⟩
  have hr0 : Row (w.alloc (.cells (evl E (.slice A E.body.length c)).toArray 28)) w.heap.size 28 (evl E (.slice A E.body.length c)) := Row.new w _ _
  have hB0 : Below w.heap.size w (w.alloc (.cells (evl E (.slice A E.body.length c)).toArray 28)) := (Below.refl _ w).alloc (Nat.le_refl _) _
  have hE1 : EvR (w.alloc (.cells (evl E (.slice A E.body.length c)).toArray 28)) w.heap.size E A c := ⟨hr0, hfit, hR.below hB0⟩
  obtain ⟨X, hX⟩ : ∃ X, (evl E (.slice A E.body.length c)).toArray = X := ⟨_, rfl⟩
  rw [hX] at hB0 hE1 ⊢
  have hG1 := hG.below hB0
  have hsp := speaks25_any _ hG1
  have HE := Lib.hid hE1
  have HX := Lib.hid hX
  obtain ⟨b, hb⟩ : ∃ b, w.heap.size = b := ⟨_, rfl⟩
  have HB := Lib.hid hb
  obtain ⟨LE, hLE⟩ : ∃ LE, lineL E = LE := ⟨_, rfl⟩
  have HLE := Lib.hid hLE
  have hq1 : (LE == [63]) = false := by rw [beq_eq_false_iff_ne, ← hLE]; exact line_ne (w := p.1) (fs := p.2) hf
  have hq2 : LE.length ≤ 1000000 := by rw [← hLE]; exact line_len2 E hok hb5 ht5 hr5
  have HF := Lib.hid hf
  have hz0 := (zero_of_info zero_ev).1
  obtain ⟨zz, hzz⟩ : ∃ zz, zev.toArray = zz := ⟨_, rfl⟩
  have hzsz : zz.size = 46 := by rw [← hzz]; exact zev_size
  rw [hzz] at hz0
  have HZZ := Lib.hid hzz
  clear hX hr0 hE1 hLE hf hzz hb
  go_enter Tryd.func3, Tryd.ntmps3
  go_upto_region 3 with (go_at_call 5; refine hsp.mono ?_; rintro e w2 ⟨rfl, hb2⟩)
  rw [HB.out]
  have hE2 := HE.out.below hb2
  rw [HB.out] at hE2
  obtain ⟨p0, p1, p2, p3, p4, p5, p6, p7, p8, p9, p42, p43, p44, p45⟩ := hE2.cells hok
  have hld2 := lda_ev hE2.row (evl_len hok.fresh)
  rw [HX.out] at hld2
  have hG2 := hG1.below hb2
  have hl2 := line_any E A c w2 hsz hok hfit hE2.body hG2
  rw [HX.out, HLE.out] at hl2
  have HE2 := Lib.hid hE2
  obtain ⟨n, hn⟩ : ∃ n, E.body.length = n := ⟨_, rfl⟩
  obtain ⟨m, hm⟩ : ∃ m, E.thread.length = m := ⟨_, rfl⟩
  obtain ⟨q, hq⟩ : ∃ q, E.rt.length = q := ⟨_, rfl⟩
  rw [hn] at hb5 p6
  rw [hm] at ht5
  rw [hq] at hr5
  have hsm : (bs E.thread).size = m := by rw [bs_size, hm]
  have hsq : (bs E.rt).size = q := by rw [bs_size, hq]
  have g1 : decide ((500 : Int) < (n : Int)) = false := by simp; omega
  have g2 : decide ((500 : Int) < (m : Int)) = false := by simp; omega
  have g3 : decide ((500 : Int) < (q : Int)) = false := by simp; omega
  obtain ⟨v5, h5⟩ : ∃ v5, bs E.thread = v5 := ⟨_, rfl⟩
  obtain ⟨v45, h45⟩ : ∃ v45, bs E.rt = v45 := ⟨_, rfl⟩
  rw [h5] at p5 hsm
  rw [h45] at p45 hsq
  clear p0 p1 p2 p3 p4 p7 p8 p9 p42 p43 p44 hsp hE2 HE hn hm hq h5 h45
  go_upto_region 6 with (first
    | (refine wpList_load 28 (.tmp 1) rfl (.pointer (some ⟨b, 0, none⟩)) (.agg X) rfl rfl hld2 ?_)
    | (go_at_call 6; refine hl2.mono ?_; rintro e w3 ⟨rfl, hb3⟩))
  have hB23 := hb3
  have hE3 := HE2.out.below hb3
  have hG3 := hG2.below hb3
  have hrd := tread_any LE w3 hq2 hG3
  clear hld2 hl2 hG2 p5 p6 p45 g1 g2 g3 hsm hsq
  go_upto_region 7 with (go_at_call 7; refine hrd.mono ?_; rintro e w4 ⟨E', A', c', code, rfl, hok', hsz', hfit', hR', hor, hb4⟩; rw [← HLE.out] at hor; obtain ⟨rfl, rfl⟩ := read_some HF.out hok hor; obtain ⟨Y, hY⟩ : ∃ Y, (evl (toldL E) (.slice A' (toldL E).body.length c')).toArray = Y := ⟨_, rfl⟩; have hYs : Y.size = 46 := (by rw [← hY, List.size_toArray]; exact evl_len hok'.fresh); have hsn := store_new_ev w4 zz Y hzsz hYs (by rw [← hY]; exact evl_one _ _ _ _); rw [hY]; have HY := Lib.hid hY; clear hY hor)
  have hBa : Below w4.heap.size w4 (w4.alloc (.cells Y 28)) := (Below.refl _ w4).alloc (Nat.le_refl _) _
  have r4 := Row.new w4 Y 28
  obtain ⟨w5, hw5⟩ : ∃ w5, w4.alloc (.cells Y 28) = w5 := ⟨_, rfl⟩
  obtain ⟨b4, hb4'⟩ : ∃ b4, w4.heap.size = b4 := ⟨_, rfl⟩
  have hE5 := (hE3.below hb4).below hBa
  have hY5 := hR'.below hBa
  rw [hw5] at r4 hBa hE5 hY5 ⊢
  rw [hb4'] at r4 ⊢
  rw [← HY.out, List.toList_toArray] at r4
  have hld5 := lda_ev hE5.row (evl_len hok.fresh)
  have hl5 := rline_any E A c w5 hsz hok hE5.fit hE5.body
  rw [HX.out] at hld5 hl5
  rw [HLE.out] at hl5
  have H5 := Lib.hid hE5
  clear hw5 hb4' hsn hE5
  go_upto_region 11 with (first
    | (refine wpList_load 28 (.tmp 1) rfl (.pointer (some ⟨b, 0, none⟩)) (.agg X) rfl rfl hld5 ?_)
    | (go_at_call 8; refine hl5.mono ?_; rintro e w6 ⟨rfl, hb6⟩))
  have r6 := r4.below hb6
  have hld6 : (Instr.loadAt 28 (.pointer (some ⟨b4, 0, none⟩))).run Tryd.prog w6.drew = .ok (.agg Y) w6.drew := by
    have h := lda_ev (W := w6.drew) r6 (evl_len hok'.fresh)
    rw [HY.out] at h
    exact h
  have hE6 := H5.out.below hb6
  have hldb : (Instr.loadAt 28 (.pointer (some ⟨b, 0, none⟩))).run Tryd.prog w6.drew = .ok (.agg X) w6.drew := by
    have h := lda_ev (W := w6.drew) hE6.row (evl_len hok.fresh)
    rw [HX.out] at h
    exact h
  have hE6d : EvR w6.drew b E A c := ⟨hE6.row, hE6.fit, hE6.body⟩
  have htd := rtold_any E A c w6.drew hok hE6d.fit hE6d.body
  rw [HX.out] at htd
  have hY6 : Rb w6.drew A' (toldL E).body := hY5.below hb6.drew
  have htk := told_ok hok
  clear hld5 hl5
  refine wp_region_held_drew (S := fun W => (Instr.loadAt 28 (.pointer (some ⟨b4, 0, none⟩))).run Tryd.prog W = .ok (.agg Y) W ∧ (Instr.loadAt 28 (.pointer (some ⟨b, 0, none⟩))).run Tryd.prog W = .ok (.agg X) W) (by kernel_rfl) (by exact ⟨hld6, hldb⟩) (fun hHeld => ?_)
  refine wpAnyH_take (i := 0) (v := ?_) rfl (by kernel_rfl) (by kernel_rfl) (by kernel_rfl) (fun _ _ _ h => h) (Or.inl ⟨by rfl, ?_⟩) (by assumption) ?_
  rotate_left 1
  focus (intro w hSw; clear hSw; go_simp; (try with_reducible rfl))
  (try simp only [Act.put, List.setIfInBounds_toArray, List.set_cons_zero, List.set_cons_succ, List.getElem_toArray, List.getElem_cons_zero, List.getElem_cons_succ])
  refine wpAnyH_take (i := 1) (v := ?_) rfl (by kernel_rfl) (by kernel_rfl) (by kernel_rfl) (fun _ _ _ h => h) (Or.inl ⟨by rfl, ?_⟩) (by assumption) ?_
  rotate_left 1
  focus (intro w hSw; clear hSw; go_simp; (try with_reducible rfl))
  (try simp only [Act.put, List.setIfInBounds_toArray, List.set_cons_zero, List.set_cons_succ, List.getElem_toArray, List.getElem_cons_zero, List.getElem_cons_succ])
  refine wpAnyH_take (i := 2) (v := ?_) rfl (by kernel_rfl) (by kernel_rfl) (by kernel_rfl) (fun _ _ _ h => h) (Or.inl ⟨by rfl, ?_⟩) (by assumption) ?_
  rotate_left 1
  focus (intro w hSw; clear hSw; go_simp; (try with_reducible rfl))
  (try simp only [Act.put, List.setIfInBounds_toArray, List.set_cons_zero, List.set_cons_succ, List.getElem_toArray, List.getElem_cons_zero, List.getElem_cons_succ])
  refine wpAnyH_take (i := 3) (v := .agg Y) rfl (by kernel_rfl) (by kernel_rfl) (by kernel_rfl) (fun _ _ _ h => h) (Or.inl ⟨by rfl, fun w hSw => x_load rfl rfl hSw.1⟩) (by assumption) ?_
  (try simp only [Act.put, List.setIfInBounds_toArray, List.set_cons_zero, List.set_cons_succ, List.getElem_toArray, List.getElem_cons_zero, List.getElem_cons_succ])
  refine wpAnyH_take (i := 4) (v := .agg X) rfl (by kernel_rfl) (by kernel_rfl) (by kernel_rfl) (fun _ _ _ h => h) (Or.inl ⟨by rfl, fun w hSw => x_load rfl rfl hSw.2⟩) (by assumption) ?_
  (try simp only [Act.put, List.setIfInBounds_toArray, List.set_cons_zero, List.set_cons_succ, List.getElem_toArray, List.getElem_cons_zero, List.getElem_cons_succ])
  refine wpAnyH_ready (rs := [5]) (by kernel_rfl) (by simp) ?_
  refine AllReadyH.cons rfl (fun K hK => ?_) AllReadyH.nil
  go_simp
  go_wp2_with (refine htd.mono ?_; rintro e w7 ⟨A2, c2, rfl, hfit2, hR2, hb7⟩; have hb7' : Below w6.heap.size w6 w7 := ((Below.refl _ w6).drew).trans hb7; have r7 := r6.below hb7'; have r7b := hE6.row.below hb7'; have m1 := lda_ev r7 (evl_len hok'.fresh); have m2 := lda_ev r7b (evl_len hok.fresh); rw [HY.out] at m1; rw [HX.out] at m2; have hsame := rsame_any (toldL E) A' A2 c' c2 w7 htk hfit' (hY6.below hb7) hfit2 hR2; rw [HY.out] at hsame; obtain ⟨Z, hZ⟩ : ∃ Z, (evl (toldL E) (.slice A2 (toldL E).body.length c2)).toArray = Z := ⟨_, rfl⟩; rw [hZ] at hsame ⊢; have HZ := Lib.hid hZ; clear hZ)
  refine hK.out _ _ (by exact ⟨m1, m2⟩) (fun hHeld => ?_)
  clear hK K
  (try simp only [Act.put, List.setIfInBounds_toArray, List.set_cons_zero, List.set_cons_succ, List.getElem_toArray, List.getElem_cons_zero, List.getElem_cons_succ])
  refine wpAnyH_ready (rs := [6]) (by kernel_rfl) (by simp) ?_
  refine AllReadyH.cons rfl (fun K hK => ?_) AllReadyH.nil
  go_simp
  go_wp2_with (refine hsame.mono ?_; rintro e w8 ⟨rfl, hb8⟩; have r8 := r7.below hb8; have r8b := r7b.below hb8; have m3 := lda_ev r8 (evl_len hok'.fresh); have m4 := lda_ev r8b (evl_len hok.fresh); rw [HY.out] at m3; rw [HX.out] at m4)
  refine hK.out _ _ (by exact ⟨m3, m4⟩) (fun hHeld => ?_)
  clear hK K
  (try simp only [Act.put, List.setIfInBounds_toArray, List.set_cons_zero, List.set_cons_succ, List.getElem_toArray, List.getElem_cons_zero, List.getElem_cons_succ])
  refine wpAnyH_take (i := 7) (v := ?_) rfl (by kernel_rfl) (by kernel_rfl) (by kernel_rfl) (fun _ _ _ h => h) (Or.inl ⟨by rfl, ?_⟩) (by assumption) ?_
  rotate_left 1
  focus (intro w hSw; clear hSw; go_simp; (try with_reducible rfl))
  (try simp only [Act.put, List.setIfInBounds_toArray, List.set_cons_zero, List.set_cons_succ, List.getElem_toArray, List.getElem_cons_zero, List.getElem_cons_succ])
  refine wpAnyH_take (i := 8) (v := ?_) rfl (by kernel_rfl) (by kernel_rfl) (by kernel_rfl) (fun _ _ _ h => h) (Or.inl ⟨by rfl, ?_⟩) (by assumption) ?_
  rotate_left 1
  focus (intro w hSw; clear hSw; go_simp; (try with_reducible rfl))
  (try simp only [Act.put, List.setIfInBounds_toArray, List.set_cons_zero, List.set_cons_succ, List.getElem_toArray, List.getElem_cons_zero, List.getElem_cons_succ])
  refine wpAnyH_done (by kernel_rfl) ?_ _
  go_wp2_with fail
  go_ret
  exact ⟨rfl, below_then (below_then (below_then (below_then (below_then (below_then (below_then (hB0) hb2) hb3) hb4) hBa) hb6) hb7') hb8⟩

theorem taleLines_any (E : Ev) (A : Option Addr) (c : Nat) (w : World) (hok : E.Ok) (hfit : E.body.length ≤ c) (hR : Rb w A E.body) (hG : Gt w) :
    Calls Tryd.prog 3 #[.agg (evl E (.slice A E.body.length c)).toArray] w fun e w' => e = .returned (.bool true) ∧ Below w.heap.size w w' := by
  by_cases h : 500 < E.body.length ∨ 500 < E.thread.length ∨ 500 < E.rt.length
  · exact lines_great E A c w hok hfit hR hG h
  · cases hf : formL E.kind with
    | none => exact lines_none E A c w hok hfit hR hG (by omega) (by omega) (by omega) hf
    | some p => exact lines_some E A c w hok hfit hR hG (by omega) (by omega) (by omega) p hf

end Go.Proofs.YtleolfpgiaimfaaDoor
