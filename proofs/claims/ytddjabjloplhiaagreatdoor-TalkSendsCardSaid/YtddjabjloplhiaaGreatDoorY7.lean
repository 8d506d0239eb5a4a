/- The talk's Post: one line is fed. -/
import Derived.Test.YtddjabjloplhiaaGreatDoorY6
import Derived.Lib.SlBytesConst
namespace Go.Proofs.YtddjabjloplhiaaGreatDoor
set_option linter.unusedVariables false
set_option linter.unusedSimpArgs false
open Go.RowKit

theorem answer_len (s : Ps) (line : List UInt8) : 6 ≤ (cmd s line).1.length ∧ (cmd s line).1.length ≤ 9 := by
  have key : ∀ r : List UInt8 × Ps, (r.1 = okayB ∨ r.1 = byeB ∨ r.1 = manyB ∨ r.1 = whatB ∨ r.1 = formB ∨ r.1 = lateB ∨ r.1 = dataB) → 6 ≤ r.1.length ∧ r.1.length ≤ 9 := by
    intro r h
    rcases h with h | h | h | h | h | h | h <;> rw [h] <;> decide
  apply key
  unfold cmd cmd2
  repeat' split
  all_goals simp

set_option maxRecDepth 100000 in
set_option maxHeartbeats 4000000 in
theorem feedLine_any (p base : Nat) (s : Ps) (line : List UInt8) (kv : Value) (B : Option Addr) (n cb : Nat) (w : World) (hw : MxB w base) (hl : line.length ≤ 100000) (hcut : cutE (line ++ [13, 10]) = some (line, [])) (hn : (line ++ [13, 10]).length = n) (hB : Rb w B (line ++ [13, 10])) (hncb : n ≤ cb)
    (h : PostAt w base p s [] kv) (hbase : base ≤ w.heap.size) (htl : s.tos.length ≤ 1000) (h5 : s.st ≠ 5) (h4 : s.st ≠ 4) (h4' : (cmd s line).2.st ≠ 4) :
    Calls Tryz.prog 8 #[.pointer (some ⟨p, 0, none⟩), .slice B n cb] w fun e w' => (∃ v, e = .returned v ∧ OwnM w' base 5 1 v ((cmd s line).1.length + 2) (((cmd s line).1 ++ [13, 10]).map bv)) ∧ (∃ l2, PostAt w' base p (cmd s line).2 l2 kv ∧ ((cmd s line).2.st ≠ 5 → l2 = [])) ∧ Below base w w' := by
  obtain ⟨bb, ob, rfl, _⟩ := hB (by simp)
  have HN := Lib.hid hn
  have HCUT := Lib.hid hcut
  have H4' := Lib.hid h4'
  have hcl := closed_any w base p s [] kv h
  rw [decide_eq_false h5] at hcl
  obtain ⟨lv, tv, hrow, hlo, hto, hbp, hlp, htp, hlt⟩ := h
  change OwnM w base 5 1 lv 0 [] at hlo
  obtain ⟨Al, cl, rfl, _, _, _, _, _, _⟩ := hlo.form
  have HROW := Lib.hid hrow
  have HLO := Lib.hid hlo
  have HTO := Lib.hid hto
  have HLP := Lib.hid hlp
  have HTP := Lib.hid htp
  have HLT := Lib.hid hlt
  have c1 := hrow.cell (j := 1) rfl
  have hnl1 : n ≤ line.length + 2 := by rw [← hn]; simp
  have hnl2 : line.length + 2 ≤ n := by rw [← hn]; simp
  clear hn hcut h4' hrow hlo hto hlp htp hlt
  go_enter Tryz.func8, Tryz.ntmps8
  go_wp2_with fail
  refine wp_scope_jumps_one 0 (fun a' wr => ∃ (o4 : Value) (ph : Bool) (u2 u3 u5 u6 u7 u8 u9 u10 u11 u12 u13 u14 u15 u16 u17 u18 u19 u20 u21 u22 u23 u24 u25 u26 u27 u28 u29 u30 u31 u32 u33 u34 u35 u36 u37 u38 u39 u40 u41 u42 u43 u44 u45 u46 u47 u48 u49 u50 u51 u52 u53 u54 u55 u56 u57 u58 u59 u60 u61 u62 u63 u64 u65 u66 u67 u68 u69 u70 u71 u72 u73 u74 u75 u76 u77 u78 : Value), a' = { tmps := #[.pointer (some ⟨p, 0, none⟩), .slice (some ⟨bb, ob, none⟩) n cb, u2, u3, o4, u5, u6, u7, u8, u9, u10, u11, u12, u13, u14, u15, u16, u17, u18, u19, u20, u21, u22, u23, u24, u25, u26, u27, u28, u29, u30, u31, u32, u33, u34, u35, u36, u37, u38, u39, u40, u41, u42, u43, u44, u45, u46, u47, u48, u49, u50, u51, u52, u53, u54, u55, u56, u57, u58, u59, u60, u61, u62, u63, u64, u65, u66, u67, u68, u69, u70, u71, u72, u73, u74, u75, u76, u77, u78], defers := [] } ∧ Hid (if ph then o4 = .slice none 0 0 ∧ PostAt wr base p s (line ++ [13, 10]) kv else ∃ g c, o4 = .slice (some ⟨g, 0, none⟩) ((cmd s line).1.length + 2) c ∧ OwnM wr base 5 1 o4 ((cmd s line).1.length + 2) (((cmd s line).1 ++ [13, 10]).map bv) ∧ PostAt wr base p (cmd s line).2 [] kv) ∧ Below base w wr ∧ base ≤ wr.heap.size ∧ MxB wr base) (fun a' _ => match a'.tmps.getD 4 undef with | .slice none _ _ => 1 | _ => 0) rfl ?_ ?_
  · rintro a' wr ⟨o4, ph, u2, u3, u5, u6, u7, u8, u9, u10, u11, u12, u13, u14, u15, u16, u17, u18, u19, u20, u21, u22, u23, u24, u25, u26, u27, u28, u29, u30, u31, u32, u33, u34, u35, u36, u37, u38, u39, u40, u41, u42, u43, u44, u45, u46, u47, u48, u49, u50, u51, u52, u53, u54, u55, u56, u57, u58, u59, u60, u61, u62, u63, u64, u65, u66, u67, u68, u69, u70, u71, u72, u73, u74, u75, u76, u77, u78, rfl, hph, hBl, hsz, hmx⟩
    clear hcl c1 HROW HLO HTO HLP HTP HLT hB
    cases ph with
    | true =>
      have h0 := hph.out
      rw [if_pos rfl] at h0
      obtain ⟨rfl, lv1, tv1, hrow, hlo, hto, _, hlp, htp, hlt⟩ := h0
      rw [HN.out] at hlo
      have HLO := Lib.hid hlo
      obtain ⟨A1, k1, rfl, hnk, hkm, hR, _, hA0, hAb⟩ := hlo.form
      have hpl : Pl A1 k1 := by
        rcases hAb with h | ⟨b, h⟩
        · exact .inl ⟨h, hA0 h⟩
        · exact .inr ⟨b, 0, h⟩
      obtain ⟨b1, o1, hA1, _⟩ := hR (by simp)
      obtain rfl : A1 = some ⟨b1, 0, none⟩ := by
        rcases hAb with h | ⟨b, h⟩
        · rw [h] at hA1; cases hA1
        · rw [h] at hA1 ⊢; cases hA1; rfl
      have HROW := Lib.hid hrow
      have HTO := Lib.hid hto
      have HTP := Lib.hid htp
      have hb1p : b1 ≠ p := fun e => hlp (by simp [Value.ownBlock, e])
      have kc := fun (w : World) (C : Array Value) (n c : Nat) => Lib.run_convert_bytes_const (P := Tryz.prog) w 22 5 C n c Tryz.underlying22 Tryz.underlying5
      have e4 : ((s.st : Int) == 4) = false := by rw [beq_eq_false_iff_ne]; omega
      have c0 := hrow.cell (j := 0) rfl
      have c1 := hrow.cell (j := 1) rfl
      have hal : Below wr.heap.size wr (wr.alloc (.cells #[.int .u8 13, .int .u8 10] 5 (2, 3))) := (Below.refl _ _).alloc (Nat.le_refl _) _
      have hcutc := cutE_any (some ⟨b1, 0, none⟩) (some ⟨wr.heap.size, 0, none⟩) (line ++ [13, 10]) n k1 2 (wr.alloc (.cells #[.int .u8 13, .int .u8 10] 5 (2, 3))) (hmx.1.below hal) HN.out (Rb.below (show Rb wr _ _ from hR) hal) hnk hpl (show Rb _ _ [13, 10] from Rb_new wr [13, 10] _ _ rfl 2 (2, 3)) (by omega)
      have HAL := Lib.hid hal
      clear hrow hlo hto htp hlp hlt hph hR hA0 hAb hA1 hal
      go_wp2_with fail
      refine hcutc.mono ?_
      rintro e w3 ⟨ho, hd⟩
      unfold CutEOut at ho
      rw [HCUT.out] at ho
      obtain ⟨B2, d2, rfl, hRa, hRb, hbd, hpl2, hac⟩ := ho
      have hb3 : Below wr.heap.size wr w3 := HAL.out.trans ((hd.below _).mono HAL.out.size)
      clear hcutc hd
      have hcl := clone_any B2 [] 0 d2 w3 rfl hRb hbd hpl2 (by omega)
      go_wp2_with fail
      refine hcl.mono ?_
      rintro e w4 ⟨⟨v4, rfl, hv4⟩, hb4⟩
      obtain ⟨A4, c4, rfl, _, _, _, _⟩ := own_form hv4
      have hb4' : Below wr.heap.size wr w4 := hb3.trans (hb4.mono hb3.size)
      have hrow4 := HROW.out.below hb4'
      have c14 := hrow4.cell (j := 1) rfl
      have f14 := hrow4.frozen 1
      have hRa4 : Rb (w4.setCell ⟨p, 1, none⟩ (.slice A4 0 c4)) (some ⟨b1, 0, none⟩) line := (hRa.below hb4).setFar (by simpa using Ne.symm hb1p) _
      have hcs := conv_str (P := Tryz.prog) (src := 22) (dst := 9) (e := 5) (c := k1) (n := line.length) Tryz.underlying22 Tryz.underlying5 Tryz.underlying9 hRa4 rfl
      have hx5 : Ext (fun k => k = p) wr (w4.setCell ⟨p, 1, none⟩ (.slice A4 0 c4)) := (Ext.of_below (fun k => k = p) hb4').set ⟨p, 1, none⟩ _ rfl
      have hx5b : Ext (fun k => base ≤ k) wr (w4.setCell ⟨p, 1, none⟩ (.slice A4 0 c4)) := hx5.mono fun b e => e ▸ hbp
      have hown4 : OwnM (w4.setCell ⟨p, 1, none⟩ (.slice A4 0 c4)) base 5 1 (.slice A4 0 c4) 0 [] := Ext.own ((Ext.refl (fun k => k = p) w4).set ⟨p, 1, none⟩ _ rfl) (OwnM.rebase (OwnM.of hv4) (by have := hb3.size; omega)) (fun k hk e => by have := ((OwnM.of hv4).lt k hk).1; have := hb3.size; have := HROW.out.lt; omega)
      have hlt4 : ∀ k, (Value.slice A4 0 c4).ownBlock = some k → wr.heap.size ≤ k ∧ k < w4.heap.size := fun k hk => by
        have h := (OwnM.of hv4).lt k hk
        have := hb3.size
        exact ⟨by omega, h.2⟩
      have HLT4 := Lib.hid hlt4
      have hal := answer_len s line
      have hplt := HROW.out.lt
      have hsz5 : (w4.setCell ⟨p, 1, none⟩ (.slice A4 0 c4)).heap.size = w4.heap.size := by simp
      have HOWN4 := Lib.hid hown4
      clear hlt4 hown4
      have hcm := command_any p base s line (.slice A4 0 c4) tv1 kv (w4.setCell ⟨p, 1, none⟩ (.slice A4 0 c4)) (hmx.ext hx5b).1 (by omega) (hrow4.set 1 _) (hx5.own HTO.out (fun k hk e => HTP.out (e ▸ hk))) HTP.out (by have := hx5.size; omega) htl h5
      clear hcl hv4 hb4 hRa hRb hbd hpl2 hac hb3 hrow4 hRa4
      go_wp2_with fail
      refine hcm.mono ?_
      rintro e w6 ⟨⟨rfl, tv6, hrow6, hto6, hbk6⟩, hx6⟩
      have hown6 := hx6.own HOWN4.out (fun k hk e => by
        rcases e with e | e
        · have := (HLT4.out k hk).1; omega
        · have h1 := (HTO.out.lt k e).2
          have := (HLT4.out k hk).1
          omega)
      have hsr : Src Tryz.prog 1 9 (.string (bs (cmd s line).1 ++ ⟨#[13, 10]⟩)) ((cmd s line).1.length + 2) (((cmd s line).1 ++ [13, 10]).map bv) w6 := by
        rw [show (⟨#[13, 10]⟩ : ByteArray) = bs [13, 10] from rfl, bs_add]
        have := Src_str (P := Tryz.prog) (w := w6) Tryz.underlying9 ((cmd s line).1 ++ [13, 10])
        rwa [List.length_append] at this
      have HROW6 := Lib.hid hrow6
      have HOWN6 := Lib.hid hown6
      clear hown6
      have HTO6 := Lib.hid hto6
      have HBK6 := Lib.hid hbk6
      have hsz6 : wr.heap.size ≤ w6.heap.size := by have h1 := hx6.size; have h2 := hx5.size; omega
      have hx6b : Ext (fun k => base ≤ k) wr w6 := hx5b.trans (hx6.mono (T := fun k => base ≤ k) fun b e => by
        rcases e with e | e
        · exact e ▸ hbp
        · exact (HTO.out.lt b e).1) fun b hb => .inl hb
      have hr4 : wr.heap.size ≤ w4.heap.size := hb4'.size
      obtain ⟨n4, hn4⟩ : ∃ k, w4.heap.size = k := ⟨_, rfl⟩
      rw [hn4] at hsz5 HLT4 hr4
      have hx6s := hx6.size
      rw [hsz5] at hx6s HBK6
      clear hcm hrow6 hto6 hbk6 hx6 hx5 hx5b hcs hb4' c14 f14 kc HAL c0 c1 hn4
      go_wp2_with (at_builtin; refine wpList_appM rfl _ _ _ _ rfl TU8 (OwnM.nil w6 w6.heap.size _ _) rfl hsr rfl (by omega) (Nat.le_refl _) ?_; intro v7 w7 hown7 hgr7 hat7; rw [Nat.zero_add, List.nil_append] at hown7; have hb7 := below_appM (Below.refl w6.heap.size w6) (OwnM.nil w6 w6.heap.size 5 1) hgr7 (Nat.le_refl _) (Nat.le_refl _); have HO7 := Lib.hid hown7; obtain ⟨A7, c7, rfl, hc7, _, _, _, hA7, hA7b⟩ := hown7.form; have HF7 := Lib.hid (show ∃ b, A7 = some ⟨b, 0, none⟩ from hA7b.resolve_left fun h => by have := hA7 h; omega); clear hown7 hgr7 hat7 hA7 hA7b)
      obtain ⟨g7, rfl⟩ := HF7.out
      have hP7 : PostAt w7 base p (cmd s line).2 [] kv := by
        have hnil : ∀ k, (Value.slice none 0 0).ownBlock = some k → False := fun k hk => by simp [Value.ownBlock] at hk
        have htv : tv6.ownBlock ≠ some p := fun e => by
          rcases HBK6.out with h | h | ⟨k, h, hk⟩
          · rw [h] at e; cases e
          · exact HTP.out (h ▸ e)
          · rw [h] at e
            have := Option.some.inj e
            omega
        refine ⟨_, tv6, HROW6.out.below hb7, ?_, HTO6.out.below hb7, hbp, ?_, htv, ?_⟩
        · split
          · exact OwnM.nil _ _ _ _
          · exact HOWN6.out.below hb7
        · intro e
          split at e
          · exact hnil _ e
          · have := (HLT4.out _ e).1
            omega
        · split
          · exact .inl rfl
          · rcases HBK6.out with h | h | ⟨k, h, hk⟩
            · cases h2 : (Value.slice A4 0 c4).ownBlock with
              | none => exact .inl rfl
              | some k => exact .inr (by rw [h]; simp)
            · cases h2 : (Value.slice A4 0 c4).ownBlock with
              | none => exact .inl rfl
              | some k =>
                refine .inr fun e => ?_
                rw [h] at e
                have h3 := (HTO.out.lt k e.symm).2
                have := (HLT4.out _ h2).1
                omega
            · cases h2 : (Value.slice A4 0 c4).ownBlock with
              | none => exact .inl rfl
              | some j =>
                refine .inr fun e => ?_
                rw [h] at e
                have h3 := Option.some.inj e
                have := (HLT4.out _ h2).2
                omega
      have hcl7 := closed_any w7 base p (cmd s line).2 [] kv hP7
      have HP7 := Lib.hid hP7
      clear hP7
      by_cases h5' : (cmd s line).2.st = 5
      · rw [decide_eq_true h5'] at hcl7
        refine hcl7.mono ?_
        rintro e w8 ⟨rfl, hw8⟩
        rw [hw8]
        clear hw8 w8
        clear hcl7
        go_wp2_with fail
        simp only [Exit.jump]
        go_ret
        exact ⟨⟨_, rfl, HO7.out.rebase (by omega)⟩, ⟨[], HP7.out, fun _ => rfl⟩, (hx6b.belowR hb7).below hBl hsz fun b hb => hb⟩
      · rw [decide_eq_false h5'] at hcl7
        refine hcl7.mono ?_
        rintro e w8 ⟨rfl, hw8⟩
        rw [hw8]
        clear hw8 w8
        clear hcl7
        go_wp2_with fail
        go_step3
        refine ⟨rfl, ⟨_, false, _, _, _, _, _, _, _, _, _, _, _, _, _, _, _, _, _, _, _, _, _, _, _, _, _, _, _, _, _, _, _, _, _, _, _, _, _, _, _, _, _, _, _, _, _, _, _, _, _, _, _, _, _, _, _, _, _, _, _, _, _, _, _, _, _, _, _, _, _, _, _, _, _, _, _, _, rfl, Lib.hid ?_, (hx6b.belowR hb7).below hBl hsz fun b hb => hb, ?_, hmx.ext (hx6b.belowR hb7)⟩, ?_⟩
        · rw [if_neg (by decide)]
          exact ⟨g7, c7, rfl, HO7.out.rebase (by omega), HP7.out⟩
        · have := hb7.size
          omega
        · exact Nat.zero_lt_one
    | false =>
      have h0 := hph.out
      rw [if_neg (by decide)] at h0
      obtain ⟨g4, k4, rfl, ho4, hP4⟩ := h0
      have HP4 := Lib.hid hP4
      have HO4 := Lib.hid ho4
      obtain ⟨lv1, tv1, hrow, hlo, _, _, _, _, _⟩ := hP4
      change OwnM wr base 5 1 lv1 0 [] at hlo
      obtain ⟨A1, k1, rfl, _, _, _, _, hA0, hAb⟩ := hlo.form
      have hpl : Pl A1 k1 := by
        rcases hAb with h | ⟨b, h⟩
        · exact .inl ⟨h, hA0 h⟩
        · exact .inr ⟨b, 0, h⟩
      have kc := fun (w : World) (C : Array Value) (n c : Nat) => Lib.run_convert_bytes_const (P := Tryz.prog) w 22 5 C n c Tryz.underlying22 Tryz.underlying5
      have e4 : (((cmd s line).2.st : Int) == 4) = false := by have := H4'.out; rw [beq_eq_false_iff_ne]; omega
      have c0 := hrow.cell (j := 0) rfl
      have c1 := hrow.cell (j := 1) rfl
      have hal : Below wr.heap.size wr (wr.alloc (.cells #[.int .u8 13, .int .u8 10] 5 (2, 3))) := (Below.refl _ _).alloc (Nat.le_refl _) _
      have hcutc := cutE_any A1 (some ⟨wr.heap.size, 0, none⟩) [] 0 k1 2 (wr.alloc (.cells #[.int .u8 13, .int .u8 10] 5 (2, 3))) (hmx.1.below hal) rfl (Rb.nil _ _) (Nat.zero_le _) hpl (show Rb _ _ [13, 10] from Rb_new wr [13, 10] _ _ rfl 2 (2, 3)) (by omega)
      have HAL := Lib.hid hal
      clear hrow hlo hA0 hAb hal ho4 hph
      go_wp2_with fail
      refine hcutc.mono ?_
      rintro e w3 ⟨ho, hd⟩
      obtain rfl : e = .returned (.tuple #[.slice A1 0 k1, .slice none 0 0, .bool false]) := ho
      have hb3 : Below wr.heap.size wr w3 := HAL.out.trans ((hd.below _).mono HAL.out.size)
      clear hcutc hd
      go_wp2_with fail
      simp only [Exit.jump]
      go_ret
      exact ⟨⟨_, rfl, HO4.out.below hb3⟩, ⟨[], HP4.out.below hb3, fun _ => rfl⟩, (Ext.of_below (fun k => base ≤ k) hb3).below hBl hsz fun b hb => hb⟩
  · intro hpass
    go_wp2_with fail
    refine hcl.mono ?_
    rintro e w1 ⟨rfl, hw1⟩
    rw [hw1]
    clear hw1 w1
    clear hcl
    go_wp2_with (at_builtin; refine wpList_appM rfl _ _ _ _ rfl TU8 HLO.out rfl (Src_rb Tryz.underlying22 HN.out hB) rfl (by simp; omega) hbase ?_; intro v2 w2 hown2 hgr2 hat2; rw [Nat.zero_add, List.nil_append] at hown2; have hr2 := (Ext.of_grown (S := fun k => (Value.slice Al 0 cl).ownBlock = some k) hgr2 (fun k e => e)).row HROW.out HLP.out; have hx2 := Ext.of_grown (S := fun k => (Value.slice Al 0 cl).ownBlock = some k) hgr2 (fun k e => e); have d1 := hr2.cell (j := 1) rfl; have f1 := hr2.frozen 1; have HO2 := Lib.hid hown2; have HA2 := Lib.hid hat2; obtain ⟨A2, c2, rfl, _, _, _, _, _, _⟩ := hown2.form; have HR2 := Lib.hid hr2; clear hown2 hr2 hat2)
    go_step3
    rename_i ha
    have hvp : ∀ k, (Value.slice A2 n c2).ownBlock = some k → ¬ k = p := fun k hk e => by
      rcases HA2.out with h | h
      · rw [hk, e] at h
        exact HLP.out h.symm
      · rw [hk] at h
        have h3 := HROW.out.lt
        have h4 := Option.some.inj h
        omega
    have htl2 : ∀ k, tv.ownBlock = some k → ¬ (Value.slice Al 0 cl).ownBlock = some k := fun k hk e => by
      rcases HLT.out with h | h
      · rw [h] at e; cases e
      · exact h (e.trans hk.symm)
    have hxw : Ext (fun k => base ≤ k) w w2 := hx2.mono fun b e => (HLO.out.lt b e).1
    refine ha _ _ (hpass _ _ ⟨.slice none 0 0, true, _, _, _, _, _, _, _, _, _, _, _, _, _, _, _, _, _, _, _, _, _, _, _, _, _, _, _, _, _, _, _, _, _, _, _, _, _, _, _, _, _, _, _, _, _, _, _, _, _, _, _, _, _, _, _, _, _, _, _, _, _, _, _, _, _, _, _, _, _, _, _, _, _, _, _, _, rfl, Lib.hid ?_, ?_, ?_, ?_⟩)
    · rw [if_pos rfl]
      refine ⟨rfl, _, tv, HR2.out.set 1 _, ?_, ?_, hbp, ?_, HTP.out, ?_⟩
      · exact ownM_eq (Ext.own ((Ext.refl (fun k => k = p) w2).set ⟨p, 1, none⟩ _ rfl) HO2.out hvp) HN.out.symm rfl
      · exact Ext.own ((Ext.refl (fun k => k = p) w2).set ⟨p, 1, none⟩ _ rfl) (hx2.own HTO.out htl2) (fun k hk e => HTP.out (e ▸ hk))
      · intro hk
        exact hvp _ hk rfl
      · rcases HA2.out with h | h
        · rw [h]
          exact HLT.out
        · refine .inr fun e => ?_
          rw [e] at h
          have := HTO.out.lt _ h
          omega
    · exact (hxw.set ⟨p, 1, none⟩ _ hbp).below (Below.refl _ _) hbase (fun b hb => hb)
    · have := hx2.size
      simp
      omega
    · exact hw.ext (hxw.set ⟨p, 1, none⟩ _ hbp)
end Go.Proofs.YtddjabjloplhiaaGreatDoor
