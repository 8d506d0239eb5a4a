/- The talk's Post: Feed of any bytes. -/
import Derived.Test.YtddjabjloplhiaaGreatDoorZT
import Derived.Test.YtddjabjloplhiaaGreatDoorY7
import Derived.Lib.SlBytesConst
namespace Go.Proofs.YtddjabjloplhiaaGreatDoor
set_option linter.unusedVariables false
set_option linter.unusedSimpArgs false
open Go.RowKit

/-- a Post between calls: where the talk stands, what has no end yet, the mails that were taken -/
def PostM (w : World) (base p : Nat) (s : Ps) (left : List UInt8) (ts : List Tm) (xv : Value) (xo : List UInt8) : Prop := ∃ lv tv kv, PG w base p s left ts [] lv tv kv (.slice none 0 0) xv xo
theorem PostM.below {w w' : World} {base p : Nat} {s : Ps} {left : List UInt8} {ts : List Tm} {xv : Value} {xo : List UInt8} (h : PostM w base p s left ts xv xo) (hb : Below w.heap.size w w') : PostM w' base p s left ts xv xo := by
  obtain ⟨lv, tv, kv, h⟩ := h
  exact ⟨lv, tv, kv, h.below hb⟩
theorem PG.post {w : World} {base p : Nat} {s : Ps} {left out : List UInt8} {ts : List Tm} {lv tv kv ov xv : Value} {xo : List UInt8} (h : PG w base p s left ts out lv tv kv ov xv xo) : PostM w base p s left ts xv xo :=
  ⟨lv, tv, kv, h.out' (Ext.refl _ _) (OwnM.nil _ _ _ _) fun k hk => (nb_nil hk).elim⟩
theorem cmd_tos (s : Ps) (line : List UInt8) (h : s.tos.length ≤ 10) : (cmd s line).2.tos.length ≤ 10 := by
  unfold cmd cmd2
  repeat' split
  all_goals (try simp; try omega)
/-- how much has no end yet -/
def leftLen (p : Nat) (w : World) : Nat := match w.cell? ⟨p, 1, none⟩ with
  | some v => slLen v
  | none => 0
theorem PG.leftLen {w : World} {base p : Nat} {s : Ps} {left out : List UInt8} {ts : List Tm} {lv tv kv ov xv : Value} {xo : List UInt8} (h : PG w base p s left ts out lv tv kv ov xv xo) : leftLen p w = left.length := by
  unfold Go.Proofs.YtddjabjloplhiaaGreatDoor.leftLen
  rw [h.row.cell (j := 1) rfl]
  obtain ⟨A, c, rfl, _⟩ := h.lo.form
  rfl
/-- so far it was fed -/
def FeedRel (base p : Nat) (s0 : Ps) (x0 : List UInt8) (ts0 : List Tm) (o4 xv : Value) (xo : List UInt8) (wr : World) : Prop := ∃ (s : Ps) (buf out : List UInt8) (ts : List Tm) (lv tv kv : Value), PG wr base p s buf (ts0 ++ ts) out lv tv kv o4 xv xo ∧ s.st ≠ 5 ∧ s.tos.length ≤ 10 ∧
  feed s0 x0 = (feed s buf).ahead out (ts.map (·.1)) ∧ out.length + 20 * buf.length ≤ 20 * x0.length ∧ ts.length + buf.length ≤ x0.length
/-- what Feed leaves -/
def FeedOut (base p : Nat) (s0 : Ps) (x0 : List UInt8) (ts0 : List Tm) (xv : Value) (xo : List UInt8) (e : Ending) (w' : World) : Prop := (∃ v, e = .returned v ∧ OwnM w' base 5 1 v (feed s0 x0).out.length ((feed s0 x0).out.map bv)) ∧ ∃ ts, PostM w' base p (feed s0 x0).s (feed s0 x0).left (ts0 ++ ts) xv xo ∧ ts.map (·.1) = (feed s0 x0).ms
theorem feedOut_of {base p : Nat} {s0 : Ps} {x0 : List UInt8} {ts0 ts : List Tm} {w : World} {s : Ps} {left out : List UInt8} {lv tv kv ov xv : Value} {xo : List UInt8} (h : PG w base p s left (ts0 ++ ts) out lv tv kv ov xv xo) (hf : feed s0 x0 = ⟨out, s, left, ts.map (·.1)⟩) : FeedOut base p s0 x0 ts0 xv xo (.returned ov) w := by
  unfold FeedOut
  rw [hf]
  exact ⟨⟨ov, rfl, h.oo⟩, ts, h.post, rfl⟩
theorem oneCell_slice {v : Value} {A : Option Addr} {n c : Nat} (h : v = .slice A n c) : v.oneCell' = true := by rw [h]; rfl
theorem OwnM.sl {w : World} {base e size : Nat} {v : Value} {n : Nat} {xs : List Value} (h : OwnM w base e size v n xs) : ∃ T a b, v = .slice T a b := by
  obtain ⟨A, c, rfl, _⟩ := h.form
  exact ⟨A, n, c, rfl⟩
theorem OwnM.one {w : World} {base e size : Nat} {v : Value} {n : Nat} {xs : List Value} (h : OwnM w base e size v n xs) : v.oneCell' = true := by
  obtain ⟨A, c, rfl, _⟩ := h.form
  rfl

set_option maxRecDepth 100000 in
set_option maxHeartbeats 8000000 in
theorem feed_any (p base : Nat) (s0 : Ps) (left0 x : List UInt8) (ts0 : List Tm) (xv : Value) (xo : List UInt8) (B : Option Addr) (n cb : Nat) (w : World) (hw : MxB w base) (hn : x.length = n) (hB : Rb w B x) (hsz0 : left0.length + n ≤ 100000)
    (h : PostM w base p s0 left0 ts0 xv xo) (hbase : base ≤ w.heap.size) (htl : s0.tos.length ≤ 10) (hts0 : ts0.length ≤ 100000) (h5 : s0.st ≠ 5) :
    Calls Tryz.prog 8 #[.pointer (some ⟨p, 0, none⟩), .slice B n cb] w fun e w' => FeedOut base p s0 (left0 ++ x) ts0 xv xo e w' ∧ Below base w w' := by
  subst hn
  obtain ⟨lv0, tv0, kv0, hPG0⟩ := h
  have HPG0 := Lib.hid hPG0
  obtain ⟨n, hn⟩ : ∃ n, x.length = n := ⟨_, rfl⟩
  have HN := Lib.hid hn
  have hcl := closed2_any w p s0.st lv0 _ tv0 _ kv0 hPG0.row
  rw [decide_eq_false h5] at hcl
  have c1 := hPG0.row.cell (j := 1) rfl
  have hlo := hPG0.lo
  obtain ⟨Al, cl, rfl, _, _, _, _, _, _⟩ := hlo.form
  have HLO := Lib.hid hlo
  have hx0 : (left0 ++ x).length ≤ 100000 := by simp; omega
  obtain ⟨x0, hx0e⟩ : ∃ x0, left0 ++ x = x0 := ⟨_, rfl⟩
  have HX0 := Lib.hid hx0e
  rw [hx0e] at hx0 ⊢
  have H5 := Lib.hid h5
  have HTL := Lib.hid htl
  rw [hn] at hsz0 ⊢
  obtain ⟨ln, hln⟩ : ∃ ln, left0.length = ln := ⟨_, rfl⟩
  have HLN := Lib.hid hln
  rw [hln] at hsz0 hlo c1 HLO
  clear hPG0 hlo hx0e h5 htl hn hln
  go_enter Tryz.func8, Tryz.ntmps8
  go_wp2_with fail
  refine wp_scope_jumps_one 0 (fun a' wr => ∃ (o4 : Value) (u2 u3 u5 u6 u7 u8 u9 u10 u11 u12 u13 u14 u15 u16 u17 u18 u19 u20 u21 u22 u23 u24 u25 u26 u27 u28 u29 u30 u31 u32 u33 u34 u35 u36 u37 u38 u39 u40 u41 u42 u43 u44 u45 u46 u47 u48 u49 u50 u51 u52 u53 u54 u55 u56 u57 u58 u59 u60 u61 u62 u63 u64 u65 u66 u67 u68 u69 u70 u71 u72 u73 u74 u75 u76 u77 u78 : Value), a' = { tmps := #[.pointer (some ⟨p, 0, none⟩), .slice B n cb, u2, u3, o4, u5, u6, u7, u8, u9, u10, u11, u12, u13, u14, u15, u16, u17, u18, u19, u20, u21, u22, u23, u24, u25, u26, u27, u28, u29, u30, u31, u32, u33, u34, u35, u36, u37, u38, u39, u40, u41, u42, u43, u44, u45, u46, u47, u48, u49, u50, u51, u52, u53, u54, u55, u56, u57, u58, u59, u60, u61, u62, u63, u64, u65, u66, u67, u68, u69, u70, u71, u72, u73, u74, u75, u76, u77, u78], defers := [] } ∧ Hid (FeedRel base p s0 x0 ts0 o4 xv xo wr) ∧ Below base w wr ∧ base ≤ wr.heap.size ∧ MxB wr base) (fun _ wr => leftLen p wr) rfl ?_ ?_
  · rintro a' wr ⟨o4, u2, u3, u5, u6, u7, u8, u9, u10, u11, u12, u13, u14, u15, u16, u17, u18, u19, u20, u21, u22, u23, u24, u25, u26, u27, u28, u29, u30, u31, u32, u33, u34, u35, u36, u37, u38, u39, u40, u41, u42, u43, u44, u45, u46, u47, u48, u49, u50, u51, u52, u53, u54, u55, u56, u57, u58, u59, u60, u61, u62, u63, u64, u65, u66, u67, u68, u69, u70, u71, u72, u73, u74, u75, u76, u77, u78, rfl, hph, hBl, hsz, hmx⟩
    clear hcl c1 HPG0 HLO hB
    obtain ⟨s, buf, out, ts, lv, tv, kv, hPG, h5, htl, hfeed, hob, htb⟩ := hph.out
    clear hph
    have HPG := Lib.hid hPG
    have HF := Lib.hid hfeed
    have hlen := hPG.leftLen
    obtain ⟨Ao, co, rfl, _, _, _, _, _, _⟩ := hPG.oo.form
    obtain ⟨A1, k1, rfl, hnk, hkm, hR, _, hA0, hAb⟩ := hPG.lo.form
    have hpl : Pl A1 k1 := by
      rcases hAb with h | ⟨b, h⟩
      · exact .inl ⟨h, hA0 h⟩
      · exact .inr ⟨b, 0, h⟩
    have c0 := hPG.row.cell (j := 0) rfl
    have c1 := hPG.row.cell (j := 1) rfl
    have hplt := hPG.row.lt
    have hbp := hPG.hp
    clear hPG hfeed hA0 hkm
    by_cases h4 : s.st = 4
    · have e4 : ((s.st : Int) == 4) = true := by rw [beq_iff_eq]; omega
      have hun := unstuff_any A1 buf buf.length k1 wr hmx.1 rfl hR hnk hpl (by omega)
      unfold UnstOut at hun
      have H4 := Lib.hid h4
      cases hu : unst buf with
      | none =>
        have hst : step s buf = none := by unfold step; rw [if_pos h4, hu]; rfl
        have HST := Lib.hid hst
        rw [hu] at hun
        clear hu hst h4 hR
        go_wp2_with fail
        refine hun.mono ?_
        rintro e w3 ⟨rfl, hb3⟩
        clear hun
        go_wp2_with fail
        simp only [Exit.jump]
        go_ret
        refine ⟨feedOut_of (HPG.out.below hb3) ?_, (Ext.of_below (fun k => base ≤ k) hb3).below hBl hsz fun b hb => hb⟩
        rw [HF.out, feed_none HST.out]
        simp [Fed.ahead]
      | some mr =>
        obtain ⟨m, r⟩ := mr
        have hst : step s buf = some (okayB ++ [13, 10], ⟨1, [], []⟩, r, [⟨s.frm, s.tos, m⟩]) := by unfold step; rw [if_pos h4, hu]; rfl
        have HST := Lib.hid hst
        have hul := unst_len _ (Nat.le_refl _) hu
        rw [hu] at hun
        clear hu hst h4 hR
        go_wp2_with fail
        refine hun.mono ?_
        rintro e w3 ⟨⟨v1, v2, rfl, ow1, ow2, hne⟩, hb3⟩
        clear hun
        have hPG3 := HPG.out.left' (w' := w3) (Ext.of_below _ hb3) ((OwnM.of ow2).rebase hsz) (fun k hk => .inr ((OwnM.of ow2).lt k hk).1)
        have f1 := (HPG.out.row.below hb3).frozen 1
        have d1 := (HPG.out.row.below hb3).cell (j := 1) rfl
        have HPG3 := Lib.hid hPG3
        have OW1 := Lib.hid ow1
        have OW2 := Lib.hid ow2
        have HNE := Lib.hid hne
        have hbs3 := hb3.size
        have hsz3 : (w3.setCell ⟨p, 1, none⟩ v2).heap.size = w3.heap.size := by simp
        have htk := fun M c (hMc : v1 = .slice M m.length c) => take_any p base s v2 tv kv v1 (ts0 ++ ts) M m.length c (w3.setCell ⟨p, 1, none⟩ v2) hPG3.row hPG3.ko (fun hk => hPG3.sep 3 0 _ _ (by omega) rfl rfl p hk (nb_pv.2 rfl)) (by omega) (by omega) (by simp; omega) hPG3.ro.sl
        have hmv : ∀ k, nb v1 k → ∀ v ∈ [pv p, v2, tv, kv, Value.slice Ao out.length co, xv], ¬ nb v k := fun k hk v hv hvk => by
          have h1 := ((OwnM.of ow1).lt k hk).1
          simp only [List.mem_cons, List.not_mem_nil, or_false] at hv
          rcases hv with rfl | rfl | rfl | rfl | rfl | rfl
          · have := HPG.out.lt _ (by simp) k hvk
            omega
          · exact hne k hk hvk
          · have := HPG.out.lt _ (by simp) k hvk
            omega
          · have := HPG.out.lt _ (by simp) k hvk
            omega
          · have := HPG.out.lt _ (by simp) k hvk
            omega
          · have := HPG.out.lt _ (by simp) k hvk
            omega
        have HMV := Lib.hid hmv
        obtain ⟨M1, cM, rfl, _, _, _, _⟩ := own_form ow1
        obtain ⟨A2, c2, rfl, _, _, _, _⟩ := own_form ow2
        have htk := htk M1 cM rfl
        have hx3 : Ext (fun k => base ≤ k) wr (w3.setCell ⟨p, 1, none⟩ (.slice A2 r.length c2)) := (Ext.of_below _ hb3).set ⟨p, 1, none⟩ _ hbp
        have HB3 := Lib.hid hb3
        clear hPG3 ow1 ow2 hne hmv hb3
        go_wp2_with fail
        refine htk.mono ?_
        rintro e w5 ⟨rfl, kv', hrow5, hk5, hv5, hx5⟩
        clear htk
        have hm4 : OwnM (w3.setCell ⟨p, 1, none⟩ (.slice A2 r.length c2)) base 5 1 (.slice M1 m.length cM) m.length (m.map bv) := Ext.own ((Ext.refl (fun k => k = p) w3).set ⟨p, 1, none⟩ _ rfl) ((OwnM.of OW1.out).rebase hsz) (fun k hk e => HMV.out k hk (pv p) (by simp) (nb_pv.2 e))
        have hPG5 := HPG3.out.take' hm4 HMV.out hrow5 hk5 hv5 hx5
        have hx5b : Ext (fun k => base ≤ k) wr w5 := hx3.trans (hx5.mono (T := fun k => base ≤ k) fun b e => by
          rcases e with e | e
          · exact e ▸ hbp
          · exact (HPG3.out.ko.lt b e).1) fun b hb => .inl hb
        have hs5 := hx5b.size
        have HPG5 := Lib.hid hPG5
        have hsr : Src Tryz.prog 1 9 (.string (bs okayB ++ ⟨#[13, 10]⟩)) 8 ((okayB ++ [13, 10]).map bv) w5 := by
          rw [show (⟨#[13, 10]⟩ : ByteArray) = bs [13, 10] from rfl, bs_add]
          exact Src_str (P := Tryz.prog) (w := w5) Tryz.underlying9 (okayB ++ [13, 10])
        have hoo5 := hPG5.oo
        clear hPG5 hrow5 hk5 hv5 hx5 hm4 HPG3 OW1 OW2 HMV hx3 f1 d1 c0 c1
        go_wp2_with (at_builtin; refine wpList_appM rfl _ _ _ _ rfl TU8 hoo5 rfl hsr rfl (by omega) (by omega) ?_; intro v7 w7 hown7 hgr7 hat7; have HO7 := Lib.hid hown7; have HG7 := Lib.hid hgr7; have HA7 := Lib.hid hat7; clear hown7 hgr7 hat7)
        go_step3
        have hPG7 := HPG5.out.out' (out' := out ++ (okayB ++ [13, 10])) (Ext.of_grown HG7.out fun k e => e) (by rw [List.length_append, List.map_append]; exact HO7.out) (fun k hk => by
          unfold nb at hk ⊢
          rcases HA7.out with h | h
          · rw [h] at hk; exact .inl hk
          · rw [h] at hk; cases hk; exact .inr (Nat.le_refl _))
        have hx7 : Ext (fun k => base ≤ k) wr w7 := hx5b.trans (Ext.of_grown (S := fun k => base ≤ k) HG7.out fun k e => (HPG5.out.oo.lt k e).1) fun b hb => .inl hb
        have hs7 := hx7.size
        refine ⟨rfl, ⟨_, _, _, _, _, _, _, _, _, _, _, _, _, _, _, _, _, _, _, _, _, _, _, _, _, _, _, _, _, _, _, _, _, _, _, _, _, _, _, _, _, _, _, _, _, _, _, _, _, _, _, _, _, _, _, _, _, _, _, _, _, _, _, _, _, _, _, _, _, _, _, _, _, _, _, _, _, rfl, Lib.hid ⟨⟨1, [], []⟩, r, out ++ (okayB ++ [13, 10]), ts ++ [(⟨s.frm, s.tos, m⟩, tv, .slice M1 m.length cM)], _, _, _, by rw [← List.append_assoc]; exact hPG7, by decide, by decide, ?_, ?_, ?_⟩, hx7.below hBl hsz fun b hb => hb, by omega, hmx.ext hx7⟩, ?_⟩
        · rw [HF.out, feed_some h5 HST.out]
          simp [Fed.ahead]
        · simp only [List.length_append, List.length_cons, List.length_nil]
          have : okayB.length = 6 := rfl
          omega
        · simp only [List.length_append, List.length_cons, List.length_nil]
          omega
        · rw [hPG7.leftLen, hlen]
          omega
    · have e4 : ((s.st : Int) == 4) = false := by rw [beq_eq_false_iff_ne]; omega
      have kc := fun (w : World) (C : Array Value) (n c : Nat) => Lib.run_convert_bytes_const (P := Tryz.prog) w 22 5 C n c Tryz.underlying22 Tryz.underlying5
      have hal : Below wr.heap.size wr (wr.alloc (.cells #[.int .u8 13, .int .u8 10] 5 (2, 3))) := (Below.refl _ _).alloc (Nat.le_refl _) _
      have hcutc := cutE_any A1 (some ⟨wr.heap.size, 0, none⟩) buf buf.length k1 2 (wr.alloc (.cells #[.int .u8 13, .int .u8 10] 5 (2, 3))) (hmx.1.below hal) rfl (Rb.below (show Rb wr _ _ from hR) hal) hnk hpl (show Rb _ _ [13, 10] from Rb_new wr [13, 10] _ _ rfl 2 (2, 3)) (by omega)
      unfold CutEOut at hcutc
      have HAL := Lib.hid hal
      cases hcut : cutE buf with
      | none =>
        have hst : step s buf = none := by unfold step; rw [if_neg h4, hcut]; rfl
        have HST := Lib.hid hst
        rw [hcut] at hcutc
        clear hcut hst h4 hR hal
        go_wp2_with fail
        refine hcutc.mono ?_
        rintro e w3 ⟨rfl, hd⟩
        have hb3 : Below wr.heap.size wr w3 := HAL.out.trans ((hd.below _).mono HAL.out.size)
        clear hcutc hd
        go_wp2_with fail
        simp only [Exit.jump]
        go_ret
        refine ⟨feedOut_of (HPG.out.below hb3) ?_, (Ext.of_below (fun k => base ≤ k) hb3).below hBl hsz fun b hb => hb⟩
        rw [HF.out, feed_none HST.out]
        simp [Fed.ahead]
      | some lr =>
        obtain ⟨line, r⟩ := lr
        have hst : step s buf = some ((cmd s line).1 ++ [13, 10], (cmd s line).2, if (cmd s line).2.st = 5 then [] else r, []) := by unfold step; rw [if_neg h4, hcut]; rfl
        have HST := Lib.hid hst
        have hcl := cutE_len hcut
        rw [hcut] at hcutc
        obtain ⟨b1, o1, hA1, _⟩ := hR (by simp; omega)
        obtain rfl : A1 = some ⟨b1, 0, none⟩ := by
          rcases hAb with h | ⟨b, h⟩
          · rw [h] at hA1; cases hA1
          · rw [h] at hA1 ⊢; cases hA1; rfl
        have hb1p : b1 ≠ p := fun e => HPG.out.sep 1 0 _ _ (by omega) rfl rfl b1 (by simp [nb, Value.ownBlock]) (nb_pv.2 e)
        clear hcut hst h4 hR hal hAb hA1
        go_wp2_with fail
        refine hcutc.mono ?_
        rintro e w3 ⟨⟨B2, d2, rfl, hRa, hRb, hbd, hpl2, hac⟩, hd⟩
        have hb3 : Below wr.heap.size wr w3 := HAL.out.trans ((hd.below _).mono HAL.out.size)
        clear hcutc hd
        have hclc := clone_any B2 r r.length d2 w3 rfl hRb hbd hpl2 (by omega)
        go_wp2_with fail
        refine hclc.mono ?_
        rintro e w4 ⟨⟨v4, rfl, hv4⟩, hb4⟩
        have hb4' : Below wr.heap.size wr w4 := hb3.trans (hb4.mono hb3.size)
        have hPG5 := HPG.out.left' (w' := w4) (Ext.of_below _ hb4') (OwnM.rebase (OwnM.of hv4) (by have := hb3.size; omega)) (fun k hk => .inr (by have := ((OwnM.of hv4).lt k hk).1; have := hb3.size; omega))
        obtain ⟨A4, c4, rfl, _, _, _, _⟩ := own_form hv4
        have f14 := (HPG.out.row.below hb4').frozen 1
        have c14 := (HPG.out.row.below hb4').cell (j := 1) rfl
        have hRa4 : Rb (w4.setCell ⟨p, 1, none⟩ (.slice A4 r.length c4)) (some ⟨b1, 0, none⟩) line := (hRa.below hb4).setFar (by simpa using Ne.symm hb1p) _
        have hcs := conv_str (P := Tryz.prog) (src := 22) (dst := 9) (e := 5) (c := k1) (n := line.length) Tryz.underlying22 Tryz.underlying5 Tryz.underlying9 hRa4 rfl
        have hx5 : Ext (fun k => base ≤ k) wr (w4.setCell ⟨p, 1, none⟩ (.slice A4 r.length c4)) := (Ext.of_below _ hb4').set ⟨p, 1, none⟩ _ hbp
        have hs5 := hx5.size
        have hcm := command_any p base s line (.slice A4 r.length c4) tv kv (w4.setCell ⟨p, 1, none⟩ (.slice A4 r.length c4)) (hmx.ext hx5).1 (by omega) hPG5.row hPG5.ro (fun e => hPG5.sep 2 0 _ _ (by omega) rfl rfl p e (nb_pv.2 rfl)) (by omega) (by omega) h5
        have HPG5 := Lib.hid hPG5
        have hal2 := answer_len s line
        have htos := cmd_tos s line htl
        clear hclc hv4 hb4 hRa hRb hbd hpl2 hac hb3 hRa4 hPG5 hb4'
        go_wp2_with fail
        refine hcm.mono ?_
        rintro e w6 ⟨hcm6, hx6⟩
        have he6 := hcm6.1
        subst he6
        obtain ⟨lv6, tv6, hPG6⟩ := HPG5.out.cmd' (a := (cmd s line).1) (s' := (cmd s line).2) hcm6 hx6
        have hx6b : Ext (fun k => base ≤ k) wr w6 := hx5.trans (hx6.mono (T := fun k => base ≤ k) fun b e => by
          rcases e with e | e
          · exact e ▸ hbp
          · exact (HPG5.out.ro.lt b e).1) fun b hb => .inl hb
        have hs6 := hx6b.size
        have hsr : Src Tryz.prog 1 9 (.string (bs (cmd s line).1 ++ ⟨#[13, 10]⟩)) ((cmd s line).1.length + 2) (((cmd s line).1 ++ [13, 10]).map bv) w6 := by
          rw [show (⟨#[13, 10]⟩ : ByteArray) = bs [13, 10] from rfl, bs_add]
          have := Src_str (P := Tryz.prog) (w := w6) Tryz.underlying9 ((cmd s line).1 ++ [13, 10])
          rwa [List.length_append] at this
        have hoo6 := hPG6.oo
        have HPG6 := Lib.hid hPG6
        clear hcm hcm6 hx6 hx5 hcs c14 f14 kc HAL c0 c1 HPG5 hPG6 hs5
        go_wp2_with (at_builtin; refine wpList_appM rfl _ _ _ _ rfl TU8 hoo6 rfl hsr rfl (by omega) (by omega) ?_; intro v7 w7 hown7 hgr7 hat7; have HO7 := Lib.hid hown7; have HG7 := Lib.hid hgr7; have HA7 := Lib.hid hat7; clear hown7 hgr7 hat7)
        have hPG7 := HPG6.out.out' (out' := out ++ ((cmd s line).1 ++ [13, 10])) (Ext.of_grown HG7.out fun k e => e) (by rw [List.length_append, List.map_append, List.length_append]; exact HO7.out) (fun k hk => by
          unfold nb at hk ⊢
          rcases HA7.out with h | h
          · rw [h] at hk; exact .inl hk
          · rw [h] at hk; cases hk; exact .inr (Nat.le_refl _))
        have hx7 : Ext (fun k => base ≤ k) wr w7 := hx6b.trans (Ext.of_grown (S := fun k => base ≤ k) HG7.out fun k e => (HPG6.out.oo.lt k e).1) fun b hb => .inl hb
        have hs7 := hx7.size
        have hcl7 := closed2_any w7 p (cmd s line).2.st lv6 _ tv6 _ kv hPG7.row
        have HP7 := Lib.hid hPG7
        clear hPG7 HPG6 HG7 HA7 hx6b hsr hoo6
        by_cases h5' : (cmd s line).2.st = 5
        · rw [decide_eq_true h5'] at hcl7
          refine hcl7.mono ?_
          rintro e w8 ⟨rfl, hw8⟩
          rw [hw8]
          clear hw8 w8
          clear hcl7
          go_wp2_with fail
          simp only [Exit.jump]
          go_ret
          refine ⟨feedOut_of HP7.out ?_, hx7.below hBl hsz fun b hb => hb⟩
          rw [HF.out, feed_some h5 HST.out, feed_closed _ h5']
          simp [Fed.ahead]
        · rw [decide_eq_false h5'] at hcl7
          refine hcl7.mono ?_
          rintro e w8 ⟨rfl, hw8⟩
          rw [hw8]
          clear hw8 w8
          clear hcl7
          go_wp2_with fail
          go_step3
          refine ⟨rfl, ⟨_, _, _, _, _, _, _, _, _, _, _, _, _, _, _, _, _, _, _, _, _, _, _, _, _, _, _, _, _, _, _, _, _, _, _, _, _, _, _, _, _, _, _, _, _, _, _, _, _, _, _, _, _, _, _, _, _, _, _, _, _, _, _, _, _, _, _, _, _, _, _, _, _, _, _, _, _, rfl, Lib.hid ⟨_, _, _, ts, _, _, _, HP7.out, h5', htos, ?_, ?_, ?_⟩, hx7.below hBl hsz fun b hb => hb, by omega, hmx.ext hx7⟩, ?_⟩
          · rw [HF.out, feed_some h5 HST.out]
            simp [Fed.ahead]
          · rw [if_neg h5']
            simp only [List.length_append, List.length_cons, List.length_nil]
            omega
          · rw [if_neg h5']
            omega
          · rw [HP7.out.leftLen, hlen, if_neg h5']
            omega
  · intro hpass
    go_wp2_with fail
    refine hcl.mono ?_
    rintro e w1 ⟨rfl, hw1⟩
    rw [hw1]
    clear hw1 w1
    clear hcl
    go_wp2_with (at_builtin; refine wpList_appM rfl _ _ _ _ rfl TU8 HLO.out rfl (Src_rb Tryz.underlying22 HN.out hB) rfl (by omega) hbase ?_; intro v2 w2 hown2 hgr2 hat2; have hx2 := Ext.of_grown (S := fun k => nb (.slice Al ln cl) k) hgr2 (fun k e => e); have hr2 := hx2.row HPG0.out.row (fun e => HPG0.out.sep 1 0 _ _ (by omega) rfl rfl p (by rw [HLN.out]; exact e) (nb_pv.2 rfl)); have d1 := hr2.cell (j := 1) rfl; have f1 := hr2.frozen 1; have HO2 := Lib.hid hown2; have HA2 := Lib.hid hat2; have HG2 := Lib.hid hgr2; obtain ⟨A2, c2, rfl, _, _, _, _, _, _⟩ := hown2.form; clear hown2 hr2 hat2 hgr2)
    go_step3
    rename_i ha
    have hPG2 := HPG0.out.left' (w' := w2) (left' := x0) (by rw [HLN.out]; exact hx2) (ownM_eq HO2.out (by rw [← HX0.out, List.length_append, HLN.out, HN.out]) (by rw [← HX0.out, List.map_append])) (fun k hk => by
      unfold nb at hk ⊢
      rcases HA2.out with h | h
      · rw [h] at hk; rw [HLN.out]; exact .inl hk
      · rw [h] at hk; cases hk; exact .inr (Nat.le_refl _))
    have hxw : Ext (fun k => base ≤ k) w (w2.setCell ⟨p, 1, none⟩ (.slice A2 (ln + n) c2)) := (hx2.mono (T := fun k => base ≤ k) fun b e => (HLO.out.lt b e).1).set ⟨p, 1, none⟩ _ HPG0.out.hp
    have hsw := hxw.size
    refine ha _ _ (hpass _ _ ⟨.slice none 0 0, _, _, _, _, _, _, _, _, _, _, _, _, _, _, _, _, _, _, _, _, _, _, _, _, _, _, _, _, _, _, _, _, _, _, _, _, _, _, _, _, _, _, _, _, _, _, _, _, _, _, _, _, _, _, _, _, _, _, _, _, _, _, _, _, _, _, _, _, _, _, _, _, _, _, _, _, rfl, Lib.hid ⟨s0, x0, [], [], _, _, _, by rw [List.append_nil]; exact hPG2, H5.out, HTL.out, by simp [Fed.ahead], by simp, by simp⟩, hxw.below (Below.refl _ _) hbase (fun b hb => hb), by omega, hw.ext hxw⟩)

set_option maxHeartbeats 400000 in
theorem feedClosed_any (p base : Nat) (s0 : Ps) (left0 : List UInt8) (ts0 : List Tm) (xv : Value) (xo : List UInt8) (bv0 : Value) (w : World) (h : PostM w base p s0 left0 ts0 xv xo) (h5 : s0.st = 5) :
    Calls Tryz.prog 8 #[.pointer (some ⟨p, 0, none⟩), bv0] w fun e w' => e = .returned (.slice none 0 0) ∧ w' = w := by
  obtain ⟨lv0, tv0, kv0, hPG0⟩ := h
  have hcl := closed2_any w p s0.st lv0 _ tv0 _ kv0 hPG0.row
  rw [decide_eq_true h5] at hcl
  clear hPG0
  go_enter Tryz.func8, Tryz.ntmps8
  go_wp2_with fail
  refine wp_scope_jumps_one 0 (fun _ _ => False) (fun _ _ => 0) rfl (fun _ _ h => h.elim) ?_
  intro hpass
  go_wp2_with fail
  refine hcl.mono ?_
  rintro e w1 ⟨rfl, rfl⟩
  clear hcl
  go_wp2_with fail
  try simp only [Exit.jump]
  go_ret
  exact ⟨rfl, rfl⟩
end Go.Proofs.YtddjabjloplhiaaGreatDoor
