/- The document's Run: the walk. -/
import Derived.Test.YtddjabjloplhiaaGreatDoorZR
import Derived.Test.YtddjabjloplhiaaGreatDoorZ4
import Derived.Deep.RegionHeldLaw
namespace Go.Proofs.YtddjabjloplhiaaGreatDoor
set_option linter.unusedVariables false
set_option linter.unusedSimpArgs false
open Go.RowKit

set_option maxRecDepth 100000 in
set_option maxHeartbeats 8000000 in
theorem run_any (A : Option Addr) (b : List UInt8) (n c : Nat) (w : World) (hn : b.length = n) (hA : Rb w A b) (hnc : n ≤ c) (hb : n ≤ 20000) :
    Calls Tryz.prog 6 #[.slice A n c] w fun e w' => RunOut b w e w' ∧ Below w.heap.size w w' := by
  subst hn
  have hI0 : b ≠ [] → InB A w.heap.size := fun h => hA.inB h
  go_enter Tryz.func6, Tryz.ntmps6
  go_wp2_with fail
  have hB1 : Below w.heap.size w (w.alloc (.cells #[.int .i64 0, .string ⟨#[]⟩, .slice none 0 0, .string ⟨#[]⟩, .slice none 0 0, .bool false] 33)) := (Below.refl _ _).alloc (Nat.le_refl _) _
  have hR1 : Row (w.alloc (.cells #[.int .i64 0, .string ⟨#[]⟩, .slice none 0 0, .string ⟨#[]⟩, .slice none 0 0, .bool false] 33)) w.heap.size 33 [.int .i64 0, .string ⟨#[]⟩, .slice none 0 0, .string ⟨#[]⟩, .slice none 0 0, .bool false] := Row.new w _ _
  refine (anew_any w.heap.size w.heap.size 0 _ _ _ _ _ _ _ hB1.size hR1).mono ?_
  rintro e w1 ⟨rfl, tv1, hr1, ho1, hv1, hx1⟩
  have hBx : Below w.heap.size w w1 := hx1.below hB1 hB1.size fun k hk => by rw [hk]; exact Nat.le_refl _
  have hRG1 : RG w1 w.heap.size w.heap.size ⟨0, [], []⟩ [] [] tv1 (.slice none 0 0) false (if b = [] then .slice none 0 0 else .slice A b.length c) b A := by
    have hlt : w.heap.size < (w.alloc (.cells #[.int .i64 0, .string ⟨#[]⟩, .slice none 0 0, .string ⟨#[]⟩, .slice none 0 0, .bool false] 33)).heap.size := by simp
    have hu : ∀ k, nb (if b = [] then .slice none 0 0 else .slice A b.length c) k → k < w.heap.size := fun k hk => by
      split at hk
      · exact (nb_nil hk).elim
      · rename_i hne
        cases A with
        | none => exact (nb_nil hk).elim
        | some a =>
          have h1 := hI0 hne a rfl
          have h2 : a.block = k := Option.some.inj hk
          omega
    refine ⟨hr1, ho1, OwnM.nil _ _ _ _, Nat.le_refl _, ?_, fun x hx => by simp at hx, fun k hk => Nat.lt_of_lt_of_le (hu k hk) hBx.size, hA.below hBx, fun hne a ha => ?_⟩
    · intro i j x y hij hx hy k h1 h2
      have hvv : ∀ k, nb tv1 k → w.heap.size + 1 ≤ k := fun k hk => by
        have := hv1 k hk
        simp at this
        omega
      rcases i with _ | _ | _ | _ | i <;> rcases j with _ | _ | _ | _ | j <;> simp at hx hy hij
      all_goals (first | omega | skip)
      all_goals subst hx
      all_goals subst hy
      all_goals first
        | exact nb_nil h1
        | exact nb_nil h2
        | (rw [nb_pv] at h1; have := hvv _ h2; omega)
        | (rw [nb_pv] at h2; have := hvv _ h1; omega)
        | (rw [nb_pv] at h1; have := hu _ h2; omega)
        | (rw [nb_pv] at h2; have := hu _ h1; omega)
        | (have := hvv _ h1; have := hu _ h2; omega)
        | (have := hvv _ h2; have := hu _ h1; omega)
    · rw [if_neg hne, ha]
      rfl
  have HRG1 := Lib.hid hRG1
  clear hRG1 hr1 ho1 hv1 hx1 hR1 hB1 hI0 hA
  go_wp2_with fail
  go_loopw [0] (fun bl wr => ∃ (buf : List UInt8) (B : Option Addr) (d : Nat), bl = .slice B buf.length d ∧ buf.length ≤ d ∧ buf.length ≤ b.length ∧ Hid (RunRel b w.heap.size w.heap.size buf B wr) ∧ Below w.heap.size w wr) (fun bl _ => slLen bl)
  case atStart => exact ⟨b, A, c, rfl, hnc, Nat.le_refl _, Lib.hid ⟨⟨0, [], []⟩, [], [], tv1, _, _, false, HRG1.out, by decide, by decide, by simp [Fed.ahead], by simp, by simp⟩, hBx⟩
  case round =>
    clear HRG1 hBx
    obtain ⟨buf, B, d, rfl, hbd, hbl, hrel2, hBl⟩ := hrel
    obtain ⟨s, out, ts, tv, mv, u, cl, hRG, hst, htl, hfeed, hob, htb⟩ := hrel2.out
    clear hrel2
    have hs := hBl.size
    have c5 := hRG.row.cell (j := 5) rfl
    have HRG := Lib.hid hRG
    have hbR := hRG.hb
    have HF := Lib.hid hfeed
    clear hRG hfeed
    cases cl with
    | true =>
      have hf := HF.out
      rw [if_pos rfl] at hf
      have HF2 := Lib.hid hf
      clear hf
      go_wp2_with fail
      go_ret
      exact ⟨runOut_of HRG.out (by rw [HF2.out]) (by rw [HF2.out]) (by rw [HF2.out]; rfl), hBl⟩
    | false =>
      have hf := HF.out
      rw [if_neg (by decide)] at hf
      have HF2 := Lib.hid hf
      clear hf HF
      obtain ⟨wo, rfl⟩ : ∃ wo : World, wo = wr := ⟨_, rfl⟩
      go_wp2_with fail
      go_loopw [4] (fun i wr => ∃ q : Nat, i = .int .i64 q ∧ q ≤ buf.length ∧ Hid (ScAt buf q) ∧ wr = wo) (fun i _ => buf.length - (intOf i).toNat)
      case atStart => exact ⟨0, rfl, by omega, Lib.hid (ScAt.start buf), rfl⟩
      case round =>
        obtain ⟨q, rfl, hq, hsc, hwr⟩ := hrel
        subst hwr
        have hbw : Below wr.heap.size wr wr := Below.refl _ _
        by_cases hlt : q < buf.length
        · obtain ⟨b0, o0, x, rfl, hx, cx⟩ := hbR.one hlt
          have t13 : ((x.toNat : Int) == 13) = (x == 13) := u8_test x 13 rfl
          by_cases hit : x = 13 ∧ buf[q + 1]? = some 10
          · obtain ⟨h13, h10⟩ := hit
            have hq1 := lt_of_get h10
            have hcut := hsc.out.hit (by rw [hx.out, h13]) h10
            have hb13 : ((x.toNat : Int) == 13) = true := by rw [t13, h13]; rfl
            have hlq : (q : Int) + 1 < (buf.length : Int) := by omega
            obtain ⟨b1, o1, x1, e1, hx1, cx1⟩ := hbR.one (k := q + 1) hq1
            cases e1
            have hx10 : x1 = 10 := by have := hx1.out; rw [h10] at this; exact (Option.some.inj this).symm
            subst hx10
            have hne : ((q : Int) == (buf.length : Int)) = false := by rw [beq_eq_false_iff_ne]; omega
            have hto := fun W => slice_to (P := Tryz.prog) (t := 22) (e := 5) (s := 1) Tryz.underlying22 (fun w => Tryz.sizeOf5 w) (some ⟨b0, o0, none⟩) buf.length d q (by omega) .i64 W
            have hcs := conv_str (P := Tryz.prog) (src := 22) (dst := 9) (e := 5) (c := d) (n := q) Tryz.underlying22 Tryz.underlying5 Tryz.underlying9 (hbR.take q) (by simp; omega)
            obtain ⟨A', hsl, hrd, hA1, hA2, hA3⟩ := slice_from (P := Tryz.prog) (t := 22) (e := 5) (s := 1) Tryz.underlying22 (fun w => Tryz.sizeOf5 w) (some ⟨b0, o0, none⟩) buf.length d (q + 2) (by omega) (by omega)
            have hsl1 : ∀ W, (Instr.slice 22 (.slice (some ⟨b0, o0, none⟩) buf.length d) (some (.int .i64 ((q : Int) + 2))) none none).run Tryz.prog W = .ok (.slice A' (buf.length - (q + 2)) (d - (q + 2))) W := fun W => by
              have := hsl .i64 W
              rwa [show (((q + 2 : Nat)) : Int) = (q : Int) + 2 by omega] at this
            have hRr : Rb wr A' (buf.drop (q + 2)) := by
              have := hrd wr (buf.map bv) (by simp) hbR
              show Rv wr A' ((buf.drop (q + 2)).map bv)
              simpa using this
            obtain ⟨line, hline⟩ : ∃ l, buf.take q = l := ⟨_, rfl⟩
            obtain ⟨r, hr⟩ : ∃ r, buf.drop (q + 2) = r := ⟨_, rfl⟩
            have hll : line.length ≤ q := by rw [← hline]; simp; omega
            have hrl : r.length = buf.length - (q + 2) := by rw [← hr]; simp
            rw [hline] at hcs
            rw [hr] at hRr
            rw [hline, hr] at hcut
            have hrc := rcommand_any w.heap.size w.heap.size s line out tv mv wr (by omega) (by omega) HRG.out.row HRG.out.ro (fun hk => HRG.out.sep 1 0 _ _ (by omega) rfl rfl _ hk (nb_pv.2 rfl)) hs htl hst
            have hRGr := HRG.out.next (u' := u) (buf' := r) (B' := A') HRG.out.lt (fun k hk => .inl hk) HRG.out.ult hRr (fun hne2 a ha => by
              obtain ⟨o', e⟩ := hA2 _ _ rfl
              rw [e] at ha
              cases ha
              exact (HRG.out.hu (fun e2 => by rw [e2] at hlt; simp at hlt) ⟨b0, o0, none⟩ rfl : nb u b0))
            have HRGR := Lib.hid hRGr
            have HCUT := Lib.hid hcut
            have HRL := Lib.hid hrl
            have hn1 : ((q : Int) + 2) ≤ (buf.length : Int) := by omega
            have hrl2 : r.length + q + 2 ≤ buf.length := by omega
            clear hsl hrd hA1 hA2 hA3 hRGr hcut hrl hline hr hRr hx hx1 t13 h13 h10 hsc
            go_wp2_with fail
            refine hrc.mono ?_
            rintro e w2 ho
            obtain ⟨he, s2, tv2, hRG2, hs2, hs2', hx2⟩ := HRGR.out.cmd' ho
            subst he
            have hx2b : Ext (fun k => w.heap.size ≤ k) wr w2 := hx2.mono fun k hk => by
              rcases hk with hk | hk
              · rw [hk]; exact Nat.le_refl _
              · exact (HRG.out.ro.lt k hk).1
            have hB2 : Below w.heap.size w w2 := hx2b.below hBl hs fun _ h => h
            have hal := answer_len s line
            have hstep : step s buf = some ((cmd s line).1 ++ [13, 10], (cmd s line).2, if (cmd s line).2.st = 5 then [] else r, []) := by
              unfold step
              rw [if_neg (by omega), HCUT.out]
              rfl
            have hfe := HF2.out
            rw [feed_some (by omega) hstep] at hfe
            have hle := cmd_le s line hst
            have htos := cmd_tos s line htl
            have HRG2 := Lib.hid hRG2
            clear hrc ho hRG2 hstep hcs hsl1
            by_cases h4 : (cmd s line).2.st = 4
            · rw [decide_eq_true h4]
              have hcf := cmd_four hst h4
              have h1 := HRG2.out
              rw [decide_eq_false (by omega : ¬ (cmd s line).2.st = 5)] at h1
              have h2 := hs2' (by omega)
              subst h2
              rw [if_neg (by omega), hcf] at hfe
              have HRGA := Lib.hid h1
              have hru := runstuff_any A' r (buf.length - (q + 2)) (d - (q + 2)) w2 HRL.out h1.hb (by omega) (by omega)
              unfold RUnOut at hru
              have hs2z := hB2.size
              clear h1 HRG2 hs2 hs2' hcf HRGR c5 cx cx1
              cases hun : unst r with
              | none =>
                have hst4 : step ⟨4, s2.frm, s2.tos⟩ r = none := by unfold step; rw [if_pos rfl, hun]; rfl
                rw [feed_none hst4] at hfe
                have HFE := Lib.hid hfe
                rw [hun] at hru
                clear hun hst4 hfe
                go_wp2_with fail
                refine hru.mono ?_
                rintro e w3 ⟨rfl, hb3⟩
                clear hru
                go_wp2_with fail
                go_ret
                exact ⟨runOut_of (HRGA.out.below hb3) (by rw [HFE.out]; simp [Fed.ahead]) (by rw [HFE.out]; simp [Fed.ahead]) (by rw [HFE.out]; simp [Fed.ahead]), hB2.trans (hb3.mono hs2z)⟩
              | some mr =>
                obtain ⟨m, r2⟩ := mr
                have hst4 : step ⟨4, s2.frm, s2.tos⟩ r = some (okayB ++ [13, 10], ⟨1, [], []⟩, r2, [⟨s2.frm, s2.tos, m⟩]) := by unfold step; rw [if_pos rfl, hun]; rfl
                rw [feed_some (show (4 : Nat) ≠ 5 by decide) hst4] at hfe
                have hul := unst_len _ (Nat.le_refl _) hun
                have HFE := Lib.hid hfe
                rw [hun] at hru
                clear hun hst4 hfe
                go_wp2_with fail
                refine hru.mono ?_
                rintro e w3 ⟨⟨v1, v2, rfl, ow1, ow2⟩, hb3⟩
                clear hru
                obtain ⟨M, cM, rfl, _, _, _, _, _, _⟩ := ow1.form
                obtain ⟨A2, c2, rfl, hc2, _, hR2, _, _, hA2f⟩ := ow2.form
                have hbs3 := hb3.size
                have hB3 := hB2.trans (hb3.mono hs2z)
                have hRG3 := (HRGA.out.below hb3).next (u' := .slice A2 r2.length c2) (buf' := r2) (B' := A2) (N := w2.heap.size) HRGA.out.lt (fun k hk => .inr (ow2.lt k hk).1) (fun k hk => (ow2.lt k hk).2) hR2 (fun _ a ha => by rw [ha]; rfl)
                have hmnn : ¬ (2097152 : Int) < (m.length : Int) := by omega
                have hxv : ∀ k, nb (.slice M m.length cM) k → ∀ v ∈ [pv w.heap.size, tv2, mv], ¬ nb v k := fun k hk v hv hvk => by
                  have h1 := (ow1.lt k hk).1
                  have h2 := HRGA.out.lt v (by simp only [List.mem_cons, List.not_mem_nil, or_false] at hv; rcases hv with rfl | rfl | rfl <;> simp) k hvk
                  omega
                have hom := ow1.rebase hs2z
                obtain ⟨At, ct, htv, _, _, _, _, _, _⟩ := hRG3.ro.form
                obtain ⟨Ak, ck, hmvv, _, _, _, _, _, _⟩ := hRG3.mo.form
                subst htv
                subst hmvv
                have HXV := Lib.hid hxv
                have HOM := Lib.hid hom
                have HRG3 := Lib.hid hRG3
                have c1 := hRG3.row.cell (j := 1) rfl
                have c2' := hRG3.row.cell (j := 2) rfl
                have c4 := hRG3.row.cell (j := 4) rfl
                have hrA := hRG3.row.alloc (.cells #[.string (bs s2.frm), .slice At s2.tos.length ct, .slice M m.length cM] 38)
                have c4a := hrA.cell (j := 4) rfl
                have c1a := hrA.cell (j := 1) rfl
                have c2a := hrA.cell (j := 2) rfl
                have HOWN := Lib.hid (show OwnM (w3.alloc (.cells #[.string (bs s2.frm), .slice At s2.tos.length ct, .slice M m.length cM] 38)).drew w.heap.size 38 3 (.slice Ak ts.length ck) ts.length (pcs ts) from hRG3.mo.alloc _)
                have HSRC := Lib.hid (show Src Tryz.prog 3 31 (.slice (some ⟨w3.heap.size, 0, none⟩) 1 1) 1 [.string (bs s2.frm), .slice At s2.tos.length ct, .slice M m.length cM] (w3.alloc (.cells #[.string (bs s2.frm), .slice At s2.tos.length ct, .slice M m.length cM] 38)).drew from Src_rv (news := [.string (bs s2.frm), .slice At s2.tos.length ct, .slice M m.length cM]) Tryz.underlying31 rfl (Rv_new w3 _ _ _ rfl) (by simp [Value.oneCell']) (by omega))
                have hszA : w.heap.size ≤ (w3.alloc (.cells #[.string (bs s2.frm), .slice At s2.tos.length ct, .slice M m.length cM] 38)).drew.heap.size := by simp; omega
                have hbt : (ts.length + 1) * 64 ≤ 140737488355328 := by omega
                have hkt : ¬ nb (.slice Ak ts.length ck) w.heap.size := fun hk => hRG3.sep 2 0 _ _ (by omega) rfl rfl _ hk (nb_pv.2 rfl)
                have HKT := Lib.hid hkt
                have HRA := Lib.hid hrA
                have HOW2 := Lib.hid ow2
                clear hkt hrA hRG3 hxv hom ow1 ow2 HRGA hR2 hA2f
                have HR3 := Lib.hid (show Ext (fun k => k = w.heap.size ∨ nb (.slice Ak ts.length ck) k) w3 (w3.alloc (.cells #[.string (bs s2.frm), .slice At s2.tos.length ct, .slice M m.length cM] 38)).drew from ((Ext.refl _ w3).alloc _).drew)
                clear hx2b hx2 hB2 hb3 hlt hlq hle hn1
                go_wp2_with fail
                go_region_law (refine step_appM rfl (.tmp 83) (.tmp 94) _ _ rfl TPo HOWN.out (by simp [Act.eval, Act.put]) HSRC.out (by simp [Act.eval, Act.put]) hbt hszA ?_; intro v6 w6 hown6 hgr6 hat6; have HO6 := Lib.hid hown6; have HG6 := Lib.hid hgr6; have HA6 := Lib.hid hat6; obtain ⟨A6, c6, rfl, _, _, _, _, _, _⟩ := hown6.form; have hr6 := (Ext.of_grown (S := fun k => nb (.slice Ak ts.length ck) k) hgr6 (fun k e => e)).row (show Row (w3.alloc (.cells #[.string (bs s2.frm), .slice At s2.tos.length ct, .slice M m.length cM] 38)).drew w.heap.size _ _ from HRA.out) HKT.out; have d4 := hr6.cell (j := 4) rfl; have z4 := hr6.frozen 4; have HR6 := Lib.hid hr6; clear hown6 hgr6 hat6 hr6)
                all_goals
                  have hr7 := HR6.out.set 4 (.slice A6 (ts.length + 1) c6)
                  have hv6 : ∀ k, nb (.slice A6 (ts.length + 1) c6) k → nb (.slice Ak ts.length ck) k ∨ w3.heap.size + 1 ≤ k := fun k hk => by
                    unfold nb at hk ⊢
                    rcases HA6.out with h | h
                    · rw [h] at hk; exact .inl hk
                    · rw [h] at hk
                      have := Option.some.inj hk
                      simp at this
                      exact .inr (by omega)
                  have hx6 : Ext (fun k => k = w.heap.size ∨ nb (.slice Ak ts.length ck) k) w3 w6 := HR3.out.trans (Ext.of_grown (S := fun k => nb (.slice Ak ts.length ck) k) HG6.out fun k e => e) fun b e => .inl (.inr e)
                  have hs6 := hx6.size
                  have hsy := say_any w.heap.size _ _ _ _ _ (out ++ (cmd s2 line).1 ++ [13, 10]) okayB (w6.setCell ⟨w.heap.size, 4, none⟩ (.slice A6 (ts.length + 1) c6)) (by have : okayB.length = 6 := rfl; simp only [List.length_append, List.length_cons, List.length_nil]; omega) hr7
                  have HV6 := Lib.hid hv6
                  have HX6 := Lib.hid hx6
                  clear hr7 hv6 hx6
                  go_wp2_with fail
                  refine hsy.mono ?_
                  rintro e w8 ⟨rfl, hr8, hx8⟩
                  clear hsy
                  have hsz8 := hx8.size
                  have hsz8b : (w6.setCell ⟨w.heap.size, 4, none⟩ (.slice A6 (ts.length + 1) c6)).heap.size = w6.heap.size := by simp
                  have han := anew_any w.heap.size w.heap.size 1 _ _ _ _ _ _ w8 (by omega) hr8
                  have HX8 := Lib.hid hx8
                  clear hr8 hx8
                  go_wp2_with fail
                  refine han.mono ?_
                  rintro e w9 ⟨rfl, tv9, hr9, ho9, hv9, hx9⟩
                  clear han
                  have hx69 : Ext (fun k => k = w.heap.size) w6 w9 := (((Ext.refl (fun k => k = w.heap.size) w6).set ⟨w.heap.size, 4, none⟩ _ rfl).trans HX8.out fun b e => .inl e).trans hx9 fun b e => .inl e
                  have hx39 : Ext (fun k => k = w.heap.size ∨ nb (.slice Ak ts.length ck) k) w3 w9 := HX6.out.trans (hx69.mono fun b e => .inl e) fun b e => .inl e
                  have hwlt := HRG3.out.row.lt
                  have hmo9 := hx69.own HO6.out fun k hk e => by
                    rcases HV6.out k hk with h | h
                    · exact HKT.out (e ▸ h)
                    · omega
                  have hRG9 := HRG3.out.taken HOM.out HXV.out hr9 hmo9 (fun k hk => (HV6.out k hk).elim .inl fun h => .inr (by omega)) hs6 (fun k hk => (HO6.out.lt k hk).2) ho9 (fun k hk => by have := hv9 k hk; omega) hx39
                  have hB9 : Below w.heap.size w w9 := (hx39.mono (T := fun k => w.heap.size ≤ k) fun k hk => by
                    rcases hk with hk | hk
                    · rw [hk]; exact Nat.le_refl _
                    · exact (HRG3.out.mo.lt k hk).1).below hB3 hB3.size fun _ h => h
                  have HRG9 := Lib.hid hRG9
                  clear hr9 ho9 hv9 hx9 hx69 hx39 hmo9 hRG9 hB3
                  go_wp2_with fail
                  go_roundw
                  case rel =>
                    refine ⟨r2, A2, c2, rfl, hc2, by omega, Lib.hid ⟨_, _, _, _, _, _, false, HRG9.out, by decide, by decide, ?_, ?_, ?_⟩, hB9⟩
                    · rw [if_neg (by decide), HFE.out]
                      simp [Fed.ahead]
                    · have : okayB.length = 6 := rfl
                      simp only [List.length_append, List.length_cons, List.length_nil]
                      omega
                    · simp only [List.length_append, List.length_cons, List.length_nil]
                      omega
                  case measure => simp [slLen]; omega
            · rw [decide_eq_false h4]
              go_wp2_with fail
              go_roundw
              case rel =>
                refine ⟨r, A', d - (q + 2), ?_, by omega, by omega, Lib.hid ?_, hB2⟩
                · rw [← HRL.out]
                · by_cases h5 : (cmd s line).2.st = 5
                  · have h1 := HRG2.out
                    rw [decide_eq_true h5] at h1
                    have h2 := hs2' (by omega)
                    subst h2
                    refine ⟨_, _, ts, _, _, _, true, h1, hst, htl, ?_, ?_, by omega⟩
                    · rw [if_pos rfl, hfe, if_pos h5, feed_closed _ h5, cmd_five hst h5]
                      simp [Fed.ahead]
                    · simp only [List.length_append, List.length_cons, List.length_nil]
                      omega
                  · have h1 := HRG2.out
                    rw [decide_eq_false h5] at h1
                    have h2 := hs2 (by omega)
                    subst h2
                    refine ⟨_, _, ts, _, _, _, false, h1, by omega, htos, ?_, ?_, by omega⟩
                    · rw [if_neg (by decide), hfe, if_neg h5]
                      simp [Fed.ahead]
                    · simp only [List.length_append, List.length_cons, List.length_nil]
                      omega
              case measure => simp [slLen]; omega
          · have hmiss : x ≠ 13 ∨ (buf.drop (q + 1)).head? ≠ some 10 := by
              rw [List.head?_drop]
              by_cases h : x = 13
              · exact .inr fun h2 => hit ⟨h, h2⟩
              · exact .inl h
            have HSC := Lib.hid (hsc.out.miss hx.out hmiss)
            have hcase : (((x.toNat : Int) == 13) = false) ∨ (((x.toNat : Int) == 13) = true ∧ ¬ (q : Int) + 1 < (buf.length : Int)) ∨ (((x.toNat : Int) == 13) = true ∧ (q : Int) + 1 < (buf.length : Int) ∧ ∃ y : UInt8, ((y.toNat : Int) == 10) = false ∧ wr.cell? ⟨b0, o0 + (q + 1), none⟩ = some (.int .u8 (y.toNat : Int))) := by
              by_cases h : x = 13
              · have hb13 : ((x.toNat : Int) == 13) = true := by rw [t13, h]; rfl
                by_cases h2 : q + 1 < buf.length
                · obtain ⟨b1, o1, x1, e1, hx1, cx1⟩ := hbR.one (k := q + 1) h2
                  cases e1
                  refine .inr (.inr ⟨hb13, by omega, x1, ?_, cx1⟩)
                  rw [show ((x1.toNat : Int) == 10) = (x1 == 10) from u8_test x1 10 rfl]
                  rw [beq_eq_false_iff_ne]
                  rintro rfl
                  exact hit ⟨h, hx1.out⟩
                · exact .inr (.inl ⟨hb13, by omega⟩)
              · exact .inl (by rw [t13]; simp [h])
            clear t13 hx hsc hit hmiss
            rcases hcase with k1 | ⟨k1, k2⟩ | ⟨k1, k2, y, k3, cy⟩
            all_goals
              go_wp2_with fail
              go_roundw
              case rel => exact ⟨q + 1, by go_num, by omega, HSC, by first | rfl | trivial⟩
              case measure => simp [intOf]; omega
        · obtain rfl : q = buf.length := by omega
          have hcut := hsc.out.done (Nat.le_refl _)
          have hst2 : step s buf = none := by unfold step; rw [if_neg (by omega), hcut]; rfl
          have hfe := HF2.out
          rw [feed_none hst2] at hfe
          have HFE := Lib.hid hfe
          have heq : (((buf.length : Nat) : Int) == (buf.length : Int)) = true := by simp
          clear hcut hst2 hfe hsc
          go_wp2_with fail
          go_ret
          exact ⟨runOut_of HRG.out (by rw [HFE.out]; simp [Fed.ahead]) (by rw [HFE.out]; simp [Fed.ahead]) (by rw [HFE.out]; simp [Fed.ahead]; omega), hBl⟩
end Go.Proofs.YtddjabjloplhiaaGreatDoor
