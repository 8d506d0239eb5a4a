/- The document's Send. -/
import Derived.Test.YtddjabjloplhiaaGreatDoorW11
import Derived.Test.YtddjabjloplhiaaGreatDoorW10
import Derived.Test.YtddjabjloplhiaaGreatDoorZ6
namespace Go.Proofs.YtddjabjloplhiaaGreatDoor
set_option linter.unusedVariables false
set_option linter.unusedSimpArgs false
open Go.RowKit

theorem sendOk_adr {frm : List UInt8} {tos : List (List UInt8)} {x : List UInt8} (hx : x ∈ frm :: tos) (h : adrOk (angle x) = false) : sendOk frm tos = false := by
  rw [← Bool.not_eq_true]
  intro hs
  unfold sendOk at hs
  rw [Bool.and_eq_true, List.all_eq_true] at hs
  have := hs.1 x hx
  rw [h] at this
  cases this
theorem sendOk_len {frm : List UInt8} {tos : List (List UInt8)} {x : List UInt8} (hx : x ∈ sendL frm tos) (h : 512 < x.length) : sendOk frm tos = false := by
  rw [← Bool.not_eq_true]
  intro hs
  unfold sendOk at hs
  rw [Bool.and_eq_true, List.all_eq_true, List.all_eq_true] at hs
  have := of_decide_eq_true (hs.2 x hx)
  omega
theorem sendOk_all {frm : List UInt8} {tos : List (List UInt8)} (h1 : ∀ y ∈ frm :: tos, adrOk (angle y) = true) (h2 : ∀ l ∈ sendL frm tos, l.length ≤ 512) : sendOk frm tos = true := by
  unfold sendOk
  rw [Bool.and_eq_true, List.all_eq_true, List.all_eq_true]
  exact ⟨h1, fun l hl => decide_eq_true (h2 l hl)⟩
theorem joinE_take {ls : List (List UInt8)} {q : Nat} {l : List UInt8} (h : ls[q]? = some l) : joinE (ls.take (q + 1)) = joinE (ls.take q) ++ (l ++ [13, 10]) := by
  rw [take_succ_of h, joinE_app]
  simp [joinE]

set_option maxRecDepth 100000 in
set_option maxHeartbeats 4000000 in
theorem rsend_any (frm : List UInt8) (tos : List (List UInt8)) (b : List UInt8) (T Bb : Option Addr) (nt ct nb' cb : Nat) (w : World) (hnt : tos.length = nt) (hT : Rv w T (tos.map sv)) (hnb : b.length = nb') (hBb : Rb w Bb b) (hf : frm.length ≤ 1000) (ht30 : nt ≤ 30) (hb3 : nb' ≤ 3000) (hts : ∀ a ∈ tos, a.length ≤ 1000) :
    Calls Tryz.prog 13 #[.agg #[.string (bs frm), .slice T nt ct, .slice Bb nb' cb]] w fun e w' => SendOut frm tos b w e w' ∧ Below w.heap.size w w' := by
  have HNT := Lib.hid hnt
  have HNB := Lib.hid hnb
  have HTS := Lib.hid hts
  clear hnt hnb hts
  have hbox : Row (w.alloc (.cells #[.string (bs frm), .slice T nt ct, .slice Bb nb' cb] 38)) w.heap.size 38 [.string (bs frm), .slice T nt ct, .slice Bb nb' cb] := Row.new w _ _
  have hbb : Below w.heap.size w (w.alloc (.cells #[.string (bs frm), .slice T nt ct, .slice Bb nb' cb] 38)) := (Below.refl _ _).alloc (Nat.le_refl _) _
  have hmail : ∀ a : List UInt8, (⟨#[77, 65, 73, 76, 32, 70, 82, 79, 77, 58, 60]⟩ : ByteArray) ++ bs a ++ ⟨#[62]⟩ = bs (mailL a) := fun a => by
    rw [show (⟨#[77, 65, 73, 76, 32, 70, 82, 79, 77, 58, 60]⟩ : ByteArray) = bs [77, 65, 73, 76, 32, 70, 82, 79, 77, 58, 60] from rfl, show (⟨#[62]⟩ : ByteArray) = bs [62] from rfl, bs_add, bs_add]
    rfl
  have hrcpt : ∀ a : List UInt8, (⟨#[82, 67, 80, 84, 32, 84, 79, 58, 60]⟩ : ByteArray) ++ bs a ++ ⟨#[62]⟩ = bs (rcptL a) := fun a => by
    rw [show (⟨#[82, 67, 80, 84, 32, 84, 79, 58, 60]⟩ : ByteArray) = bs [82, 67, 80, 84, 32, 84, 79, 58, 60] from rfl, show (⟨#[62]⟩ : ByteArray) = bs [62] from rfl, bs_add, bs_add]
    rfl
  have hang : ∀ a : List UInt8, (⟨#[60]⟩ : ByteArray) ++ bs a ++ ⟨#[62]⟩ = bs (angle a) := fun a => by
    rw [show (⟨#[60]⟩ : ByteArray) = bs [60] from rfl, show (⟨#[62]⟩ : ByteArray) = bs [62] from rfl, bs_add, bs_add]
    rfl
  have hangl : ∀ a : List UInt8, (angle a).length = a.length + 2 := fun a => by simp [angle]
  have hmaill : ∀ a : List UInt8, (mailL a).length = a.length + 12 := fun a => by simp [mailL, angle]
  have hrcptl : ∀ a : List UInt8, (rcptL a).length = a.length + 10 := fun a => by simp [rcptL, angle]
  have HAN := Lib.hid hangl
  have HML := Lib.hid hmaill
  have HRL := Lib.hid hrcptl
  have hrl : ∀ l ∈ sendL frm tos, l.length ≤ 1100 := fun l hl => by
    unfold sendL at hl
    rcases List.mem_append.1 hl with hl | hl
    · simp at hl
      rcases hl with rfl | rfl
      · decide
      · rw [hmaill]; omega
    · obtain ⟨x, hx, rfl⟩ := List.mem_map.1 hl
      rw [hrcptl]
      have := HTS.out x hx
      omega
  have hsll : (sendL frm tos).length = nt + 2 := by unfold sendL; simp [HNT.out]; try omega
  have hjb := joinE_bound (sendL frm tos) hrl
  rw [hsll] at hjb
  have hjt : ∀ k, (joinE ((sendL frm tos).take k)).length ≤ 40000 := fun k => by
    have h2 : (joinE (sendL frm tos)).length = (joinE ((sendL frm tos).take k)).length + (joinE ((sendL frm tos).drop k)).length := by rw [← List.length_append, ← joinE_app, List.take_append_drop]
    omega
  have HJT := Lib.hid hjt
  have HSLL := Lib.hid hsll
  clear hangl hmaill hrcptl hrl hjt hsll
  go_enter Tryz.func13, Tryz.ntmps13
  go_upto_region 2 with fail
  obtain ⟨w1, hw1⟩ : ∃ w1, w.alloc (.cells #[.string (bs frm), .slice T nt ct, .slice Bb nb' cb] 38) = w1 := ⟨_, rfl⟩
  have hs1 : w1.heap.size = w.heap.size + 1 := by rw [← hw1]; simp
  have hs1a : w.heap.size < w1.heap.size := by omega
  clear hs1
  rw [hw1] at hbox hbb ⊢
  have hown := OwnM.made w1 [sv frm] 9 1 rfl (by unfold maxLen; omega)
  have hT1 := (hT.below hbb).below ((Below.refl _ w1).alloc (Nat.le_refl _) (.cells #[sv frm] 9))
  have hboxA := hbox.alloc (.cells #[sv frm] 9)
  have hbbA := hbb.alloc (by omega) (.cells #[sv frm] 9)
  have c0 := hbox.cell (j := 0) rfl
  have c1 := hbox.cell (j := 1) rfl
  have c1a := hboxA.cell (j := 1) rfl
  clear hw1
  go_wp2_with (at_builtin; refine wpList_appM rfl _ _ _ _ rfl TStr4 hown rfl (Src_rv (news := tos.map sv) Tryz.underlying30 (by rw [List.length_map, HNT.out, Nat.mul_one]) hT1 (sv_one tos) (by omega)) rfl (by omega) (by simp) ?_; intro v2 w2 own2 gr2 at2; have hHB := Lib.hid (show Below w.heap.size w w2 from hbbA.grown gr2 (by simp; omega) (fun j hj => by have h : w1.heap.size = j := Option.some.inj hj; omega)); have hHX := Lib.hid (show Row w2 w.heap.size 38 _ from (Ext.of_grown (S := fun k => k = w1.heap.size) gr2 (fun k e => (Option.some.inj e).symm)).row hboxA (fun e => by omega)); have HO2 := Lib.hid own2; obtain ⟨A2, c2, rfl, _, _, hR2, _, _, _⟩ := own2.form; clear own2 gr2 at2)
  have hB2 := hHB.out
  have hbx2 := hHX.out
  have hR2' : Rv w2 A2 ((frm :: tos).map sv) := hR2
  have hs2 := hB2.size
  obtain ⟨N, hN⟩ : ∃ N, 1 + nt = N := ⟨_, rfl⟩
  have hNl : (frm :: tos).length = N := by rw [List.length_cons, HNT.out]; omega
  have HNL := Lib.hid hNl
  have hNb : N ≤ 31 := by omega
  have hN2 : nt + 1 = N := by omega
  have HN2 := Lib.hid hN2
  rw [hN]
  clear hNl hN hN2 hR2 hT1 hboxA hbbA c0 c1 c1a hown hbb hbox hHB hHX HO2 hT
  have HBX := Lib.hid hbx2
  have HRR := Lib.hid hR2'
  have hlo : (sendL frm tos).take 1 = [heloL] := rfl
  have hcl : (⟨#[72, 69, 76, 79, 32, 100, 101, 115, 112, 97, 116, 99, 104, 13, 10]⟩ : ByteArray) = bs (joinE ((sendL frm tos).take 1)) := rfl
  have HCL := Lib.hid hcl
  clear hcl hlo hbx2 hR2'
  go_wp2_with fail
  go_loopw [4, 6] (fun ov i wr => ∃ (q : Nat) (o : List UInt8), i = .int .i64 q ∧ q ≤ N ∧ ov = .string (bs o) ∧ Hid (o = joinE ((sendL frm tos).take (q + 1))) ∧ o.length ≤ 40000 ∧ Hid ((∀ y ∈ (frm :: tos).take q, adrOk (angle y) = true) ∧ ∀ l ∈ (sendL frm tos).take (q + 1), l.length ≤ 512) ∧ Below w2.heap.size w2 wr) (fun _ i _ => N - (intOf i).toNat)
  case atStart => exact ⟨0, heloL ++ [13, 10], rfl, by omega, rfl, Lib.hid rfl, by decide, Lib.hid ⟨by simp, by simp [sendL]; decide⟩, Below.refl _ _⟩
  case round =>
    obtain ⟨q, o, rfl, hq, rfl, ho, hol, hok, hB⟩ := hrel
    have hBw : Below w.heap.size w wr := hB2.trans (hB.mono hs2)
    have hs := hBw.size
    by_cases hlt : q < N
    · obtain ⟨bt, ot, xv, rfl, hxv, cx⟩ := (HRR.out.below hB).one (k := q) (by rw [List.length_map, HNL.out]; exact hlt)
      obtain ⟨a, ha⟩ : ∃ a, (frm :: tos)[q]? = some a := ⟨_, List.getElem?_eq_getElem (by rw [HNL.out]; exact hlt)⟩
      have exv : xv = .string (bs a) := by
        have := hxv.out
        rw [List.getElem?_map, ha] at this
        exact (Option.some.inj this).symm
      subst exv
      have ham := List.mem_of_getElem? ha
      have hal : a.length ≤ 1000 := by
        rcases List.mem_cons.1 ham with rfl | h
        · exact hf
        · exact HTS.out a h
      obtain ⟨line, hline⟩ : ∃ l, (if q = 0 then mailL a else rcptL a) = l := ⟨_, rfl⟩
      have hsl : (sendL frm tos)[q + 1]? = some line := by
        rw [← hline]
        cases q with
        | zero => simp at ha; rw [← ha]; rfl
        | succ p =>
          simp at ha
          rw [if_neg (by omega)]
          show (tos.map rcptL)[p]? = _
          rw [List.getElem?_map, ha]
          rfl
      have hlm := List.mem_of_getElem? hsl
      have hjn := joinE_take hsl
      rw [← ho.out] at hjn
      have hll : line.length ≤ 1012 := by
        rw [← hline]
        split
        · rw [HML.out]; omega
        · rw [HRL.out]; omega
      have hol2 : (o ++ (line ++ [13, 10])).length ≤ 40000 := by rw [← hjn]; exact HJT.out _
      have HJN := Lib.hid hjn
      have HLM := Lib.hid hlm
      have HSL := Lib.hid hsl
      have HAM := Lib.hid ham
      have HA := Lib.hid ha
      have hcat : bs o ++ (bs line ++ (⟨#[13, 10]⟩ : ByteArray)) = bs (o ++ (line ++ [13, 10])) := by
        rw [show (⟨#[13, 10]⟩ : ByteArray) = bs [13, 10] from rfl, bs_add, bs_add]
      have hadr := fun W => raddress_any (angle a) W (by rw [HAN.out]; omega)
      have hcase : (((q : Int) == 0) = true ∧ line = mailL a) ∨ (((q : Int) == 0) = false ∧ line = rcptL a) := by
        by_cases h0 : q = 0
        · exact .inl ⟨by rw [h0]; rfl, by rw [← hline, if_pos h0]⟩
        · exact .inr ⟨by rw [beq_eq_false_iff_ne]; omega, by rw [← hline, if_neg h0]⟩
      have hlm2 := HML.out a
      have hlr2 := HRL.out a
      clear hxv ha ham hline hsl hlm hjn
      rcases Bool.eq_false_or_eq_true (adrOk (angle a)) with hz | hz
      · rw [hz] at hadr
        by_cases h512 : 512 < line.length
        · have hi : (512 : Int) < (line.length : Int) := by omega
          have HSO := Lib.hid (sendOk_len HLM.out h512)
          clear h512 hz
          rcases hcase with ⟨k1, k2⟩ | ⟨k1, k2⟩
          all_goals
            subst k2
            go_wp2_with fail
            try simp only [hmail, hrcpt, hang]
            refine (hadr _).mono ?_
            rintro e w4 ⟨⟨a', rfl, _⟩, hb4⟩
            clear hadr
            try simp only [hmail, hrcpt, hang]
            go_wp2_with fail
            go_ret2
            refine ⟨?_, hBw.trans (hb4.mono hs)⟩
            unfold SendOut
            rw [HSO.out]
            rfl
        · have hi : ¬ (512 : Int) < (line.length : Int) := by omega
          have HOK2 : Hid ((∀ y ∈ (frm :: tos).take (q + 1), adrOk (angle y) = true) ∧ ∀ l ∈ (sendL frm tos).take (q + 1 + 1), l.length ≤ 512) := Lib.hid (by
            rw [take_succ_of HA.out, take_succ_of HSL.out]
            refine ⟨fun y hy => ?_, fun l hl => ?_⟩
            · rcases List.mem_append.1 hy with h | h
              · exact hok.out.1 y h
              · rw [List.mem_singleton.1 h]; exact hz
            · rcases List.mem_append.1 hl with h | h
              · exact hok.out.2 l h
              · rw [List.mem_singleton.1 h]; omega)
          clear h512 hz
          rcases hcase with ⟨k1, k2⟩ | ⟨k1, k2⟩
          all_goals
            subst k2
            go_wp2_with fail
            try simp only [hmail, hrcpt, hang]
            refine (hadr _).mono ?_
            rintro e w4 ⟨⟨a', rfl, _⟩, hb4⟩
            clear hadr
            try simp only [hmail, hrcpt, hang]
            go_wp2_with fail
            go_roundw
            case rel => exact ⟨q + 1, _, by go_num, by omega, rfl, Lib.hid HJN.out.symm, hol2, HOK2, hB.trans (hb4.mono hB.size)⟩
            case measure => simp [intOf]; omega
      · rw [hz] at hadr
        have HSO := Lib.hid (sendOk_adr HAM.out hz)
        clear hz
        rcases hcase with ⟨k1, k2⟩ | ⟨k1, k2⟩
        all_goals
          subst k2
          go_wp2_with fail
          try simp only [hmail, hrcpt, hang]
          refine (hadr _).mono ?_
          rintro e w4 ⟨⟨a', rfl, _⟩, hb4⟩
          clear hadr
          go_wp2_with fail
          go_ret2
          refine ⟨?_, hBw.trans (hb4.mono hs)⟩
          unfold SendOut
          rw [HSO.out]
          rfl
    · obtain rfl : q = N := by omega
      have hsok : sendOk frm tos = true := sendOk_all (fun y hy => hok.out.1 y (by rw [List.take_of_length_le (by rw [HNL.out]; exact Nat.le_refl _)]; exact hy)) (fun l hl => hok.out.2 l (by rw [List.take_of_length_le (by rw [HSLL.out]; have := HN2.out; omega)]; exact hl))
      have hof : o = joinE (sendL frm tos) := by rw [ho.out, List.take_of_length_le (by rw [HSLL.out]; have := HN2.out; omega)]
      have HSO := Lib.hid hsok
      have HOF := Lib.hid hof
      have e1 := (HBX.out.below hB).cell (j := 1) rfl
      have e2 := (HBX.out.below hB).cell (j := 2) rfl
      have HBX3 := Lib.hid (HBX.out.below hB)
      have hlal := laid_len b
      rw [HNB.out] at hlal
      have hstl := stuff_len b
      rw [HNB.out] at hstl
      clear hsok hof ho hok
      have hBB := (hBb.below hBw)
      have hjl0 : o.length ≤ 40000 := hol
      by_cases h0 : nt = 0
      · have hz : ((nt : Int) == 0) = true := by rw [h0]; rfl
        have H0 := Lib.hid h0
        clear h0
        go_wp2_with fail
        go_ret2
        refine ⟨?_, hBw⟩
        unfold SendOut
        rw [HSO.out, if_pos rfl, if_pos (.inl (List.eq_nil_of_length_eq_zero (by rw [HNT.out, H0.out])))]
        rfl
      have hz : ((nt : Int) == 0) = false := by rw [beq_eq_false_iff_ne]; omega
      by_cases h10 : 10 < nt
      · have hi : (10 : Int) < (nt : Int) := by omega
        have H10 := Lib.hid h10
        clear h10 h0
        go_wp2_with fail
        go_ret2
        refine ⟨?_, hBw⟩
        unfold SendOut
        rw [HSO.out, if_pos rfl, if_pos (.inr (by rw [HNT.out]; exact H10.out))]
        rfl
      have hi : ¬ (10 : Int) < (nt : Int) := by omega
      have H0 := Lib.hid h0
      have H10 := Lib.hid h10
      have hlaid : ¬ (2097152 : Int) < ((laidP b).length : Int) := by omega
      have hrl := rlaid_any Bb b nb' cb wr HNB.out hBB (by omega)
      have hfin : sendP frm tos b = o ++ [68, 65, 84, 65, 13, 10] ++ stuffP b ++ [81, 85, 73, 84, 13, 10] := by rw [HOF.out]; rfl
      have HFIN := Lib.hid hfin
      clear hfin h0 h10
      go_wp2_with fail
      refine hrl.mono ?_
      rintro e w4 ⟨⟨v4, rfl, own4⟩, hb4⟩
      obtain ⟨A4, c4, rfl, _, _, _, _, _, _⟩ := own4.form
      have hX4 := hB.trans (hb4.mono hB.size)
      obtain ⟨cc, W, hrun, howW, hbW, hsW⟩ := conv_bs (P := Tryz.prog) (src := 9) (dst := 22) (e := 5) Tryz.underlying9 Tryz.underlying22 Tryz.underlying5 w4 o (by unfold maxLen; omega)
      have howW' := howW.rebase hX4.size
      have hXW := hX4.trans (hbW.mono hX4.size)
      have hsXW := hXW.size
      clear hrl own4 e1 e2 hbW hsW howW hs hb4
      go_wp2_with (at_builtin; refine wpList_appM rfl _ _ _ _ rfl TU8 howW' rfl (Src_str Tryz.underlying9 [68, 65, 84, 65, 13, 10]) rfl (by simp; omega) hsXW ?_; intro v6 w6 own6 gr6 at6; have hX6 := below_appM hXW howW' gr6 hsXW (Nat.le_refl _); have e6 := (HBX.out.below hX6).cell (j := 2) rfl; clear gr6 at6)
      have hstu := rstuff_any Bb b nb' cb w6 HNB.out (hBb.below (hB2.trans (hX6.mono hs2))) (by omega)
      go_wp2_with fail
      refine hstu.mono ?_
      rintro e w7 ⟨⟨v7, rfl, own7⟩, hb7⟩
      obtain ⟨A7, c7, rfl, _, _, hR7, _, _, _⟩ := own7.form
      have hX7 := hX6.trans (hb7.mono hX6.size)
      have hs7 := hX7.size
      have own6' := own6.below hb7
      clear hstu own7 own6 hb7
      go_wp2_with (first
        | (at_builtin; refine wpList_appM rfl _ _ _ _ rfl TU8 own6' rfl (Src_rb Tryz.underlying22 rfl hR7) rfl (by simp; omega) hs7 ?_; intro v10 w10 own10 gr10 at10; have hX10 := below_appM hX7 own6' gr10 hs7 (Nat.le_refl _); have hs10 := hX10.size)
        | (at_builtin; refine wpList_appM rfl _ _ _ _ rfl TU8 own10 rfl (Src_str Tryz.underlying9 [81, 85, 73, 84, 13, 10]) rfl (by simp; omega) hs10 ?_; intro v11 w11 own11 gr11 at11; have hX11 := below_appM hX10 own10 gr11 hs10 (Nat.le_refl _)))
      go_ret2
      refine ⟨?_, hB2.trans (hX11.mono hs2)⟩
      unfold SendOut
      rw [HSO.out, if_pos rfl, if_neg]
      · refine ⟨_, rfl, ownM_eq (own11.rebase hs2) ?_ ?_⟩
        · rw [HFIN.out]; simp; omega
        · rw [HFIN.out]; simp
      · rintro (h | h)
        · rw [h] at HNT
          exact H0.out HNT.out.symm
        · rw [HNT.out] at h
          exact H10.out h
end Go.Proofs.YtddjabjloplhiaaGreatDoor
