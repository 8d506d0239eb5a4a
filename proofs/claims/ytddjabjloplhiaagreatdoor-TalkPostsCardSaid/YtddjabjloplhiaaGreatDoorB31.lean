/- TalkPosts: the walk. -/
import Derived.Test.YtddjabjloplhiaaGreatDoorZB
import Derived.Test.YtddjabjloplhiaaGreatDoorZV
import Derived.Test.YtddjabjloplhiaaGreatDoorZS
namespace Go.Proofs.YtddjabjloplhiaaGreatDoor
set_option linter.unusedVariables false
set_option linter.unusedSimpArgs false
open Go.RowKit

theorem feed_0 : feed ⟨0, [], []⟩ [] = ⟨[], ⟨0, [], []⟩, [], []⟩ := feed_none rfl
theorem msAt_mv {w : World} {base n : Nat} {mv : Value} {us : List Tm} {vs : List Value} (h : OwnM w base 38 3 mv n (pcs us)) (ht : TsOk w base vs us) : ∃ A k c, mv = .slice A k c ∧ k = n ∧ MsAt w A us := by
  obtain ⟨A, c, rfl, _⟩ := h.form
  exact ⟨A, n, c, rfl, rfl, msAt_of h ht⟩
set_option maxRecDepth 100000 in
set_option maxHeartbeats 1000000 in
theorem talkPosts_any (A B : Option Addr) (b : List UInt8) (zs : List Int) (n c m d : Nat) (w : World) (hn : b.length = n) (hA : Rb w A b) (hnc : n ≤ c) (hm : zs.length = m) (hB : Rv w B (zs.map (Value.int .i64))) (hw : Mx w) (hb1 : n ≤ 9223372036854775807) (hb2 : m ≤ 9223372036854775807) :
    Calls Tryz.prog 3 #[.slice A n c, .slice B m d] w fun e w' => e = .returned (.bool true) ∧ Below w.heap.size w w' := by
  have HN := Lib.hid hn
  have HM := Lib.hid hm
  clear hn hm
  go_enter Tryz.func3, Tryz.ntmps3
  go_wp2_with fail
  refine (speaks21_any w hw).mono ?_
  rintro e w1 ⟨rfl, hB1⟩
  have hA1 := hA.below hB1
  have hw1 := hw.below hB1
  by_cases h5 : 5000 < n
  · have hi : (5000 : Int) < (n : Int) := by omega
    clear h5
    go_wp2_with fail
    go_ret
    exact ⟨rfl, hB1⟩
  have hi5 : ¬ (5000 : Int) < (n : Int) := by omega
  by_cases h6 : 60 < m
  · have hi : (60 : Int) < (m : Int) := by omega
    clear h6 h5
    go_wp2_with fail
    go_ret
    exact ⟨rfl, hB1⟩
  have hi6 : ¬ (60 : Int) < (m : Int) := by omega
  have hrun := run_any A b n c w1 HN.out hA1 hnc (by omega)
  go_wp2_with fail
  refine hrun.mono ?_
  rintro e w2 ⟨⟨t, us, a0, a1, a2, mv, rfl, hrt, hmo, hus, hms⟩, hB2'⟩
  have hB2 := hB1.trans (hB2'.mono hB1.size)
  have hw2 := hw1.below hB2'
  clear hrun hB2' hw1 hA1
  go_wp2_with fail
  refine (newPost2_any w2).mono ?_
  rintro e w3 ⟨rfl, hr3, hb3, hs3⟩
  have hMU := msAt_mv hmo hus
  obtain ⟨M, nM, cM, rfl, hnM, hMU⟩ := hMU
  have hwp := hB2.size
  obtain ⟨p, hp⟩ : ∃ p, w2.heap.size = p := ⟨_, rfl⟩
  have hgl : 0 < p := by rw [← hp]; exact hw2.base.2
  rw [hp] at hr3 hs3 hb3 hwp ⊢
  have HP := Lib.hid hp
  have hb4 : Below w3.heap.size w3 (w3.alloc (.cells #[] 5)) := (Below.refl _ _).alloc (Nat.le_refl _) _
  have hown0 : OwnM (w3.alloc (.cells #[] 5)) w3.heap.size 5 1 (.slice (some ⟨w3.heap.size, 0, none⟩) 0 0) 0 [] := OwnM.of (World.ownsRow_made (base := w3.heap.size) (e := 5) (size := 1) w3 #[] 0 (Nat.le_refl _) (by unfold maxLen; omega) rfl)
  have hP4 := Lib.hid (post_new hr3 (xo := []) hb4 hown0)
  have hB24 : Below p w2 (w3.alloc (.cells #[] 5)) := hb3.alloc (by omega) _
  have hmx4 : MxB (w3.alloc (.cells #[] 5)) p := ⟨(hw2.below (by rw [hp]; exact hb3)).below hb4, hgl⟩
  have hpu : ∀ W, Sem.run Tryz.prog (pure #[] : Sem (Array Value)) W = .ok #[] W := fun _ => rfl
  have hst : ∀ a W, Sem.run Tryz.prog (storeCells a []) W = .ok () W := fun _ _ => rfl
  have HRT := Lib.hid hrt
  have HMU := Lib.hid hMU
  have HMS := Lib.hid hms
  have hs4 : p ≤ (w3.alloc (.cells #[] 5)).heap.size := by simp; omega
  have HN1 := Lib.hid hnM
  have hF0 := feed_0
  have HF0 := Lib.hid hF0
  clear hF0 hs3 hp hr3 hown0 hb4 hb3 hrt hmo hus hMU hms hnM h5 h6 hB1 hw2 hw
  go_wp2_with fail
  go_loopw [7, 8, 29] (fun xv rv i wr => ∃ (k : Nat) (done rest : List UInt8) (R : Option Addr) (rc : Nat) (ts : List Tm), i = .int .i64 k ∧ k ≤ m ∧ rv = .slice R rest.length rc ∧ rest.length ≤ rc ∧ rest.length + done.length ≤ n ∧ Rb w R rest ∧ Hid (done ++ rest = b) ∧
    Hid (PostM wr p p (feed ⟨0, [], []⟩ done).s (feed ⟨0, [], []⟩ done).left ts xv (feed ⟨0, [], []⟩ done).out ∧ ts.map (·.1) = (feed ⟨0, [], []⟩ done).ms) ∧ Below p w2 wr ∧ p ≤ wr.heap.size ∧ MxB wr p) (fun _ _ i _ => m - (intOf i).toNat)
  case atStart => exact ⟨0, [], b, A, c, [], rfl, by omega, by rw [HN.out], by rw [HN.out]; exact hnc, by rw [HN.out]; simp, hA, Lib.hid rfl, Lib.hid (by rw [HF0.out]; exact ⟨hP4.out, rfl⟩), hB24, hs4, hmx4⟩
  case round =>
    clear hP4 hB24 hmx4 hs4 hA
    obtain ⟨k, done, rest, R, rc, ts, rfl, hk, rfl, hrc, hrd, hRb, hdr, hPP, hBr, hps, hmx⟩ := hrel
    obtain ⟨hP, hts⟩ := hPP.out
    have hBw : Below w.heap.size w wr := hB2.trans (hBr.mono hwp)
    obtain ⟨lv, tv, kv, hPG⟩ := hP
    have hxx := hPG.xx
    obtain ⟨Ax, cx, rfl, _, _, _, _, _, _⟩ := hxx.form
    clear hPG hxx
    obtain ⟨fo1, fo2, fo3, fo4⟩ := feed_bounds _ ⟨0, [], []⟩ done (Nat.le_refl _) (by decide)
    have hB0 : Below wr.heap.size wr (wr.alloc (.cells #[] 5)) := (Below.refl _ _).alloc (Nat.le_refl _) _
    have hown1 : (wr.alloc (.cells #[] 5)).ownsRow wr.heap.size 5 1 (.slice (some ⟨wr.heap.size, 0, none⟩) 0 0) 0 [] := World.ownsRow_made (base := wr.heap.size) (e := 5) (size := 1) wr #[] 0 (Nat.le_refl _) (by unfold maxLen; omega) rfl
    by_cases hlt : k < m
    · obtain ⟨bz, oz, vz, rfl, hvz, cz⟩ := (hB.below hBw).one (k := k) (by rw [List.length_map, HM.out]; exact hlt)
      obtain ⟨z, hz⟩ : ∃ z, zs[k]? = some z := ⟨_, List.getElem?_eq_getElem (by rw [HM.out]; exact hlt)⟩
      have ez : vz = .int .i64 z := by
        have := hvz.out
        rw [List.getElem?_map, hz] at this
        exact (Option.some.inj this).symm
      subst ez
      obtain ⟨q, hq, hq6⟩ : ∃ q : Nat, z % 65536 = (q : Int) ∧ q < 65536 := ⟨(z % 65536).toNat, by omega, by omega⟩
      have hand : bits BinOp.and IntKind.i64 z 65535 = (q : Int) := by rw [i64_and16, hq]
      obtain ⟨nn, hnn⟩ : ∃ nn, q % (rest.length + 1) = nn := ⟨_, rfl⟩
      have hnl : nn ≤ rest.length := by rw [← hnn]; have := Nat.mod_lt q (show 0 < rest.length + 1 by omega); omega
      have hrem : (q : Int).tmod ((rest.length : Int) + 1) = (nn : Int) := by
        rw [← hnn, show ((rest.length : Int) + 1) = ((rest.length + 1 : Nat) : Int) by omega]
        rfl
      have hto := fun W => slice_to (P := Tryz.prog) (t := 22) (e := 5) (s := 1) Tryz.underlying22 (fun w => Tryz.sizeOf5 w) R rest.length rc nn (by omega) .i64 W
      obtain ⟨R', hsl, hrd, _, _, _⟩ := slice_from (P := Tryz.prog) (t := 22) (e := 5) (s := 1) Tryz.underlying22 (fun w => Tryz.sizeOf5 w) R rest.length rc nn hnl hrc
      have hsl1 := hsl .i64
      have hRd : Rb w R' (rest.drop nn) := by
        have := hrd w (rest.map bv) (by simp) hRb
        show Rv w R' ((rest.drop nn).map bv)
        simpa using this
      have hRt := (hRb.take nn).below hBw
      obtain ⟨x, hx⟩ : ∃ x, rest.take nn = x := ⟨_, rfl⟩
      obtain ⟨rest', hr'⟩ : ∃ r, rest.drop nn = r := ⟨_, rfl⟩
      have hxl : x.length = nn := by rw [← hx]; simp; omega
      have hrl' : rest'.length = rest.length - nn := by rw [← hr']; simp
      have hdr' : done ++ x ++ rest' = b := by rw [← hdr.out, ← hx, ← hr', List.append_assoc, List.take_append_drop]
      rw [hx] at hRt
      rw [hr'] at hRd
      have HXL := Lib.hid hxl
      have HRL := Lib.hid hrl'
      have HDR := Lib.hid hdr'
      clear hvz hz hq hnn hsl hrd hx hr' hxl hrl' hdr' hdr
      go_wp2_with (at_builtin; refine wpList_app rfl _ _ _ _ rfl TU8 hown1 rfl (Src_rb Tryz.underlying22 HXL.out (hRt.below hB0)) rfl (by omega) (by simp) ?_; intro v1 w4 own1 gr1 at1; rw [Nat.zero_add, List.nil_append] at own1; have hB4 := below_app hB0 hown1 gr1 (by simp) (Nat.le_refl _); have HO4 := Lib.hid own1; obtain ⟨A4, c4, rfl, _, _, hR4, _⟩ := own_form own1; clear own1 gr1 at1)
      have hs4' := hB4.size
      have hfe := feedStep_any p done x ts (.slice Ax (feed ⟨0, [], []⟩ done).out.length cx) A4 nn c4 w4 (hmx.below hB4) HXL.out hR4 (by omega) (hPP.out.1.below hB4) hPP.out.2 (by omega)
      refine hfe.mono ?_
      rintro e w5 ⟨⟨v5, o5, rfl, ho5, hou, ts', hP5, hts'⟩, hb5⟩
      clear hfe
      obtain ⟨lv5, tv5, kv5, hPG5⟩ := hP5
      have hxx5 := hPG5.xx
      obtain ⟨A5, c5, rfl, _, _, hR5, _, _, _⟩ := ho5.form
      have hB45 : Below p w2 w5 := (hBr.trans (hB4.mono hps)).trans hb5
      obtain ⟨fn1, fn2, fn3, fn4⟩ := feed_bounds _ ⟨0, [], []⟩ (done ++ x) (Nat.le_refl _) (by decide)
      have hol : o5.length ≤ 200000 := by
        have := congrArg List.length hou
        rw [List.length_append] at this
        have h2 : (done ++ x).length ≤ n := by rw [List.length_append, HXL.out]; omega
        omega
      have HPG5 := Lib.hid hPG5
      have HOU := Lib.hid hou
      have HTS := Lib.hid hts'
      have hmx5 : MxB w5 p := (hmx.below hB4).belowB hb5
      have hps5 : p ≤ w5.heap.size := by have := hb5.size; omega
      have hR5' : Rb w5 A5 o5 := hR5
      clear hts hPG5 hou hts' hR4 hB4 hb5 hmx hPP ho5 hto
      go_wp2_with (at_builtin; refine wpList_appM rfl _ _ _ _ rfl TU8 hxx5 rfl (Src_rb Tryz.underlying22 rfl hR5') rfl (by omega) hps5 ?_; intro v7 w7 hown7 hgr7 hat7; have HO7 := Lib.hid hown7; have HG7 := Lib.hid hgr7; have HA7 := Lib.hid hat7; clear hown7 hgr7 hat7)
      go_roundw
      case rel =>
        have hPG7 := HPG5.out.fr' (xo' := (feed ⟨0, [], []⟩ done).out ++ o5) (Ext.of_grown HG7.out fun k e => e) (by rw [List.length_append, List.map_append]; exact HO7.out) (fun k hk => by
          unfold nb at hk ⊢
          rcases HA7.out with h | h
          · rw [h] at hk; exact .inl hk
          · rw [h] at hk; cases hk; exact .inr (Nat.le_refl _))
        rw [← HOU.out] at hPG7
        have hx7 : Ext (fun k => p ≤ k) w5 w7 := Ext.of_grown HG7.out fun k e => (hxx5.lt k e).1
        have hs7 := hx7.size
        refine ⟨k + 1, done ++ x, rest', R', rc - nn, ts', by go_num, by omega, by rw [HRL.out], by rw [HRL.out]; omega, by rw [HRL.out, List.length_append, HXL.out]; omega, hRd, HDR, Lib.hid ⟨⟨_, _, _, hPG7⟩, HTS.out⟩, hx7.below hB45 hps5 fun _ h => h, by omega, hmx5.ext hx7⟩
      case measure => simp [intOf]; omega
    · obtain rfl : k = m := by omega
      have hRt := hRb.below hBw
      have hdr' := hdr.out
      have HDR := Lib.hid hdr'
      clear hdr hdr'
      go_wp2_with (at_builtin; refine wpList_app rfl _ _ _ _ rfl TU8 hown1 rfl (Src_rb Tryz.underlying22 rfl (hRt.below hB0)) rfl (by omega) (by simp) ?_; intro v1 w4 own1 gr1 at1; rw [Nat.zero_add, List.nil_append] at own1; have hB4 := below_app hB0 hown1 gr1 (by simp) (Nat.le_refl _); have HO4 := Lib.hid own1; obtain ⟨A4, c4, rfl, _, _, hR4, _⟩ := own_form own1; clear own1 gr1 at1)
      have hs4' := hB4.size
      have hfe := feedStep_any p done rest ts (.slice Ax (feed ⟨0, [], []⟩ done).out.length cx) A4 rest.length c4 w4 (hmx.below hB4) rfl hR4 (by omega) (hPP.out.1.below hB4) hPP.out.2 (by omega)
      rw [HDR.out] at hfe
      refine hfe.mono ?_
      rintro e w5 ⟨⟨v5, o5, rfl, ho5, hou, ts', hP5, hts'⟩, hb5⟩
      clear hfe
      obtain ⟨lv5, tv5, kv5, hPG5⟩ := hP5
      have hxx5 := hPG5.xx
      obtain ⟨A5, c5, rfl, _, _, hR5, _, _, _⟩ := ho5.form
      have hB45 : Below p w2 w5 := (hBr.trans (hB4.mono hps)).trans hb5
      obtain ⟨fn1, fn2, fn3, fn4⟩ := feed_bounds _ ⟨0, [], []⟩ b (Nat.le_refl _) (by decide)
      have hbn : b.length ≤ 5000 := by rw [HN.out]; omega
      have hol : o5.length ≤ 200000 := by
        have := congrArg List.length hou
        rw [List.length_append] at this
        omega
      have HPG5 := Lib.hid hPG5
      have HOU := Lib.hid hou
      have HTS := Lib.hid hts'
      have hps5 : p ≤ w5.heap.size := by have := hb5.size; omega
      have hR5' : Rb w5 A5 o5 := hR5
      have hmsz : ∀ y ∈ ts', y.1.tos.length ≤ 1000 ∧ y.1.body.length ≤ 1000000 := fun y hy => by
        have h1 : y.1 ∈ (feed ⟨0, [], []⟩ b).ms := by rw [← hts']; exact List.mem_map_of_mem hy
        have h2 := fn4 _ h1
        omega
      have htl' : ts'.length ≤ 1000000 := by
        have := congrArg List.length hts'
        rw [List.length_map] at this
        omega
      have HMSZ := Lib.hid hmsz
      clear hts hPG5 hou hts' hR4 hB4 hb5 hmx hPP ho5 hmsz fn4 fo4
      go_wp2_with (at_builtin; refine wpList_appM rfl _ _ _ _ rfl TU8 hxx5 rfl (Src_rb Tryz.underlying22 rfl hR5') rfl (by omega) hps5 ?_; intro v7 w7 hown7 hgr7 hat7; have HO7 := Lib.hid hown7; have HG7 := Lib.hid hgr7; have HA7 := Lib.hid hat7; obtain ⟨A7, c7, rfl, _, _, hR7, _, _, _⟩ := hown7.form; clear hown7 hgr7 hat7)
      have hPG7 := HPG5.out.fr' (xo' := (feed ⟨0, [], []⟩ done).out ++ o5) (Ext.of_grown HG7.out fun k e => e) (by rw [List.length_append, List.map_append]; exact HO7.out) (fun k hk => by
        unfold nb at hk ⊢
        rcases HA7.out with h | h
        · rw [h] at hk; exact .inl hk
        · rw [h] at hk; cases hk; exact .inr (Nat.le_refl _))
      rw [← HOU.out] at hPG7
      have hx7 : Ext (fun k => p ≤ k) w5 w7 := Ext.of_grown HG7.out fun k e => (hxx5.lt k e).1
      have hB7 : Below p w2 w7 := hx7.below hB45 hps5 fun _ h => h
      have hBw7 : Below w.heap.size w w7 := hB2.trans (hB7.mono hwp)
      have hB72 : Below w2.heap.size w2 w7 := by rw [HP.out]; exact hB7
      have hrt7 := HRT.out.below hB72
      have hmu7 := HMU.out.below hB72
      have hR7' : Rb w7 A7 ((feed ⟨0, [], []⟩ done).out ++ o5) := by
        show Rv w7 A7 (((feed ⟨0, [], []⟩ done).out ++ o5).map bv)
        rw [List.map_append]
        exact hR7
      rw [← HOU.out] at hR7'
      have hn7 : (feed ⟨0, [], []⟩ b).out.length = (feed ⟨0, [], []⟩ done).out.length + o5.length := by rw [HOU.out, List.length_append]
      have hpost : PostM w7 p p (feed ⟨0, [], []⟩ b).s (feed ⟨0, [], []⟩ b).left ts' _ _ := ⟨_, _, _, hPG7⟩
      have hml : ∀ W, Below w7.heap.size w7 W → Calls Tryz.prog 10 #[.pointer (some ⟨p, 0, none⟩)] W fun e w' => MailsOut ts' W e w' ∧ Below W.heap.size W w' := fun W hW => mails_any p p _ _ ts' _ _ W (hpost.below hW) htl' HMSZ.out
      have hcl : ∀ W, Below w7.heap.size w7 W → Calls Tryz.prog 11 #[.pointer (some ⟨p, 0, none⟩)] W fun e w' => e = .returned (.bool (decide ((feed ⟨0, [], []⟩ b).s.st = 5))) ∧ w' = W := fun W hW => closed2_any W p _ _ _ _ _ _ (hPG7.row.below hW)
      have hsm : ∀ W, Below w7.heap.size w7 W → ∀ Am cm um, MsAt W Am um → um.map (·.1) = ts'.map (·.1) → Calls Tryz.prog 9 #[.slice Am ts'.length cm, .slice M nM cM] W fun e w' => e = .returned (.bool true) ∧ Dn W w' := fun W hW Am cm um hma hmf => by
        have hul : um.length = ts'.length := by have := congrArg List.length hmf; simpa using this
        refine rsame_any Am M um us ts'.length cm nM cM W hma (hmu7.below hW) hul HN1.out.symm (by rw [hmf, HTS.out, HMS.out]) (by omega) fun y hy => ?_
        have h1 : y.1 ∈ um.map (·.1) := List.mem_map_of_mem hy
        rw [hmf] at h1
        obtain ⟨y', hy', e⟩ := List.mem_map.1 h1
        have := HMSZ.out y' hy'
        rw [e] at this
        omega
      have hcv : ∀ W, Below w7.heap.size w7 W → (convert 22 9 (.slice A7 ((feed ⟨0, [], []⟩ done).out.length + o5.length) c7)).run Tryz.prog W = .ok (.string (bs (feed ⟨0, [], []⟩ b).out)) W := fun W hW => conv_str (P := Tryz.prog) (src := 22) (dst := 9) (e := 5) Tryz.underlying22 Tryz.underlying5 Tryz.underlying9 (hR7'.below hW) hn7
      obtain ⟨z, hz⟩ : ∃ z, decide ((feed ⟨0, [], []⟩ b).s.st = 5) = z := ⟨_, rfl⟩
      obtain ⟨fo, hfo⟩ : ∃ z, bs (feed ⟨0, [], []⟩ b).out = z := ⟨_, rfl⟩
      obtain ⟨n7, hn7e⟩ : ∃ z, (feed ⟨0, [], []⟩ done).out.length + o5.length = z := ⟨_, rfl⟩
      rw [hn7e] at hcv ⊢
      rw [hfo] at hcv hrt7
      rw [hz] at hcl hrt7
      have hc : ∀ W, Below w7.heap.size w7 W → W.cell? ⟨t, 3, none⟩ = some (.string fo) ∧ W.cell? ⟨t, 4, none⟩ = some (.slice M nM cM) ∧ W.cell? ⟨t, 5, none⟩ = some (.bool z) ∧ (convert 22 9 (.slice A7 n7 c7)).run Tryz.prog W = .ok (.string fo) W := fun W hW => ⟨(hrt7.below hW).cell (j := 3) rfl, (hrt7.below hW).cell (j := 4) rfl, (hrt7.below hW).cell (j := 5) rfl, hcv W hW⟩
      have hD7 : Below w7.heap.size w7 w7.drew := (Below.refl _ _).drew
      have HKD := Lib.hid (hc _ hD7)
      have HC := Lib.hid hc
      clear hc hcv hn7 hn7e hfo hz hR7' hR7 hmu7 hrt7 hB72 hB7 hx7 hPG7 hpost hR5 hR5' hxx5 hB45 hRb hRt hB0 hown1 hBr hB hBw fn1 fn2 fn3 fo1 fo2 fo3 hol hbn HO4 HPG5
      go_wp2_with fail
      refine wp_region_held_drew (S := (fun w' => w'.cell? ⟨t, 3, none⟩ = some (.string fo) ∧ w'.cell? ⟨t, 4, none⟩ = some (.slice M nM cM) ∧ w'.cell? ⟨t, 5, none⟩ = some (.bool z) ∧ (convert 22 9 (.slice A7 n7 c7)).run Tryz.prog w' = .ok (.string fo) w')) (by kernel_rfl) (by first | exact HKD.out | exact HC.out _ (by with_reducible assumption)) (fun hHeld => ?_)
      first
      | (refine wpAnyH_take (i := 0) (v := ?_) rfl (by kernel_rfl) (by kernel_rfl) (by kernel_rfl) (fun _ _ _ h => h) (Or.inl ⟨by rfl, ?_⟩) (by assumption) ?_; rotate_left 1; (focus (intro w hSw; (try dsimp only at hSw); go_simp; (try with_reducible rfl))); (try simp only [Act.put, List.setIfInBounds_toArray, List.set_cons_zero, List.set_cons_succ, List.getElem_toArray, List.getElem_cons_zero, List.getElem_cons_succ]))
      | (refine wpAnyH_take (i := 0) (v := undef) rfl (by kernel_rfl) (by kernel_rfl) (by kernel_rfl) (fun _ _ _ h => h) (Or.inr ⟨by rfl, rfl⟩) (by assumption) ?_; (try simp only [Act.put, List.setIfInBounds_toArray, List.set_cons_zero, List.set_cons_succ, List.getElem_toArray, List.getElem_cons_zero, List.getElem_cons_succ]))
      first
      | (refine wpAnyH_take (i := 1) (v := ?_) rfl (by kernel_rfl) (by kernel_rfl) (by kernel_rfl) (fun _ _ _ h => h) (Or.inl ⟨by rfl, ?_⟩) (by assumption) ?_; rotate_left 1; (focus (intro w hSw; (try dsimp only at hSw); go_simp; (try with_reducible rfl))); (try simp only [Act.put, List.setIfInBounds_toArray, List.set_cons_zero, List.set_cons_succ, List.getElem_toArray, List.getElem_cons_zero, List.getElem_cons_succ]))
      | (refine wpAnyH_take (i := 1) (v := undef) rfl (by kernel_rfl) (by kernel_rfl) (by kernel_rfl) (fun _ _ _ h => h) (Or.inr ⟨by rfl, rfl⟩) (by assumption) ?_; (try simp only [Act.put, List.setIfInBounds_toArray, List.set_cons_zero, List.set_cons_succ, List.getElem_toArray, List.getElem_cons_zero, List.getElem_cons_succ]))
      first
      | (refine wpAnyH_take (i := 2) (v := ?_) rfl (by kernel_rfl) (by kernel_rfl) (by kernel_rfl) (fun _ _ _ h => h) (Or.inl ⟨by rfl, ?_⟩) (by assumption) ?_; rotate_left 1; (focus (intro w hSw; (try dsimp only at hSw); go_simp; (try with_reducible rfl))); (try simp only [Act.put, List.setIfInBounds_toArray, List.set_cons_zero, List.set_cons_succ, List.getElem_toArray, List.getElem_cons_zero, List.getElem_cons_succ]))
      | (refine wpAnyH_take (i := 2) (v := undef) rfl (by kernel_rfl) (by kernel_rfl) (by kernel_rfl) (fun _ _ _ h => h) (Or.inr ⟨by rfl, rfl⟩) (by assumption) ?_; (try simp only [Act.put, List.setIfInBounds_toArray, List.set_cons_zero, List.set_cons_succ, List.getElem_toArray, List.getElem_cons_zero, List.getElem_cons_succ]))
      first
      | (refine wpAnyH_take (i := 3) (v := ?_) rfl (by kernel_rfl) (by kernel_rfl) (by kernel_rfl) (fun _ _ _ h => h) (Or.inl ⟨by rfl, ?_⟩) (by assumption) ?_; rotate_left 1; (focus (intro w hSw; (try dsimp only at hSw); go_simp; (try with_reducible rfl))); (try simp only [Act.put, List.setIfInBounds_toArray, List.set_cons_zero, List.set_cons_succ, List.getElem_toArray, List.getElem_cons_zero, List.getElem_cons_succ]))
      | (refine wpAnyH_take (i := 3) (v := undef) rfl (by kernel_rfl) (by kernel_rfl) (by kernel_rfl) (fun _ _ _ h => h) (Or.inr ⟨by rfl, rfl⟩) (by assumption) ?_; (try simp only [Act.put, List.setIfInBounds_toArray, List.set_cons_zero, List.set_cons_succ, List.getElem_toArray, List.getElem_cons_zero, List.getElem_cons_succ]))
      first
      | (refine wpAnyH_take (i := 4) (v := ?_) rfl (by kernel_rfl) (by kernel_rfl) (by kernel_rfl) (fun _ _ _ h => h) (Or.inl ⟨by rfl, ?_⟩) (by assumption) ?_; rotate_left 1; (focus (intro w hSw; (try dsimp only at hSw); go_simp; (try with_reducible rfl))); (try simp only [Act.put, List.setIfInBounds_toArray, List.set_cons_zero, List.set_cons_succ, List.getElem_toArray, List.getElem_cons_zero, List.getElem_cons_succ]))
      | (refine wpAnyH_take (i := 4) (v := undef) rfl (by kernel_rfl) (by kernel_rfl) (by kernel_rfl) (fun _ _ _ h => h) (Or.inr ⟨by rfl, rfl⟩) (by assumption) ?_; (try simp only [Act.put, List.setIfInBounds_toArray, List.set_cons_zero, List.set_cons_succ, List.getElem_toArray, List.getElem_cons_zero, List.getElem_cons_succ]))
      first
      | (refine wpAnyH_take (i := 5) (v := ?_) rfl (by kernel_rfl) (by kernel_rfl) (by kernel_rfl) (fun _ _ _ h => h) (Or.inl ⟨by rfl, ?_⟩) (by assumption) ?_; rotate_left 1; (focus (intro w hSw; (try dsimp only at hSw); go_simp; (try with_reducible rfl))); (try simp only [Act.put, List.setIfInBounds_toArray, List.set_cons_zero, List.set_cons_succ, List.getElem_toArray, List.getElem_cons_zero, List.getElem_cons_succ]))
      | (refine wpAnyH_take (i := 5) (v := undef) rfl (by kernel_rfl) (by kernel_rfl) (by kernel_rfl) (fun _ _ _ h => h) (Or.inr ⟨by rfl, rfl⟩) (by assumption) ?_; (try simp only [Act.put, List.setIfInBounds_toArray, List.set_cons_zero, List.set_cons_succ, List.getElem_toArray, List.getElem_cons_zero, List.getElem_cons_succ]))
      first
      | (refine wpAnyH_take (i := 6) (v := ?_) rfl (by kernel_rfl) (by kernel_rfl) (by kernel_rfl) (fun _ _ _ h => h) (Or.inl ⟨by rfl, ?_⟩) (by assumption) ?_; rotate_left 1; (focus (intro w hSw; (try dsimp only at hSw); go_simp; (try with_reducible rfl))); (try simp only [Act.put, List.setIfInBounds_toArray, List.set_cons_zero, List.set_cons_succ, List.getElem_toArray, List.getElem_cons_zero, List.getElem_cons_succ]))
      | (refine wpAnyH_take (i := 6) (v := undef) rfl (by kernel_rfl) (by kernel_rfl) (by kernel_rfl) (fun _ _ _ h => h) (Or.inr ⟨by rfl, rfl⟩) (by assumption) ?_; (try simp only [Act.put, List.setIfInBounds_toArray, List.set_cons_zero, List.set_cons_succ, List.getElem_toArray, List.getElem_cons_zero, List.getElem_cons_succ]))
      first
      | (refine wpAnyH_take (i := 7) (v := ?_) rfl (by kernel_rfl) (by kernel_rfl) (by kernel_rfl) (fun _ _ _ h => h) (Or.inl ⟨by rfl, ?_⟩) (by assumption) ?_; rotate_left 1; (focus (intro w hSw; (try dsimp only at hSw); go_simp; (try with_reducible rfl))); (try simp only [Act.put, List.setIfInBounds_toArray, List.set_cons_zero, List.set_cons_succ, List.getElem_toArray, List.getElem_cons_zero, List.getElem_cons_succ]))
      | (refine wpAnyH_take (i := 7) (v := undef) rfl (by kernel_rfl) (by kernel_rfl) (by kernel_rfl) (fun _ _ _ h => h) (Or.inr ⟨by rfl, rfl⟩) (by assumption) ?_; (try simp only [Act.put, List.setIfInBounds_toArray, List.set_cons_zero, List.set_cons_succ, List.getElem_toArray, List.getElem_cons_zero, List.getElem_cons_succ]))
      first
      | (refine wpAnyH_take (i := 8) (v := ?_) rfl (by kernel_rfl) (by kernel_rfl) (by kernel_rfl) (fun _ _ _ h => h) (Or.inl ⟨by rfl, ?_⟩) (by assumption) ?_; rotate_left 1; (focus (intro w hSw; (try dsimp only at hSw); go_simp; (try with_reducible rfl))); (try simp only [Act.put, List.setIfInBounds_toArray, List.set_cons_zero, List.set_cons_succ, List.getElem_toArray, List.getElem_cons_zero, List.getElem_cons_succ]))
      | (refine wpAnyH_take (i := 8) (v := undef) rfl (by kernel_rfl) (by kernel_rfl) (by kernel_rfl) (fun _ _ _ h => h) (Or.inr ⟨by rfl, rfl⟩) (by assumption) ?_; (try simp only [Act.put, List.setIfInBounds_toArray, List.set_cons_zero, List.set_cons_succ, List.getElem_toArray, List.getElem_cons_zero, List.getElem_cons_succ]))
      first
      | (refine wpAnyH_take (i := 10) (v := ?_) rfl (by kernel_rfl) (by kernel_rfl) (by kernel_rfl) (fun _ _ _ h => h) (Or.inl ⟨by rfl, ?_⟩) (by assumption) ?_; rotate_left 1; (focus (intro w hSw; (try dsimp only at hSw); go_simp; (try with_reducible rfl))); (try simp only [Act.put, List.setIfInBounds_toArray, List.set_cons_zero, List.set_cons_succ, List.getElem_toArray, List.getElem_cons_zero, List.getElem_cons_succ]))
      | (refine wpAnyH_take (i := 10) (v := undef) rfl (by kernel_rfl) (by kernel_rfl) (by kernel_rfl) (fun _ _ _ h => h) (Or.inr ⟨by rfl, rfl⟩) (by assumption) ?_; (try simp only [Act.put, List.setIfInBounds_toArray, List.set_cons_zero, List.set_cons_succ, List.getElem_toArray, List.getElem_cons_zero, List.getElem_cons_succ]))
      first
      | (refine wpAnyH_take (i := 11) (v := ?_) rfl (by kernel_rfl) (by kernel_rfl) (by kernel_rfl) (fun _ _ _ h => h) (Or.inl ⟨by rfl, ?_⟩) (by assumption) ?_; rotate_left 1; (focus (intro w hSw; (try dsimp only at hSw); go_simp; (try with_reducible rfl))); (try simp only [Act.put, List.setIfInBounds_toArray, List.set_cons_zero, List.set_cons_succ, List.getElem_toArray, List.getElem_cons_zero, List.getElem_cons_succ]))
      | (refine wpAnyH_take (i := 11) (v := undef) rfl (by kernel_rfl) (by kernel_rfl) (by kernel_rfl) (fun _ _ _ h => h) (Or.inr ⟨by rfl, rfl⟩) (by assumption) ?_; (try simp only [Act.put, List.setIfInBounds_toArray, List.set_cons_zero, List.set_cons_succ, List.getElem_toArray, List.getElem_cons_zero, List.getElem_cons_succ]))
      first
      | (refine wpAnyH_take (i := 12) (v := ?_) rfl (by kernel_rfl) (by kernel_rfl) (by kernel_rfl) (fun _ _ _ h => h) (Or.inl ⟨by rfl, ?_⟩) (by assumption) ?_; rotate_left 1; (focus (intro w hSw; (try dsimp only at hSw); go_simp; (try with_reducible rfl))); (try simp only [Act.put, List.setIfInBounds_toArray, List.set_cons_zero, List.set_cons_succ, List.getElem_toArray, List.getElem_cons_zero, List.getElem_cons_succ]))
      | (refine wpAnyH_take (i := 12) (v := undef) rfl (by kernel_rfl) (by kernel_rfl) (by kernel_rfl) (fun _ _ _ h => h) (Or.inr ⟨by rfl, rfl⟩) (by assumption) ?_; (try simp only [Act.put, List.setIfInBounds_toArray, List.set_cons_zero, List.set_cons_succ, List.getElem_toArray, List.getElem_cons_zero, List.getElem_cons_succ]))
      first
      | (refine wpAnyH_take (i := 13) (v := ?_) rfl (by kernel_rfl) (by kernel_rfl) (by kernel_rfl) (fun _ _ _ h => h) (Or.inl ⟨by rfl, ?_⟩) (by assumption) ?_; rotate_left 1; (focus (intro w hSw; (try dsimp only at hSw); go_simp; (try with_reducible rfl))); (try simp only [Act.put, List.setIfInBounds_toArray, List.set_cons_zero, List.set_cons_succ, List.getElem_toArray, List.getElem_cons_zero, List.getElem_cons_succ]))
      | (refine wpAnyH_take (i := 13) (v := undef) rfl (by kernel_rfl) (by kernel_rfl) (by kernel_rfl) (fun _ _ _ h => h) (Or.inr ⟨by rfl, rfl⟩) (by assumption) ?_; (try simp only [Act.put, List.setIfInBounds_toArray, List.set_cons_zero, List.set_cons_succ, List.getElem_toArray, List.getElem_cons_zero, List.getElem_cons_succ]))
      refine wpAnyH_ready (rs := [9]) (by kernel_rfl) (by simp) ?_
      refine AllReadyH.cons rfl (fun K hK => ?_) AllReadyH.nil
      go_simp
      first
      | (refine hK.out _ _ hHeld (fun hHeld => ?_))
      | (go_wp2_with (first | (go_at_call 10; (with_reducible refine (hml _ (by with_reducible assumption)).mono ?_); rintro e x1 ⟨⟨Am, cm, um, rfl, hma, hmf⟩, hxb⟩; have hx1 := hD7.trans (hxb.mono hD7.size)) | (go_at_call 9; (with_reducible refine (hsm _ hx1 Am cm um hma hmf).mono ?_); rintro e x2 ⟨rfl, hx2d⟩; have hx2 := hx1.trans (hx2d.below _)) | (go_at_call 11; (with_reducible refine (hcl _ hx2).mono ?_); rintro e x3 ⟨rfl, rfl⟩)); refine hK.out _ _ (by first | exact HKD.out | exact HC.out _ (by with_reducible assumption)) (fun hHeld => ?_))
      clear hK K
      (try simp only [Act.put, List.setIfInBounds_toArray, List.set_cons_zero, List.set_cons_succ, List.getElem_toArray, List.getElem_cons_zero, List.getElem_cons_succ])
      refine wpAnyH_ready (rs := [14]) (by kernel_rfl) (by simp) ?_
      refine AllReadyH.cons rfl (fun K hK => ?_) AllReadyH.nil
      go_simp
      first
      | (refine hK.out _ _ hHeld (fun hHeld => ?_))
      | (go_wp2_with (first | (go_at_call 10; (with_reducible refine (hml _ (by with_reducible assumption)).mono ?_); rintro e x1 ⟨⟨Am, cm, um, rfl, hma, hmf⟩, hxb⟩; have hx1 := hD7.trans (hxb.mono hD7.size)) | (go_at_call 9; (with_reducible refine (hsm _ hx1 Am cm um hma hmf).mono ?_); rintro e x2 ⟨rfl, hx2d⟩; have hx2 := hx1.trans (hx2d.below _)) | (go_at_call 11; (with_reducible refine (hcl _ hx2).mono ?_); rintro e x3 ⟨rfl, rfl⟩)); refine hK.out _ _ (by first | exact HKD.out | exact HC.out _ (by with_reducible assumption)) (fun hHeld => ?_))
      clear hK K
      (try simp only [Act.put, List.setIfInBounds_toArray, List.set_cons_zero, List.set_cons_succ, List.getElem_toArray, List.getElem_cons_zero, List.getElem_cons_succ])
      first
      | (refine wpAnyH_take (i := 15) (v := ?_) rfl (by kernel_rfl) (by kernel_rfl) (by kernel_rfl) (fun _ _ _ h => h) (Or.inl ⟨by rfl, ?_⟩) (by assumption) ?_; rotate_left 1; (focus (intro w hSw; (try dsimp only at hSw); go_simp; (try with_reducible rfl))); (try simp only [Act.put, List.setIfInBounds_toArray, List.set_cons_zero, List.set_cons_succ, List.getElem_toArray, List.getElem_cons_zero, List.getElem_cons_succ]))
      | (refine wpAnyH_take (i := 15) (v := undef) rfl (by kernel_rfl) (by kernel_rfl) (by kernel_rfl) (fun _ _ _ h => h) (Or.inr ⟨by rfl, rfl⟩) (by assumption) ?_; (try simp only [Act.put, List.setIfInBounds_toArray, List.set_cons_zero, List.set_cons_succ, List.getElem_toArray, List.getElem_cons_zero, List.getElem_cons_succ]))
      first
      | (refine wpAnyH_take (i := 16) (v := ?_) rfl (by kernel_rfl) (by kernel_rfl) (by kernel_rfl) (fun _ _ _ h => h) (Or.inl ⟨by rfl, ?_⟩) (by assumption) ?_; rotate_left 1; (focus (intro w hSw; (try dsimp only at hSw); go_simp; (try with_reducible rfl))); (try simp only [Act.put, List.setIfInBounds_toArray, List.set_cons_zero, List.set_cons_succ, List.getElem_toArray, List.getElem_cons_zero, List.getElem_cons_succ]))
      | (refine wpAnyH_take (i := 16) (v := undef) rfl (by kernel_rfl) (by kernel_rfl) (by kernel_rfl) (fun _ _ _ h => h) (Or.inr ⟨by rfl, rfl⟩) (by assumption) ?_; (try simp only [Act.put, List.setIfInBounds_toArray, List.set_cons_zero, List.set_cons_succ, List.getElem_toArray, List.getElem_cons_zero, List.getElem_cons_succ]))
      first
      | (refine wpAnyH_take (i := 17) (v := ?_) rfl (by kernel_rfl) (by kernel_rfl) (by kernel_rfl) (fun _ _ _ h => h) (Or.inl ⟨by rfl, ?_⟩) (by assumption) ?_; rotate_left 1; (focus (intro w hSw; (try dsimp only at hSw); go_simp; (try with_reducible rfl))); (try simp only [Act.put, List.setIfInBounds_toArray, List.set_cons_zero, List.set_cons_succ, List.getElem_toArray, List.getElem_cons_zero, List.getElem_cons_succ]))
      | (refine wpAnyH_take (i := 17) (v := undef) rfl (by kernel_rfl) (by kernel_rfl) (by kernel_rfl) (fun _ _ _ h => h) (Or.inr ⟨by rfl, rfl⟩) (by assumption) ?_; (try simp only [Act.put, List.setIfInBounds_toArray, List.set_cons_zero, List.set_cons_succ, List.getElem_toArray, List.getElem_cons_zero, List.getElem_cons_succ]))
      first
      | (refine wpAnyH_take (i := 19) (v := ?_) rfl (by kernel_rfl) (by kernel_rfl) (by kernel_rfl) (fun _ _ _ h => h) (Or.inl ⟨by rfl, ?_⟩) (by assumption) ?_; rotate_left 1; (focus (intro w hSw; (try dsimp only at hSw); go_simp; (try with_reducible rfl))); (try simp only [Act.put, List.setIfInBounds_toArray, List.set_cons_zero, List.set_cons_succ, List.getElem_toArray, List.getElem_cons_zero, List.getElem_cons_succ]))
      | (refine wpAnyH_take (i := 19) (v := undef) rfl (by kernel_rfl) (by kernel_rfl) (by kernel_rfl) (fun _ _ _ h => h) (Or.inr ⟨by rfl, rfl⟩) (by assumption) ?_; (try simp only [Act.put, List.setIfInBounds_toArray, List.set_cons_zero, List.set_cons_succ, List.getElem_toArray, List.getElem_cons_zero, List.getElem_cons_succ]))
      first
      | (refine wpAnyH_take (i := 20) (v := ?_) rfl (by kernel_rfl) (by kernel_rfl) (by kernel_rfl) (fun _ _ _ h => h) (Or.inl ⟨by rfl, ?_⟩) (by assumption) ?_; rotate_left 1; (focus (intro w hSw; (try dsimp only at hSw); go_simp; (try with_reducible rfl))); (try simp only [Act.put, List.setIfInBounds_toArray, List.set_cons_zero, List.set_cons_succ, List.getElem_toArray, List.getElem_cons_zero, List.getElem_cons_succ]))
      | (refine wpAnyH_take (i := 20) (v := undef) rfl (by kernel_rfl) (by kernel_rfl) (by kernel_rfl) (fun _ _ _ h => h) (Or.inr ⟨by rfl, rfl⟩) (by assumption) ?_; (try simp only [Act.put, List.setIfInBounds_toArray, List.set_cons_zero, List.set_cons_succ, List.getElem_toArray, List.getElem_cons_zero, List.getElem_cons_succ]))
      first
      | (refine wpAnyH_take (i := 21) (v := ?_) rfl (by kernel_rfl) (by kernel_rfl) (by kernel_rfl) (fun _ _ _ h => h) (Or.inl ⟨by rfl, ?_⟩) (by assumption) ?_; rotate_left 1; (focus (intro w hSw; (try dsimp only at hSw); go_simp; (try with_reducible rfl))); (try simp only [Act.put, List.setIfInBounds_toArray, List.set_cons_zero, List.set_cons_succ, List.getElem_toArray, List.getElem_cons_zero, List.getElem_cons_succ]))
      | (refine wpAnyH_take (i := 21) (v := undef) rfl (by kernel_rfl) (by kernel_rfl) (by kernel_rfl) (fun _ _ _ h => h) (Or.inr ⟨by rfl, rfl⟩) (by assumption) ?_; (try simp only [Act.put, List.setIfInBounds_toArray, List.set_cons_zero, List.set_cons_succ, List.getElem_toArray, List.getElem_cons_zero, List.getElem_cons_succ]))
      first
      | (refine wpAnyH_take (i := 22) (v := ?_) rfl (by kernel_rfl) (by kernel_rfl) (by kernel_rfl) (fun _ _ _ h => h) (Or.inl ⟨by rfl, ?_⟩) (by assumption) ?_; rotate_left 1; (focus (intro w hSw; (try dsimp only at hSw); go_simp; (try with_reducible rfl))); (try simp only [Act.put, List.setIfInBounds_toArray, List.set_cons_zero, List.set_cons_succ, List.getElem_toArray, List.getElem_cons_zero, List.getElem_cons_succ]))
      | (refine wpAnyH_take (i := 22) (v := undef) rfl (by kernel_rfl) (by kernel_rfl) (by kernel_rfl) (fun _ _ _ h => h) (Or.inr ⟨by rfl, rfl⟩) (by assumption) ?_; (try simp only [Act.put, List.setIfInBounds_toArray, List.set_cons_zero, List.set_cons_succ, List.getElem_toArray, List.getElem_cons_zero, List.getElem_cons_succ]))
      refine wpAnyH_ready (rs := [18]) (by kernel_rfl) (by simp) ?_
      refine AllReadyH.cons rfl (fun K hK => ?_) AllReadyH.nil
      go_simp
      first
      | (refine hK.out _ _ hHeld (fun hHeld => ?_))
      | (go_wp2_with (first | (go_at_call 10; (with_reducible refine (hml _ (by with_reducible assumption)).mono ?_); rintro e x1 ⟨⟨Am, cm, um, rfl, hma, hmf⟩, hxb⟩; have hx1 := hD7.trans (hxb.mono hD7.size)) | (go_at_call 9; (with_reducible refine (hsm _ hx1 Am cm um hma hmf).mono ?_); rintro e x2 ⟨rfl, hx2d⟩; have hx2 := hx1.trans (hx2d.below _)) | (go_at_call 11; (with_reducible refine (hcl _ hx2).mono ?_); rintro e x3 ⟨rfl, rfl⟩)); refine hK.out _ _ (by first | exact HKD.out | exact HC.out _ (by with_reducible assumption)) (fun hHeld => ?_))
      clear hK K
      (try simp only [Act.put, List.setIfInBounds_toArray, List.set_cons_zero, List.set_cons_succ, List.getElem_toArray, List.getElem_cons_zero, List.getElem_cons_succ])
      first
      | (refine wpAnyH_take (i := 23) (v := ?_) rfl (by kernel_rfl) (by kernel_rfl) (by kernel_rfl) (fun _ _ _ h => h) (Or.inl ⟨by rfl, ?_⟩) (by assumption) ?_; rotate_left 1; (focus (intro w hSw; (try dsimp only at hSw); go_simp; (try with_reducible rfl))); (try simp only [Act.put, List.setIfInBounds_toArray, List.set_cons_zero, List.set_cons_succ, List.getElem_toArray, List.getElem_cons_zero, List.getElem_cons_succ]))
      | (refine wpAnyH_take (i := 23) (v := undef) rfl (by kernel_rfl) (by kernel_rfl) (by kernel_rfl) (fun _ _ _ h => h) (Or.inr ⟨by rfl, rfl⟩) (by assumption) ?_; (try simp only [Act.put, List.setIfInBounds_toArray, List.set_cons_zero, List.set_cons_succ, List.getElem_toArray, List.getElem_cons_zero, List.getElem_cons_succ]))
      first
      | (refine wpAnyH_take (i := 24) (v := ?_) rfl (by kernel_rfl) (by kernel_rfl) (by kernel_rfl) (fun _ _ _ h => h) (Or.inl ⟨by rfl, ?_⟩) (by assumption) ?_; rotate_left 1; (focus (intro w hSw; (try dsimp only at hSw); go_simp; (try with_reducible rfl))); (try simp only [Act.put, List.setIfInBounds_toArray, List.set_cons_zero, List.set_cons_succ, List.getElem_toArray, List.getElem_cons_zero, List.getElem_cons_succ]))
      | (refine wpAnyH_take (i := 24) (v := undef) rfl (by kernel_rfl) (by kernel_rfl) (by kernel_rfl) (fun _ _ _ h => h) (Or.inr ⟨by rfl, rfl⟩) (by assumption) ?_; (try simp only [Act.put, List.setIfInBounds_toArray, List.set_cons_zero, List.set_cons_succ, List.getElem_toArray, List.getElem_cons_zero, List.getElem_cons_succ]))
      first
      | (refine wpAnyH_take (i := 25) (v := ?_) rfl (by kernel_rfl) (by kernel_rfl) (by kernel_rfl) (fun _ _ _ h => h) (Or.inl ⟨by rfl, ?_⟩) (by assumption) ?_; rotate_left 1; (focus (intro w hSw; (try dsimp only at hSw); go_simp; (try with_reducible rfl))); (try simp only [Act.put, List.setIfInBounds_toArray, List.set_cons_zero, List.set_cons_succ, List.getElem_toArray, List.getElem_cons_zero, List.getElem_cons_succ]))
      | (refine wpAnyH_take (i := 25) (v := undef) rfl (by kernel_rfl) (by kernel_rfl) (by kernel_rfl) (fun _ _ _ h => h) (Or.inr ⟨by rfl, rfl⟩) (by assumption) ?_; (try simp only [Act.put, List.setIfInBounds_toArray, List.set_cons_zero, List.set_cons_succ, List.getElem_toArray, List.getElem_cons_zero, List.getElem_cons_succ]))
      refine wpAnyH_done (by kernel_rfl) ?_ _
      go_wp2_with fail
      go_ret
      refine ⟨by first | rfl | simp, ?_⟩
      first
      | exact hBw7.trans (hx2.mono hBw7.size)
      | trace_state
end Go.Proofs.YtddjabjloplhiaaGreatDoor
