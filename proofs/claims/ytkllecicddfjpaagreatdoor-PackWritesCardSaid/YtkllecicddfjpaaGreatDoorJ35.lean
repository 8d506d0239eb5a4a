/- The walk of the law, part 35. -/
import Derived.Test.YtkllecicddfjpaaGreatDoorJ34
import Derived.Test.YtkllecicddfjpaaGreatDoorJ31
import Derived.Test.YtkllecicddfjpaaGreatDoorJ30
set_option maxRecDepth 100000
set_option maxHeartbeats 16000000
set_option linter.unusedVariables false
set_option linter.unusedSimpArgs false
namespace Go.Proofs.YtkllecicddfjpaaGreatDoor
section
open Go.RowKit
theorem Mem.setLow {w : World} {base : Nat} {vs : List Ow} {T : List Tl} (h : Mem w base vs T) {a : Addr} (ha : a.block < base) (v : Value) : Mem (w.setCell a v) base vs T := by
 have hx := Ext.setCell (fun k => k = a.block) w a v rfl
 refine ⟨fun o ho => hx.own (h.own o ho) fun k hk e => ?_,h.sep,fun t ht => ⟨hx.own (h.ls t ht).1 fun k hk e => ?_,(h.ls t ht).2⟩⟩
 ·have h1 := ((h.own o ho).lt k hk).1
  have e' : k = a.block := e
  omega
 ·have h1 := ((h.ls t ht).1.lt k hk).1
  have e' : k = a.block := e
  omega
theorem mem_made (w : World) : Mem (w.alloc (.cells #[] 22)) w.heap.size [orr (.slice (some ⟨w.heap.size,0,none⟩) 0 0) [],obs (.slice none 0 0) []] [] :=
 ((Mem.nil w w.heap.size).cons (o' := orr (.slice (some ⟨w.heap.size,0,none⟩) 0 0) []) ((Below.refl _ _).alloc (Nat.le_refl _) (.cells #[] 22)) (OwnM.of (World.ownsRow_made (base := w.heap.size) (e := 22) (size := 1) w #[] 0 (Nat.le_refl _) (by unfold maxLen; omega) rfl)) (fun k hk => by
   unfold nb orr at hk
   simp only [Value.ownBlock] at hk
   simp at hk
   omega)).cons (o' := obs (.slice none 0 0) []) (Below.refl _ _) (OwnM.nil _ _ _ _) (fun k hk => (nb_nil hk).elim)
theorem own_obsN {w : World} {base N : Nat} {v : Value} {l m : List UInt8} (h : OwnM w base 5 1 v (N + m.length) (l.map bv ++ m.map bv)) (hN : l.length = N) :
 OwnM w base (obs v (l ++ m)).e (obs v (l ++ m)).size (obs v (l ++ m)).v (obs v (l ++ m)).n (obs v (l ++ m)).xs := own_obs (m := m) (by rw [hN]; exact h)
theorem map_step {outs : List Mail} {q : Nat} {m : Mail} (h : outs[q]? = some m) {L : List (List UInt8)} (hL : (outs.take q).map mb = L) : (outs.take (q + 1)).map mb = L ++ [mb m] := by
 rw [take_succ_of h,List.map_append,hL]
 rfl
theorem rwm_any (kind : List UInt8) (ms : List (List UInt8 × List UInt8)) (A : Option Addr) (n c : Nat) (B : Option Addr) (cb : Nat) (C : Option Addr) (nq cc deep : Nat) (ps : List Pv) (outs : List Mail) (bd : List UInt8) (w : World)
 (hk : kind.length ≤ 1000) (hmul : Lib.hasPrefix kind mulN = true) (hn : ms.length = n) (hn2 : n ≤ 20) (hp : ∀ p ∈ ms,p.1.length ≤ 2000000 ∧ p.2.length ≤ 2000000) (hlo : ∀ p ∈ ms,Tk.onlyB Tk.loc' p.2 = true) (hA : Rv w A (Tk.pcells ms)) (hr : Tk.rightB kind ms = true)
 (hq : ps.length = nq) (ho : outs.length = nq) (hq1 : 1 ≤ nq) (hq2 : nq ≤ 10) (hC : Rv w C (pvs ps)) (hbd : paramP ms bdN = bd) (hok : bdOk bd = true) (hd : deep < 8)
 (H : ∀ (j : Nat) (p : Pv) (m : Mail),ps[j]? = some p → outs[j]? = some m → ∀ W,Below w.heap.size w W → Calls Tryz.prog 34 #[p.val,.int .i64 ((deep : Int) + 1)] W fun e W' => WOut (.ok m) W' e ∧ Below W.heap.size W W')
 (hw : ∀ m ∈ outs,Fd.rightF m.1 = true ∧ (Fd.foldAll m.1).length ≤ 60000 ∧ m.1.length ≤ 200 ∧ m.2.length ≤ 30000 ∧ mb m = Fd.foldAll m.1 ++ [13,10] ++ m.2 ∧ (mb m).length ≤ 9500)
 (hsp : splitS (bodyJ bd (outs.map mb)) bd = (outs.map mb,0)) (hrf : Fd.rightF [(ctN,Tk.writeB kind ms)] = true) (hfl : (Fd.foldAll [(ctN,Tk.writeB kind ms)]).length ≤ 60000) :
 Calls Tryz.prog 34 #[.agg #[.string (bs kind),.slice A n c,.int .i64 0,.slice B 0 cb,.slice C nq cc],.int .i64 (deep : Int)] w fun e w' => WOut (.ok ([(ctN,Tk.writeB kind ms)],bodyJ bd (outs.map mb))) w' e ∧ Below w.heap.size w w' := by
 have HN := Lib.hid hn
 have HQ := Lib.hid hq
 have HO := Lib.hid ho
 have HR := Lib.hid hr
 have HM := Lib.hid hmul
 have HBD := Lib.hid hbd
 have HOK := Lib.hid hok
 have HSP := Lib.hid hsp
 have hbl : bd.length ≤ 70 := by
  have h := hok
  unfold bdOk at h
  simp only [Bool.and_eq_true,decide_eq_true_eq] at h
  exact h.1.2
 obtain ⟨wv,hwv⟩ : ∃ x,Tk.writeB kind ms = x := ⟨_,rfl⟩
 rw [hwv] at hrf hfl ⊢
 have HWV := Lib.hid hwv
 have HRF := Lib.hid hrf
 have HFL := Lib.hid hfl
 clear hn hq ho hr hmul hbd hok hsp hwv hrf hfl
 have hpu : ∀ W,Sem.run Tryz.prog (pure #[] : Sem (Array Value)) W = .ok #[] W := fun _ => rfl
 have hst : ∀ a W,Sem.run Tryz.prog (storeCells a []) W = .ok () W := fun _ _ => rfl
 have hB00 : Below w.heap.size w (w.alloc (.cells #[.string (bs kind),.slice A n c,.int .i64 0,.slice B 0 cb,.slice C nq cc] 34)) := (Below.refl _ _).alloc (Nat.le_refl _) _
 have hB0 : Below w.heap.size w ((w.alloc (.cells #[.string (bs kind),.slice A n c,.int .i64 0,.slice B 0 cb,.slice C nq cc] 34)).alloc (.cells #[.slice none 0 0,.slice none 0 0] 39)) := hB00.alloc hB00.size _
 have rp := (Row.new w #[.string (bs kind),.slice A n c,.int .i64 0,.slice B 0 cb,.slice C nq cc] 34).below ((Below.refl _ (w.alloc (.cells #[.string (bs kind),.slice A n c,.int .i64 0,.slice B 0 cb,.slice C nq cc] 34))).alloc (Nat.le_refl _) (.cells #[.slice none 0 0,.slice none 0 0] 39))
 have rl := Row.new (w.alloc (.cells #[.string (bs kind),.slice A n c,.int .i64 0,.slice B 0 cb,.slice C nq cc] 34)) #[.slice none 0 0,.slice none 0 0] 39
 rw [World.size_alloc] at rl
 have hz0 : w.heap.size + 2 ≤ ((w.alloc (.cells #[.string (bs kind),.slice A n c,.int .i64 0,.slice B 0 cb,.slice C nq cc] 34)).alloc (.cells #[.slice none 0 0,.slice none 0 0] 39)).heap.size := by simp
 go_enter Tryz.func34,Tryz.ntmps34
 go_wp2_with fail
 generalize ((w.alloc (.cells #[.string (bs kind),.slice A n c,.int .i64 0,.slice B 0 cb,.slice C nq cc] 34)).alloc (.cells #[.slice none 0 0,.slice none 0 0] 39)) = W0 at *
 clear hB00
 refine (Tk.W.rright_any kind A ms n c W0 hk HN.out (hA.below hB0) (by omega) (fun p h => by have := hp p h; omega) HR.out).mono ?_
 rintro e w1 ⟨rfl,hb1⟩
 have hB1 := hB0.trans (hb1.mono hB0.size)
 have rp1 := rp.below hb1
 have rl1 := rl.below hb1
 have hz1 : w.heap.size + 2 ≤ w1.heap.size := Nat.le_trans hz0 hb1.size
 clear rp rl hb1 hB0 hz0
 have k0 := rp1.cell (j := 0) rfl
 have k1 := rp1.cell (j := 1) rfl
 go_wp2_with fail
 refine (Tk.W.rwrite_any kind A ms n c w1 hk HN.out hn2 hp (hA.below hB1) hlo).mono ?_
 rintro e w2 ⟨rfl,hb2⟩
 rw [HWV.out]
 have hB2 := hB1.trans (hb2.mono hB1.size)
 have rp2 := rp1.below hb2
 have rl2 := rl1.below hb2
 have hz2 : w.heap.size + 2 ≤ w2.heap.size := Nat.le_trans hz1 hb2.size
 clear rp1 rl1 hb2 hB1 hz1 k0 k1
 have hbF : Below w2.heap.size w2 (w2.alloc (.cells #[.string ⟨#[67,111,110,116,101,110,116,45,84,121,112,101]⟩,.string (bs wv)] 73)) := (Below.refl _ _).alloc (Nat.le_refl _) _
 have hbG : Below w2.heap.size w2 ((w2.alloc (.cells #[.string ⟨#[67,111,110,116,101,110,116,45,84,121,112,101]⟩,.string (bs wv)] 73)).alloc (.cells #[.slice (some ⟨w2.heap.size,0,none⟩) 1 1,.slice none 0 0] 39)) := hbF.alloc (by simp) _
 have rp3 := rp2.below hbG
 have rl3 := rl2.below hbG
 have hB3 := hB2.trans (hbG.mono hB2.size)
 have k0 := rp3.cell (j := 0) rfl
 have rL := Row.new (w2.alloc (.cells #[.string ⟨#[67,111,110,116,101,110,116,45,84,121,112,101]⟩,.string (bs wv)] 73)) #[.slice (some ⟨w2.heap.size,0,none⟩) 1 1,.slice none 0 0] 39
 rw [World.size_alloc] at rL
 have hfr : Fd.Rf ((w2.alloc (.cells #[.string ⟨#[67,111,110,116,101,110,116,45,84,121,112,101]⟩,.string (bs wv)] 73)).alloc (.cells #[.slice (some ⟨w2.heap.size,0,none⟩) 1 1,.slice none 0 0] 39)) (some ⟨w2.heap.size,0,none⟩) [(ctN,wv)] := Rv.below (show Rv (w2.alloc (.cells #[.string ⟨#[67,111,110,116,101,110,116,45,84,121,112,101]⟩,.string (bs wv)] 73)) (some ⟨w2.heap.size,0,none⟩) [Fd.strv ctN,Fd.strv wv] from Rv_new w2 _ _ _ rfl) ((Below.refl _ _).alloc (Nat.le_refl _) _)
 have hz3 : w2.heap.size + 2 ≤ ((w2.alloc (.cells #[.string ⟨#[67,111,110,116,101,110,116,45,84,121,112,101]⟩,.string (bs wv)] 73)).alloc (.cells #[.slice (some ⟨w2.heap.size,0,none⟩) 1 1,.slice none 0 0] 39)).heap.size := by simp
 go_wp2_with fail
 refine (rmul_any kind _ (by omega)).mono ?_
 rintro e w' ⟨rfl,hw'⟩
 rw [hw',HM.out]
 clear hw' k0
 obtain ⟨W3,hW3⟩ : ∃ W,((w2.alloc (.cells #[.string ⟨#[67,111,110,116,101,110,116,45,84,121,112,101]⟩,.string (bs wv)] 73)).alloc (.cells #[.slice (some ⟨w2.heap.size,0,none⟩) 1 1,.slice none 0 0] 39)) = W := ⟨_,rfl⟩
 rw [hW3] at rp3 rl3 hB3 rL hfr hz3 ⊢
 clear hW3 hbF hbG rp2 rl2 hB2
 have k1 := rp3.cell (j := 1) rfl
 go_wp2_with fail
 refine (rparam_any A ms bdN n c W3 HN.out (hA.below hB3) (by omega)).mono ?_
 rintro e w' ⟨rfl,hw'⟩
 rw [hw',HBD.out]
 clear hw' k1
 have k2 := rp3.cell (j := 2) rfl
 have k3 := rp3.cell (j := 3) rfl
 have k4 := rp3.cell (j := 4) rfl
 have t0 : ((nq : Int) == 0) = false := by rw [beq_eq_false_iff_ne]; omega
 have h8i : ¬ (8 : Int) ≤ (deep : Int) := by omega
 have hwr : IntKind.i64.wrap ((deep : Int) + 1) = (deep : Int) + 1 := by rw [IntKind.wrap_i64] <;> omega
 go_wp2_with fail
 refine (rboundary_any bd W3 (by omega)).mono ?_
 rintro e w' ⟨rfl,hw'⟩
 rw [← hw',HOK.out]
 clear hw'
 go_wp2_with fail
 clear k2 k3 k4 t0 h8i
 have hmade := mem_made W3
 have hBm : Below (w2.heap.size + 1) W3 (W3.alloc (.cells #[] 22)) := (Below.refl _ _).alloc (by omega) _
 have rLm := rL.alloc (.cells #[] 22)
 have hszm : W3.heap.size ≤ (W3.alloc (.cells #[] 22)).heap.size := by simp
 have hLlt : w2.heap.size + 1 < W3.heap.size := by omega
 obtain ⟨MB,hMB⟩ : ∃ x,W3.heap.size = x := ⟨_,rfl⟩
 have HMB := Lib.hid hMB
 rw [hMB] at hmade hszm hLlt hz3 ⊢
 clear hMB
 go_loopw [8,9] (fun s8 s9 wr => ∃ (q : Nat) (ts : List Tl) (o : List UInt8) (vb : Value),s9 = .int .i64 (q : Int) ∧ q ≤ nq ∧ Hid (ts.length = q) ∧ Hid ((outs.take q).map mb = ts.map (·.1)) ∧ Hid (o = bld bd (ts.map (·.1))) ∧ o.length ≤ q * 9600 ∧ Hid (Mem wr MB [orr s8 ts,obs vb o] ts) ∧ Row wr (w2.heap.size + 1) 39 [.slice (some ⟨w2.heap.size,0,none⟩) 1 1,vb] ∧ Below (w2.heap.size + 1) W3 wr ∧ MB ≤ wr.heap.size) (fun _ i _ => nq - (intOf i).toNat)
 case atStart => exact ⟨0,[],[],_,rfl,Nat.zero_le _,Lib.hid rfl,Lib.hid (by simp),Lib.hid rfl,by simp,Lib.hid hmade,rLm,hBm,hszm⟩
 case round =>
  clear hmade rLm hBm hszm
  obtain ⟨q,ts,o,vb,rfl,hql,htq,HMM,HOO,hol,hmm,rLr,hB,hs⟩ := hrel
  have htl : ts.length ≤ nq := by rw [htq.out]; exact hql
  obtain ⟨Am,cm,hmv,hmc,_,_,_,_,_⟩ := (hmm.out.get (i := 0) rfl).form
  obtain ⟨Ao,co,hov,hoc,_,_,_,_,_⟩ := (hmm.out.get (i := 1) rfl).form
  simp only [orr,obs] at hmv hmc hov hoc
  subst hmv hov
  have hBw : Below w.heap.size w wr := hB3.trans (hB.mono (by omega))
  have rpr : Row wr w.heap.size 34 [.string (bs kind),.slice A n c,.int .i64 0,.slice B 0 cb,.slice C nq cc] := rp3.block (hB.block _ (by omega))
  have z4 := rpr.cell (j := 4) rfl
  by_cases hlt : q < nq
  ·obtain ⟨p,hp1⟩ : ∃ p,ps[q]? = some p := ⟨_,List.getElem?_eq_getElem (by rw [HQ.out]; exact hlt)⟩
   obtain ⟨m,hm1⟩ : ∃ m,outs[q]? = some m := ⟨_,List.getElem?_eq_getElem (by rw [HO.out]; exact hlt)⟩
   obtain ⟨b,oo,rfl,hcell⟩ := (hC.below hBw) (by rw [pvs_len,HQ.out]; omega)
   have k0 : wr.cell? ⟨b,oo + q * 5,none⟩ = some (.string (bs p.k)) := by have := hcell _ _ ((pvs_get hp1 0 (by omega)).trans rfl); rwa [← Nat.add_assoc] at this
   have k1 : wr.cell? ⟨b,oo + q * 5 + 1,none⟩ = some (.slice p.A p.n p.c) := by have := hcell _ _ ((pvs_get hp1 1 (by omega)).trans rfl); rwa [← Nat.add_assoc] at this
   have k2 : wr.cell? ⟨b,oo + q * 5 + 2,none⟩ = some (.int .i64 p.code) := by have := hcell _ _ ((pvs_get hp1 2 (by omega)).trans rfl); rwa [← Nat.add_assoc] at this
   have k3 : wr.cell? ⟨b,oo + q * 5 + 3,none⟩ = some (.slice p.B p.nb p.cb) := by have := hcell _ _ ((pvs_get hp1 3 (by omega)).trans rfl); rwa [← Nat.add_assoc] at this
   have k4 : wr.cell? ⟨b,oo + q * 5 + 4,none⟩ = some (.slice p.C p.nq p.cc) := by have := hcell _ _ ((pvs_get hp1 4 (by omega)).trans rfl); rwa [← Nat.add_assoc] at this
   have hcall := H q p m hp1 hm1 wr hBw
   simp only [Pv.val] at hcall
   obtain ⟨w1',w2',w3',w4',w5',w6'⟩ := hw m (List.mem_of_getElem? hm1)
   have HMS := Lib.hid (map_step hm1 HMM.out)
   clear hp1 hm1 hcell
   go_wp2_with fail
   refine hcall.mono ?_
   rintro e x3 ⟨⟨LA,lc,LB,lc2,rfl,hRf,hRb,h2c,h2m,hplB⟩,hb3⟩
   clear hcall k0 k1 k2 k3 k4 z4
   obtain ⟨fs,bdy⟩ := m
   simp only at w1' w2' w3' w4' w5' w6' hRf hRb h2c
   obtain ⟨mm,hmm2⟩ : ∃ x,mb (fs,bdy) = x := ⟨_,rfl⟩
   rw [hmm2] at w5' w6' HMS
   obtain ⟨nf,hnf⟩ : ∃ x,fs.length = x := ⟨_,rfl⟩
   obtain ⟨nbd,hnbd⟩ : ∃ x,bdy.length = x := ⟨_,rfl⟩
   have HNF := Lib.hid hnf
   have HNBD := Lib.hid hnbd
   simp only [hnf,hnbd] at h2c w3' w4' ⊢
   have hax : Below x3.heap.size x3 (x3.alloc (.cells #[.slice LA nf lc,.slice LB nbd lc2] 39)) := (Below.refl _ _).alloc (Nat.le_refl _) _
   have hlw := Fd.rlw_any LA LB fs bdy nf lc nbd lc2 (x3.alloc (.cells #[.slice LA nf lc,.slice LB nbd lc2] 39)) HNF.out HNBD.out (Rv.below hRf hax) (hRb.below hax) w1' w2' w3' (by omega)
   rw [← w5'] at hlw
   clear hmm2 hnf hnbd hRf hRb w5' w1' w2'
   go_wp2_with fail
   refine hlw.mono ?_
   rintro e w4 ⟨⟨v4,rfl,hv4⟩,hb4⟩
   obtain ⟨A4,c4,rfl,h4c,h4m,hR4,h4l⟩ := own_slice hv4
   have hbx : Below wr.heap.size wr w4 := hb3.trans ((hax.trans (hb4.mono hax.size)).mono hb3.size)
   have hB4 : Below (w2.heap.size + 1) W3 w4 := hB.trans (hbx.mono (by omega))
   have rL4 := rLr.below hbx
   have hs4 : MB ≤ w4.heap.size := Nat.le_trans hs hbx.size
   have hwx : wr.heap.size ≤ (x3.alloc (.cells #[.slice LA nf lc,.slice LB nbd lc2] 39)).heap.size := Nat.le_trans hb3.size hax.size
   have hm5 := hmm.out.add (v := .slice A4 mm.length c4) (l := mm) hbx (OwnM.of (own_base hv4 (Nat.le_trans hs hwx))) (fun k hk => Nat.le_trans hwx ((OwnM.of hv4).lt k hk).1)
   clear hbx hb3 hb4 hax hlw hB rLr hv4 hR4 hwx
   have hal5 : Below w4.heap.size w4 (w4.alloc (.cells #[.slice A4 mm.length c4] 22)) := (Below.refl _ _).alloc (Nat.le_refl _) _
   have hm6 := hm5.below hal5
   have hO1 : OwnM (w4.alloc (.cells #[.slice A4 mm.length c4] 22)) MB 22 1 (.slice Am ts.length cm) ts.length (ts.map (·.2)) := hm6.get (i := 0) rfl
   have hrv1 : Rv (w4.alloc (.cells #[.slice A4 mm.length c4] 22)) (some ⟨w4.heap.size,0,none⟩) [.slice A4 mm.length c4] := Rv_new w4 _ _ _ rfl
   have hone1 : ∀ u ∈ [Value.slice A4 mm.length c4],u.oneCell' = true := by simp [Value.oneCell']
   have hnl1 : [Value.slice A4 mm.length c4].length = 1 * 1 := rfl
   have hbd1 : (ts.length + 1) * 24 ≤ 140737488355328 := by omega
   have hB6 : Below (w2.heap.size + 1) W3 (w4.alloc (.cells #[.slice A4 mm.length c4] 22)) := hB4.alloc (by omega) _
   have rL6 := rL4.alloc (.cells #[.slice A4 mm.length c4] 22)
   have hs6 : MB ≤ (w4.alloc (.cells #[.slice A4 mm.length c4] 22)).heap.size := Nat.le_trans hs4 hal5.size
   go_upto_region 19 with (at_builtin; refine wpList_appM rfl _ _ _ _ rfl TBs hO1 rfl (Src_rv Tryz.underlying66 hnl1 hrv1 hone1 Nat.one_pos) rfl hbd1 hs6 ?_; intro v7 W7 own7 gr7 at7; have hb67 := below_appM (Below.refl MB _) hO1 gr7 hs6 (Nat.le_refl _); have hB7 := hB6.trans (hb67.mono (by omega)); have hm7 := hm6.upd (i := 0) (o' := orr v7 (ts ++ [(mm,Value.slice A4 mm.length c4)])) rfl (Ext.of_grown (S := fun k => nb (Value.slice Am ts.length cm) k) gr7 (fun k e => e)) (own_orr own7) (fun k hk => at_new at7 hk); have rL7 := rL6.block (hb67.block _ hLlt); have hs7 := Nat.le_trans hs6 hb67.size)
   have hO7 : OwnM W7 MB 5 1 (.slice Ao o.length co) o.length (o.map bv) := hm7.get (i := 1) rfl
   simp only [List.set_cons_zero] at hm7
   clear hm5 hal5 hm6 hO1 hrv1 hone1 hnl1 hbd1 hB6 rL6 hs6 own7 gr7 at7 hb67 hB4 rL4 hs4
   obtain ⟨X1,hX1⟩ : ∃ x,[45,45] ++ bd ++ [13,10] = x := ⟨_,rfl⟩
   have hX1l : X1.length ≤ 74 := by rw [← hX1]; simp; omega
   have hsr1 : ∀ W,Src Tryz.prog 1 9 (.string ((⟨#[45,45]⟩ : ByteArray) ++ bs bd ++ ⟨#[13,10]⟩)) X1.length (X1.map bv) W := fun W => by
    have e : (⟨#[45,45]⟩ : ByteArray) ++ bs bd ++ ⟨#[13,10]⟩ = bs X1 := by rw [← hX1,show (⟨#[45,45]⟩ : ByteArray) = bs [45,45] from rfl,show (⟨#[13,10]⟩ : ByteArray) = bs [13,10] from rfl,bs_add,bs_add]
    rw [e]
    exact Src_str Tryz.underlying9 X1
   have hbld : Hid (o ++ X1 ++ mm ++ [13,10] = bld bd ((ts ++ [(mm,Value.slice A4 mm.length c4)]).map (·.1))) := Lib.hid (by
    rw [HOO.out,List.map_append,← hX1]
    exact (bldJ_snoc bd _ _).symm)
   have hms2 : Hid ((outs.take (q + 1)).map mb = (ts ++ [(mm,Value.slice A4 mm.length c4)]).map (·.1)) := Lib.hid (by rw [HMS.out,List.map_append]; rfl)
   have HX1 := Lib.hid hX1
   clear hX1 HMS HOO
   have hx1 : (o.length + X1.length) * 1 ≤ 140737488355328 := by omega
   have y1 := rL7.cell (j := 1) rfl
   go_upto_region 20 with (at_builtin; refine wpList_appM rfl _ _ _ _ rfl TU8 hO7 rfl (hsr1 _) rfl hx1 hs7 ?_; intro v8 W8 own8 gr8 at8; obtain ⟨A8,c8,hv8,_,_,_,_⟩ := own8.form; subst hv8; have hb78 := below_appM (Below.refl MB _) hO7 gr8 hs7 (Nat.le_refl _); have hB8 := hB7.trans (hb78.mono (by omega)); have hm8 := hm7.upd (i := 1) (o' := obs (.slice A8 (o.length + X1.length) c8) (o ++ X1)) rfl (Ext.of_grown (S := fun k => nb (Value.slice Ao o.length co) k) gr8 (fun k e => e)) (own_obs (m := X1) own8) (fun k hk => at_new at8 hk); have rL8 := rL7.block (hb78.block _ hLlt); have hs8 := Nat.le_trans hs7 hb78.size; have y8 := rL8.cell (j := 1) rfl; have f8 := rL8.frozen 1)
   have hm8' := hm8.setLow (a := ⟨w2.heap.size + 1,1,none⟩) hLlt (.slice A8 (o.length + X1.length) c8)
   have rL8' := rL8.set 1 (.slice A8 (o.length + X1.length) c8)
   have hB8' := hB8.setCell (p := ⟨w2.heap.size + 1,1,none⟩) (Nat.le_refl _) (.slice A8 (o.length + X1.length) c8)
   have hs8' : MB ≤ (W8.setCell ⟨w2.heap.size + 1,1,none⟩ (.slice A8 (o.length + X1.length) c8)).heap.size := by rw [World.size_setCell]; exact hs8
   clear hm8 rL8 hB8 hs8 y8 f8 own8 gr8 at8 hb78 hm7 hO7 rL7 hB7 hs7 y1 hsr1 hx1
   simp only [List.set_cons_zero,List.set_cons_succ] at hm8'
   obtain ⟨V8,hV8⟩ : ∃ V,(W8.setCell ⟨w2.heap.size + 1,1,none⟩ (.slice A8 (o.length + X1.length) c8)) = V := ⟨_,rfl⟩
   rw [hV8] at hm8' rL8' hB8' hs8' ⊢
   clear hV8
   obtain ⟨O8,hO8e⟩ : ∃ x,o ++ X1 = x := ⟨_,rfl⟩
   obtain ⟨N8,hN8e⟩ : ∃ x,o.length + X1.length = x := ⟨_,rfl⟩
   have hN8 : O8.length = N8 := by rw [← hO8e,List.length_append,hN8e]
   have hN8b : N8 ≤ o.length + 74 := by omega
   rw [hO8e] at hm8' hbld
   rw [hN8e] at hm8' rL8' ⊢
   have HN8 := Lib.hid hN8
   have HO8 := Lib.hid hO8e
   clear hO8e hN8e hX1l
   have hO8 : OwnM V8 MB 5 1 (.slice A8 N8 c8) N8 (O8.map bv) := by
    have h := hm8'.get (i := 1) rfl
    simp only [obs] at h
    rw [hN8] at h
    exact h
   have hr8 := (hm8'.ls _ (List.mem_append_right ts (List.mem_singleton.2 rfl))).1
   clear hN8
   have hx2 : (N8 + mm.length) * 1 ≤ 140737488355328 := by omega
   have y1 := rL8'.cell (j := 1) rfl
   go_upto_region 21 with (at_builtin; refine wpList_appM rfl _ _ _ _ rfl TU8 hO8 rfl (Src_rb Tryz.underlying22 rfl (own_rvM hr8)) rfl hx2 hs8' ?_; intro v9 W9 own9 gr9 at9; obtain ⟨A9,c9,hv9,_,_,_,_⟩ := own9.form; subst hv9; have hb89 := below_appM (Below.refl MB _) hO8 gr9 hs8' (Nat.le_refl _); have hB9 := hB8'.trans (hb89.mono (by omega)); have hm9 := hm8'.upd (i := 1) (o' := obs (.slice A9 (N8 + mm.length) c9) (O8 ++ mm)) rfl (Ext.of_grown (S := fun k => nb (Value.slice A8 N8 c8) k) gr9 (fun k e => e)) (own_obsN own9 HN8.out) (fun k hk => at_new at9 hk); have rL9 := rL8'.block (hb89.block _ hLlt); have hs9 := Nat.le_trans hs8' hb89.size; have y9 := rL9.cell (j := 1) rfl; have f9 := rL9.frozen 1)
   have hm9' := hm9.setLow (a := ⟨w2.heap.size + 1,1,none⟩) hLlt (.slice A9 (N8 + mm.length) c9)
   have rL9' := rL9.set 1 (.slice A9 (N8 + mm.length) c9)
   have hB9' := hB9.setCell (p := ⟨w2.heap.size + 1,1,none⟩) (Nat.le_refl _) (.slice A9 (N8 + mm.length) c9)
   have hs9' : MB ≤ (W9.setCell ⟨w2.heap.size + 1,1,none⟩ (.slice A9 (N8 + mm.length) c9)).heap.size := by rw [World.size_setCell]; exact hs9
   clear hm9 rL9 hB9 hs9 y9 f9 own9 gr9 at9 hb89 hm8' hO8 hr8 rL8' hB8' hs8' y1 hx2
   simp only [List.set_cons_zero,List.set_cons_succ] at hm9'
   obtain ⟨V9,hV9⟩ : ∃ V,(W9.setCell ⟨w2.heap.size + 1,1,none⟩ (.slice A9 (N8 + mm.length) c9)) = V := ⟨_,rfl⟩
   rw [hV9] at hm9' rL9' hB9' hs9' ⊢
   clear hV9
   obtain ⟨O9,hO9e⟩ : ∃ x,O8 ++ mm = x := ⟨_,rfl⟩
   obtain ⟨N9,hN9e⟩ : ∃ x,N8 + mm.length = x := ⟨_,rfl⟩
   have hN9 : O9.length = N9 := by rw [← hO9e,List.length_append,HN8.out,hN9e]
   have hN9b : N9 ≤ o.length + 74 + 9500 := by omega
   rw [hO9e] at hm9' hbld
   rw [hN9e] at hm9' rL9' ⊢
   have HN9 := Lib.hid hN9
   clear hO9e hN9e
   have hal9 : Below V9.heap.size V9 (V9.alloc (.cells #[.int .u8 13,.int .u8 10] 5)) := (Below.refl _ _).alloc (Nat.le_refl _) _
   have hmA := hm9'.below hal9
   have hO9 : OwnM (V9.alloc (.cells #[.int .u8 13,.int .u8 10] 5)) MB 5 1 (.slice A9 N9 c9) N9 (O9.map bv) := by
    have h := hmA.get (i := 1) rfl
    simp only [obs] at h
    rw [hN9] at h
    exact h
   have hsrc9 : Src Tryz.prog 1 22 (.slice (some ⟨V9.heap.size,0,none⟩) 2 2) 2 ([13,10].map bv) (V9.alloc (.cells #[.int .u8 13,.int .u8 10] 5)) := Src_rb Tryz.underlying22 rfl (by have h := Rb_new V9 [13,10] 5 #[.int .u8 13,.int .u8 10] rfl 2; exact h)
   have rLA := rL9'.alloc (.cells #[.int .u8 13,.int .u8 10] 5)
   have hBA := hB9'.alloc (by omega) (.cells #[.int .u8 13,.int .u8 10] 5)
   have hsA : MB ≤ (V9.alloc (.cells #[.int .u8 13,.int .u8 10] 5)).heap.size := Nat.le_trans hs9' hal9.size
   have hx3 : (N9 + 2) * 1 ≤ 140737488355328 := by omega
   have y1 := rL9'.cell (j := 1) rfl
   clear hN9
   go_upto_region 13 with (at_builtin; refine wpList_appM rfl _ _ _ _ rfl TU8 hO9 rfl hsrc9 rfl hx3 hsA ?_; intro v10 W10 own10 gr10 at10; obtain ⟨A10,c10,hv10,_,_,_,_⟩ := own10.form; subst hv10; have hb910 := below_appM (Below.refl MB _) hO9 gr10 hsA (Nat.le_refl _); have hB10 := hBA.trans (hb910.mono (by omega)); have hm10 := hmA.upd (i := 1) (o' := obs (.slice A10 (N9 + 2) c10) (O9 ++ [13,10])) rfl (Ext.of_grown (S := fun k => nb (Value.slice A9 N9 c9) k) gr10 (fun k e => e)) (own_obsN (m := [13,10]) own10 HN9.out) (fun k hk => at_new at10 hk); have rL10 := rLA.block (hb910.block _ hLlt); have hs10 := Nat.le_trans hsA hb910.size; have y10 := rL10.cell (j := 1) rfl; have f10 := rL10.frozen 1)
   have hm10' := hm10.setLow (a := ⟨w2.heap.size + 1,1,none⟩) hLlt (.slice A10 (N9 + 2) c10)
   have rL10' := rL10.set 1 (.slice A10 (N9 + 2) c10)
   have hB10' := hB10.setCell (p := ⟨w2.heap.size + 1,1,none⟩) (Nat.le_refl _) (.slice A10 (N9 + 2) c10)
   have hs10' : MB ≤ (W10.setCell ⟨w2.heap.size + 1,1,none⟩ (.slice A10 (N9 + 2) c10)).heap.size := by rw [World.size_setCell]; exact hs10
   simp only [List.set_cons_zero,List.set_cons_succ] at hm10'
   have hol2 : (O9 ++ [13,10]).length ≤ (q + 1) * 9600 := by
    rw [List.length_append,HN9.out]
    simp only [List.length_cons,List.length_nil]
    omega
   clear hm10 rL10 hB10 hs10 y10 f10 own10 gr10 at10 hb910 hmA hO9 hsrc9 rLA hBA hsA hx3 y1 hal9 hm9' rL9' hB9' hs9'
   obtain ⟨V10,hV10⟩ : ∃ V,(W10.setCell ⟨w2.heap.size + 1,1,none⟩ (.slice A10 (N9 + 2) c10)) = V := ⟨_,rfl⟩
   rw [hV10] at hm10' rL10' hB10' hs10' ⊢
   clear hV10
   go_wp2_with fail
   go_roundw
   case rel => exact ⟨q + 1,ts ++ [(mm,Value.slice A4 mm.length c4)],O9 ++ [13,10],.slice A10 (N9 + 2) c10,by go_num,by omega,Lib.hid (by simp [htq.out]),hms2,hbld,hol2,Lib.hid hm10',rL10',hB10',hs10'⟩
   case measure => simp [intOf]; omega
  ·obtain rfl : q = nq := by omega
   have hall : outs.map mb = ts.map (·.1) := by
    have h := HMM.out
    rwa [List.take_of_length_le (by rw [HO.out]; exact Nat.le_refl _)] at h
   obtain ⟨LL,hLL⟩ : ∃ x,outs.map mb = x := ⟨_,rfl⟩
   have HLL := Lib.hid (show ts.map (·.1) = LL by rw [← hall,hLL])
   have HLN := Lib.hid (show LL.length = q by rw [← hLL,List.length_map,HO.out])
   have hsp := HSP.out
   rw [hLL] at hsp
   have HLM := Lib.hid hLL
   obtain ⟨X2,hX2⟩ : ∃ x,[45,45] ++ bd ++ [45,45,13,10] = x := ⟨_,rfl⟩
   have hX2l : X2.length ≤ 76 := by rw [← hX2]; simp; omega
   have hsr2 : ∀ W,Src Tryz.prog 1 9 (.string ((⟨#[45,45]⟩ : ByteArray) ++ bs bd ++ ⟨#[45,45,13,10]⟩)) X2.length (X2.map bv) W := fun W => by
    have e : (⟨#[45,45]⟩ : ByteArray) ++ bs bd ++ ⟨#[45,45,13,10]⟩ = bs X2 := by
     rw [← hX2,show (⟨#[45,45]⟩ : ByteArray) = bs [45,45] from rfl,show (⟨#[45,45,13,10]⟩ : ByteArray) = bs [45,45,13,10] from rfl,bs_add,bs_add]
    rw [e]
    exact Src_str Tryz.underlying9 X2
   obtain ⟨Y,hY⟩ : ∃ x,o ++ X2 = x := ⟨_,rfl⟩
   have hYJ : bodyJ bd LL = Y := by rw [← hY,HOO.out,← hX2,HLL.out]; rfl
   rw [hYJ] at hsp
   have HYJ := Lib.hid hYJ
   obtain ⟨nY,hnY⟩ : ∃ x,o.length + X2.length = x := ⟨_,rfl⟩
   have hYl : Y.length = nY := by rw [← hY,List.length_append,hnY]
   have HYL := Lib.hid hYl
   have HY := Lib.hid hY
   have HS2 := Lib.hid hsp
   have hO7 : OwnM wr MB 5 1 (.slice Ao o.length co) o.length (o.map bv) := hmm.out.get (i := 1) rfl
   have hx1 : (o.length + X2.length) * 1 ≤ 140737488355328 := by omega
   have hnYb : nY ≤ 100000 := by omega
   have y1 := rLr.cell (j := 1) rfl
   have HNY := Lib.hid hnY
   clear hX2 hall hLL hsp HMM HOO hY hYJ hYl hnY
   go_upto_region 23 with (at_builtin; refine wpList_appM rfl _ _ _ _ rfl TU8 hO7 rfl (hsr2 _) rfl hx1 hs ?_; intro v8 W8 own8 gr8 at8; obtain ⟨A8,c8,hv8,h8c,h8m,hR8,_,h8n,h8p⟩ := own8.form; subst hv8; have hb78 := below_appM (Below.refl MB _) hO7 gr8 hs (Nat.le_refl _); have hB8 := hB.trans (hb78.mono (by omega)); have hm8 := hmm.out.upd (i := 1) (o' := obs (.slice A8 (o.length + X2.length) c8) (o ++ X2)) rfl (Ext.of_grown (S := fun k => nb (Value.slice Ao o.length co) k) gr8 (fun k e => e)) (own_obs (m := X2) own8) (fun k hk => at_new at8 hk); have rL8 := rLr.block (hb78.block _ hLlt); have hs8 := Nat.le_trans hs hb78.size; have y8 := rL8.cell (j := 1) rfl; have f8 := rL8.frozen 1)
   have hm8' := hm8.setLow (a := ⟨w2.heap.size + 1,1,none⟩) hLlt (.slice A8 (o.length + X2.length) c8)
   have rL8' := rL8.set 1 (.slice A8 (o.length + X2.length) c8)
   have hB8' := hB8.setCell (p := ⟨w2.heap.size + 1,1,none⟩) (Nat.le_refl _) (.slice A8 (o.length + X2.length) c8)
   have hs8' : MB ≤ (W8.setCell ⟨w2.heap.size + 1,1,none⟩ (.slice A8 (o.length + X2.length) c8)).heap.size := by rw [World.size_setCell]; exact hs8
   simp only [List.set_cons_zero,List.set_cons_succ] at hm8'
   have hpl8 : Pl A8 c8 := by
    rcases h8p with h | ⟨b,h⟩
    ·exact .inl ⟨h,h8n h⟩
    ·exact .inr ⟨b,0,h⟩
   clear hm8 rL8 hB8 hs8 y8 f8 gr8 at8 hb78 hmm hO7 rLr hB hs y1 hsr2 hx1 own8 hR8
   obtain ⟨V8,hV8⟩ : ∃ V,(W8.setCell ⟨w2.heap.size + 1,1,none⟩ (.slice A8 (o.length + X2.length) c8)) = V := ⟨_,rfl⟩
   rw [hV8] at hm8' rL8' hB8' hs8' ⊢
   have hnY := HNY.out
   rw [hnY] at hm8' rL8' h8c ⊢
   rw [HY.out] at hm8'
   clear hV8 hnY
   have hE8 : Rb V8 A8 Y := by
    obtain ⟨_,_,e,_,_,h,_,_,_⟩ := (hm8'.get (i := 1) rfl).form
    simp only [obs] at e h
    cases e
    exact h
   have hE8i := hm8'.get (i := 0) rfl
   have hRm : RR V8 Am (ts.map (·.1)) := RR_of (n := ts.length) hE8i hm8'.ls (fun t ht => ht)
   rw [HLL.out] at hRm
   have y1 := rL8'.cell (j := 1) rfl
   have hspl := rsplit_any A8 Y bd nY c8 V8 HYL.out hE8 h8c hnYb (by omega)
   go_wp2_with fail
   refine hspl.mono ?_
   rintro e V9 ⟨A6,c6,rfl,h6c,hR6,hb9⟩
   rw [HS2.out] at h6c hR6 ⊢
   simp only at h6c hR6 ⊢
   rw [HLN.out] at h6c ⊢
   have hRm9 := hRm.below hb9
   have hE9 := hE8.below hb9
   have rL9 := rL8'.below hb9
   have hB9 := hB8'.trans (hb9.mono (by omega))
   have htq' : ((q : Int) != (ts.length : Int)) = false := by rw [htq.out,bne_self_eq_false]
   clear hspl hm8' hE8i hRm hE8 rL8' hB8' hb9 y1
   go_wp2_with fail
   go_loopw [16] (fun s16 wr => ∃ j : Nat,s16 = .int .i64 j ∧ j ≤ q ∧ Dn V9 wr) (fun i _ => q - (intOf i).toNat)
   case atStart => exact ⟨0,rfl,by omega,Dn.refl _⟩
   case round =>
    obtain ⟨j,rfl,hj,hD⟩ := hrel
    have hBr := hD.below V9.heap.size
    by_cases hjl : j < q
    ·obtain ⟨b1,o1,B1,d1,l,rfl,hl,cl1,hld1,hdm1,_,_,hR1⟩ := (hR6.below hBr).one (k := j) (by rw [HLN.out]; exact hjl)
     obtain ⟨b2,o2,B2,d2,l2,rfl,hl2,cl2,hld2,hdm2,_,_,hR2⟩ := (hRm9.below hBr).one (k := j) (by rw [HLN.out]; exact hjl)
     obtain rfl : l2 = l := Option.some.inj (hl2.out.symm.trans hl.out)
     have hlm : l2.length ≤ 9223372036854775807 := by unfold maxLen at hdm1; omega
     have hjt : j < ts.length := by rw [htq.out]; exact hjl
     have hsame : ∀ n,Calls Tryz.prog 11 #[.slice B1 l2.length d1,.slice B2 l2.length d2] (wr.drewN n) fun e w' => e = .returned (.bool true) ∧ ∃ m,w' = (wr.drewN n).drewN m := fun n =>
      (same_any B1 B2 l2 l2 l2.length l2.length d1 d2 _ rfl rfl (hR1.drewN n) (hR2.drewN n) hlm).mono fun e w' h => ⟨by rw [h.1]; simp,h.2⟩
     clear hl hl2
     go_wp2_with fail
     go_quiet ((go_at_call 11; exact Calls.quiet_of (hsame _)))
     go_wp2_with fail
     go_roundw
     case rel => exact ⟨j + 1,by go_num,by omega,by first | exact hD.drewN _ | exact hD.drew | exact hD⟩
     case measure => simp [intOf]; omega
    ·obtain rfl : j = q := by omega
     have rLz := rL9.below hBr
     have hBz := hB9.trans (hBr.mono (by have := hB9.size; have := HMB.out; omega))
     have hBzw : Below w.heap.size w wr := hB3.trans (hBz.mono (by omega))
     have hEz := hE9.below hBr
     have hFz : Fd.Rf wr (some ⟨w2.heap.size,0,none⟩) [(ctN,wv)] := fun hp => by
      obtain ⟨b,o',e,hc⟩ := hfr hp
      cases e
      exact ⟨_,_,rfl,fun i v hi => (hBz.cell (p := ⟨w2.heap.size,0 + i,none⟩) (by show w2.heap.size < w2.heap.size + 1; omega)).trans (hc i v hi)⟩
     have rlz : Row wr (w.heap.size + 1) 39 [.slice none 0 0,.slice none 0 0] := rl3.block (hBz.block _ (by omega))
     have l0 := rLz.cell (j := 0) rfl
     have l1 := rLz.cell (j := 1) rfl
     clear hR6 hRm9 hE9 rL9 hB9 rpr z4
     go_wp2_with fail
     refine (Fd.rlw_any (some ⟨w2.heap.size,0,none⟩) A8 [(ctN,wv)] Y 1 1 nY c8 wr rfl HYL.out hFz hEz HRF.out HFL.out (by omega) (by omega)).mono ?_
     rintro e w12 ⟨⟨v12,rfl,_⟩,hb12⟩
     have rL12 := rLz.below hb12
     have rl12 := rlz.below hb12
     have hF12 : Fd.Rf w12 (some ⟨w2.heap.size,0,none⟩) [(ctN,wv)] := Rv.below hFz hb12
     have hE12 := hEz.below hb12
     have hB12 := hBzw.trans (hb12.mono hBzw.size)
     clear l0 l1 rLz rlz hFz hEz hBzw hb12
     have l0 := rL12.cell (j := 0) rfl
     have l1 := rL12.cell (j := 1) rfl
     have m0 := rl12.cell (j := 0) rfl
     have m1 := rl12.cell (j := 1) rfl
     have n0 := rl12.frozen 0
     have n1 := rl12.frozen 1
     go_wp2_with fail
     have r13 := rl12.set 0 (.slice (some ⟨w2.heap.size,0,none⟩) 1 1)
     have r14 := r13.set 1 (.slice A8 nY c8)
     have hFF := Rv_setFar r13 (Rv_setFar rl12 hF12 (sl_fields (two_sl _ _ _ _ _ _) _) 0 (.slice (some ⟨w2.heap.size,0,none⟩) 1 1)) (sl_fields (two_sl _ _ _ _ _ _) _) 1 (.slice A8 nY c8)
     have hEF := Rv_setFar r13 (Rv_setFar rl12 hE12 (sl_bytes (two_sl _ _ _ _ _ _) _) 0 (.slice (some ⟨w2.heap.size,0,none⟩) 1 1)) (sl_bytes (two_sl _ _ _ _ _ _) _) 1 (.slice A8 nY c8)
     have hBF := (hB12.setCell (p := ⟨w.heap.size + 1,0,none⟩) (by simp) (.slice (some ⟨w2.heap.size,0,none⟩) 1 1)).setCell (p := ⟨w.heap.size + 1,1,none⟩) (by simp) (.slice A8 nY c8)
     have e0 := r14.cell (j := 0) rfl
     have e1 := r14.cell (j := 1) rfl
     refine bodyPost_ret (v := .tuple #[.agg #[.slice (some ⟨w2.heap.size,0,none⟩) 1 1,.slice A8 nY c8],.int .i64 0]) (by simp [results,Tryz.results34,go_sem,e0,e1]) rfl ⟨?_,hBF⟩
     rw [HLM.out,HYJ.out]
     exact ⟨some ⟨w2.heap.size,0,none⟩,1,A8,c8,by simp only [HYL.out]; rfl,hFF,hEF,by simp only [HYL.out]; exact h8c,h8m,hpl8⟩
end
end Go.Proofs.YtkllecicddfjpaaGreatDoor
