/- The walk of the law, part 36. -/
import Derived.Test.YtkllecicddfjpaaGreatDoorJ33
set_option maxRecDepth 100000
set_option maxHeartbeats 16000000
set_option linter.unusedVariables false
set_option linter.unusedSimpArgs false
namespace Go.Proofs.YtkllecicddfjpaaGreatDoor
section
open Go.RowKit
def headP (x : En) : List (List UInt8 × List UInt8) :=
 [([70,114,111,109],x.fr),([84,111],x.too),([77,101,115,115,97,103,101,45,73,68],[60] ++ x.id ++ [62]),([88,45,84,104,114,101,97,100],[60] ++ x.th ++ [62])] ++
 (if x.bun = [] then [] else [([88,45,75,101,121,115],Ar.enc x.bun)])
def addH (hd : List (List UInt8 × List UInt8)) : Except Nat Mail → Except Nat Mail
 | .error k => .error k
 | .ok m => .ok (hd ++ m.1,m.2)
def packW (x : En) : Except Nat Mail := if 3000 < x.bun.length then .error 4 else if enB x = false then .error 3 else addH (headP x) (partW x)
theorem partW_err {x : En} {k : Nat} (hx : x.cip.length ≤ 3000) (h : partW x = .error k) : 1 ≤ k := by
 unfold partW at h
 split at h
 ·exact leafW_err h
 ·exact multiW_err (sealed_ok x hx).1 h
theorem bs_lt (a : List UInt8) : (⟨#[60]⟩ : ByteArray) ++ bs a ++ ⟨#[62]⟩ = bs ([60] ++ a ++ [62]) := by
 rw [show (⟨#[60]⟩ : ByteArray) = bs [60] from rfl,show (⟨#[62]⟩ : ByteArray) = bs [62] from rfl,bs_add,bs_add]
theorem chkM_fields {m x : Mail} (h : chkM m = .ok x) : x.1 = m.1 := by rw [(chkM_ok h).1]
theorem partW_fields {x : En} {m : Mail} (h : partW x = .ok m) : m.1.length ≤ 2 := by
 unfold partW at h
 split at h
 ·unfold leafW at h
  split at h
  ·rw [chkM_fields h]; simp
  ·cases h
 ·unfold multiW at h
  split at h
  ·split at h
   ·rw [chkM_fields h]; simp
   ·cases h
  ·cases h
theorem pw_any (x : En) (A : Option Addr) (ca : Nat) (B : Option Addr) (cb : Nat) (w : World) (hG : Gm w) (hfr : x.fr.length ≤ 1000000) (hto : x.too.length ≤ 1000000) (hid : x.id.length ≤ 1000000) (hth : x.th.length ≤ 1000000)
 (hA : Rb w A x.bun) (hca : x.bun.length ≤ ca) (hbl : x.bun.length ≤ 1000000) (hB : Rb w B x.cip) (hcb : x.cip.length ≤ cb) (hcl : x.cip.length ≤ 3000) :
 Calls Tryz.prog 25 #[env x A ca B cb] w fun e w' => WOut (packW x) w' e ∧ Below w.heap.size w w' := by
 have hpart := part_any x A ca B cb
 have hpw := fun (w0 w : World) (e : Ending) (h : PartOut x B cb w0 w e) (hG : Gm w) (hB : Rb w B x.cip) => wpart_any h hG hcl hB hcb
 have hperr := fun k => partW_err (x := x) (k := k) hcl
 have hpf := fun m => partW_fields (x := x) (m := m)
 obtain ⟨PW,hPW⟩ : ∃ y,partW x = y := ⟨_,rfl⟩
 have HPK := Lib.hid (show packW x = if 3000 < x.bun.length then .error 4 else if enB x = false then .error 3 else addH (headP x) PW by unfold packW; rw [hPW])
 have HEN := Lib.hid (show enB x = (adB x.fr && adB x.too && Pk.idOk x.id && Pk.idOk x.th) from rfl)
 have HHD := Lib.hid (show headP x = [([70,114,111,109],x.fr),([84,111],x.too),([77,101,115,115,97,103,101,45,73,68],[60] ++ x.id ++ [62]),([88,45,84,104,114,101,97,100],[60] ++ x.th ++ [62])] ++ (if x.bun = [] then [] else [([88,45,75,101,121,115],Ar.enc x.bun)]) from rfl)
 rw [hPW] at hpw hperr hpf
 generalize packW x = PK at *
 generalize enB x = EN at *
 generalize headP x = HD at *
 clear hPW
 obtain ⟨fr,too,id,th,pl,bun,cip⟩ := x
 unfold env at hpart ⊢
 simp only at *
 obtain ⟨nbun,hnbun⟩ : ∃ n,bun.length = n := ⟨_,rfl⟩
 obtain ⟨ncip,hncip⟩ : ∃ n,cip.length = n := ⟨_,rfl⟩
 have HNBUN := Lib.hid hnbun
 have HNCIP := Lib.hid hncip
 simp only [hnbun,hncip] at hpart hca hbl hcb hcl HPK ⊢
 clear hnbun hncip
 have hB00 : Below w.heap.size w (w.alloc (.cells #[.string (bs fr),.string (bs too),.string (bs id),.string (bs th),.bool pl,.slice A nbun ca,.slice B ncip cb] 24)) := (Below.refl _ _).alloc (Nat.le_refl _) _
 have hB0 : Below w.heap.size w ((w.alloc (.cells #[.string (bs fr),.string (bs too),.string (bs id),.string (bs th),.bool pl,.slice A nbun ca,.slice B ncip cb] 24)).alloc (.cells #[.slice none 0 0,.slice none 0 0] 39)) := hB00.alloc hB00.size _
 have rp0 := (Row.new w #[.string (bs fr),.string (bs too),.string (bs id),.string (bs th),.bool pl,.slice A nbun ca,.slice B ncip cb] 24).below ((Below.refl _ (w.alloc (.cells #[.string (bs fr),.string (bs too),.string (bs id),.string (bs th),.bool pl,.slice A nbun ca,.slice B ncip cb] 24))).alloc (Nat.le_refl _) (.cells #[.slice none 0 0,.slice none 0 0] 39))
 have rl0 := Row.new (w.alloc (.cells #[.string (bs fr),.string (bs too),.string (bs id),.string (bs th),.bool pl,.slice A nbun ca,.slice B ncip cb] 24)) #[.slice none 0 0,.slice none 0 0] 39
 rw [World.size_alloc] at rl0
 have hz0 : w.heap.size + 2 ≤ ((w.alloc (.cells #[.string (bs fr),.string (bs too),.string (bs id),.string (bs th),.bool pl,.slice A nbun ca,.slice B ncip cb] 24)).alloc (.cells #[.slice none 0 0,.slice none 0 0] 39)).heap.size := by simp
 go_enter Tryz.func25,Tryz.ntmps25
 go_upto_block 0 with fail
 generalize ((w.alloc (.cells #[.string (bs fr),.string (bs too),.string (bs id),.string (bs th),.bool pl,.slice A nbun ca,.slice B ncip cb] 24)).alloc (.cells #[.slice none 0 0,.slice none 0 0] 39)) = W0 at *
 clear hB00
 have p00 := rp0.cell (j := 0) rfl
 have p05 := rp0.cell (j := 5) rfl
 have p06 := rp0.cell (j := 6) rfl
 have a0 := rl0.cell (j := 0) rfl
 have a1 := rl0.cell (j := 1) rfl
 have f0 := rl0.frozen 0
 have f1 := rl0.frozen 1
 have t0 : ¬ (1049600 < (ncip : Int)) := by omega
 by_cases hbig : 3000 < nbun
 ·have HE := Lib.hid (show PK = .error 4 by rw [HPK.out,if_pos hbig])
  have t1 : 3000 < (nbun : Int) := by omega
  clear HPK hpart hpw hperr hpf
  go_wp2_with fail
  have rF := (rl0.set 0 (.slice none 0 0)).set 1 (.slice none 0 0)
  have hBF := (hB0.setCell (p := ⟨w.heap.size + 1,0,none⟩) (by simp) (.slice none 0 0)).setCell (p := ⟨w.heap.size + 1,1,none⟩) (by simp) (.slice none 0 0)
  have e0 := rF.cell (j := 0) rfl
  have e1 := rF.cell (j := 1) rfl
  exact bodyPost_ret (v := .tuple #[.agg #[.slice none 0 0,.slice none 0 0],.int .i64 4]) (by simp [results,Tryz.results25,go_sem,e0,e1]) rfl ⟨wout_err HE.out rfl,hBF⟩
 have t1 : ¬ (3000 < (nbun : Int)) := by omega
 have HP2 := Lib.hid (show PK = if EN = false then .error 3 else addH HD PW by rw [HPK.out,if_neg hbig])
 have had1 := fun W h => address_any fr W h hfr
 have had2 := fun W h => address_any too W h hto
 have hid1 := fun W => Pk.id_any id W (by omega)
 have hid2 := fun W => Pk.id_any th W (by omega)
 generalize adB fr = b1 at *
 generalize adB too = b2 at *
 generalize Pk.idOk id = b3 at *
 generalize Pk.idOk th = b4 at *
 clear HPK hbig
 go_wp2_with fail
 refine (had1 W0 (hG.below hB0).mx).mono ?_
 rintro e w1 ⟨rfl,hb1⟩
 have hB1 := hB0.trans (hb1.mono hB0.size)
 have rp1 := rp0.below hb1
 have rl1 := rl0.below hb1
 have hz1 : w.heap.size + 2 ≤ w1.heap.size := Nat.le_trans hz0 hb1.size
 clear rp0 rl0 hb1 p00 p05 p06 a0 a1 f0 f1
 have a0 := rl1.cell (j := 0) rfl
 have a1 := rl1.cell (j := 1) rfl
 have f0 := rl1.frozen 0
 have f1 := rl1.frozen 1
 have pj := rp1.cell (j := 1) rfl
 cases b1 with
 | false =>
   have HE := Lib.hid (show PK = .error 3 by rw [HP2.out,HEN.out]; simp)
   clear HP2 HEN hpart hpw hperr hpf
   go_wp2_with fail
   have rF := (rl1.set 0 (.slice none 0 0)).set 1 (.slice none 0 0)
   have hBF := (hB1.setCell (p := ⟨w.heap.size + 1,0,none⟩) (by simp) (.slice none 0 0)).setCell (p := ⟨w.heap.size + 1,1,none⟩) (by simp) (.slice none 0 0)
   have e0 := rF.cell (j := 0) rfl
   have e1 := rF.cell (j := 1) rfl
   exact bodyPost_ret (v := .tuple #[.agg #[.slice none 0 0,.slice none 0 0],.int .i64 3]) (by simp [results,Tryz.results25,go_sem,e0,e1]) rfl ⟨wout_err HE.out rfl,hBF⟩
 | true =>
   go_wp2_with fail
   refine (had2 w1 (hG.below hB1).mx).mono ?_
   rintro e w2 ⟨rfl,hb2⟩
   have hB2 := hB1.trans (hb2.mono hB1.size)
   have rp2 := rp1.below hb2
   have rl2 := rl1.below hb2
   have hz2 : w.heap.size + 2 ≤ w2.heap.size := Nat.le_trans hz1 hb2.size
   clear rp1 rl1 hb2 pj a0 a1 f0 f1
   have a0 := rl2.cell (j := 0) rfl
   have a1 := rl2.cell (j := 1) rfl
   have f0 := rl2.frozen 0
   have f1 := rl2.frozen 1
   have pj := rp2.cell (j := 2) rfl
   cases b2 with
   | false =>
     have HE := Lib.hid (show PK = .error 3 by rw [HP2.out,HEN.out]; simp)
     clear HP2 HEN hpart hpw hperr hpf
     go_wp2_with fail
     have rF := (rl2.set 0 (.slice none 0 0)).set 1 (.slice none 0 0)
     have hBF := (hB2.setCell (p := ⟨w.heap.size + 1,0,none⟩) (by simp) (.slice none 0 0)).setCell (p := ⟨w.heap.size + 1,1,none⟩) (by simp) (.slice none 0 0)
     have e0 := rF.cell (j := 0) rfl
     have e1 := rF.cell (j := 1) rfl
     exact bodyPost_ret (v := .tuple #[.agg #[.slice none 0 0,.slice none 0 0],.int .i64 3]) (by simp [results,Tryz.results25,go_sem,e0,e1]) rfl ⟨wout_err HE.out rfl,hBF⟩
   | true =>
     go_wp2_with fail
     refine (hid1 w2).mono ?_
     rintro e w3 ⟨rfl,hb3⟩
     have hB3 := hB2.trans (hb3.mono hB2.size)
     have rp3 := rp2.below hb3
     have rl3 := rl2.below hb3
     have hz3 : w.heap.size + 2 ≤ w3.heap.size := Nat.le_trans hz2 hb3.size
     clear rp2 rl2 hb3 pj a0 a1 f0 f1
     have a0 := rl3.cell (j := 0) rfl
     have a1 := rl3.cell (j := 1) rfl
     have f0 := rl3.frozen 0
     have f1 := rl3.frozen 1
     have pj := rp3.cell (j := 3) rfl
     cases b3 with
     | false =>
       have HE := Lib.hid (show PK = .error 3 by rw [HP2.out,HEN.out]; simp)
       clear HP2 HEN hpart hpw hperr hpf
       go_wp2_with fail
       have rF := (rl3.set 0 (.slice none 0 0)).set 1 (.slice none 0 0)
       have hBF := (hB3.setCell (p := ⟨w.heap.size + 1,0,none⟩) (by simp) (.slice none 0 0)).setCell (p := ⟨w.heap.size + 1,1,none⟩) (by simp) (.slice none 0 0)
       have e0 := rF.cell (j := 0) rfl
       have e1 := rF.cell (j := 1) rfl
       exact bodyPost_ret (v := .tuple #[.agg #[.slice none 0 0,.slice none 0 0],.int .i64 3]) (by simp [results,Tryz.results25,go_sem,e0,e1]) rfl ⟨wout_err HE.out rfl,hBF⟩
     | true =>
       go_wp2_with fail
       refine (hid2 w3).mono ?_
       rintro e w4 ⟨rfl,hb4⟩
       have hB4 := hB3.trans (hb4.mono hB3.size)
       have rp4 := rp3.below hb4
       have rl4 := rl3.below hb4
       have hz4 : w.heap.size + 2 ≤ w4.heap.size := Nat.le_trans hz3 hb4.size
       clear rp3 rl3 hb4 pj a0 a1 f0 f1
       have a0 := rl4.cell (j := 0) rfl
       have a1 := rl4.cell (j := 1) rfl
       have f0 := rl4.frozen 0
       have f1 := rl4.frozen 1
       have q0 := rp4.cell (j := 0) rfl
       have q1 := rp4.cell (j := 1) rfl
       have q2 := rp4.cell (j := 2) rfl
       have q3 := rp4.cell (j := 3) rfl
       have q4 := rp4.cell (j := 4) rfl
       have q5 := rp4.cell (j := 5) rfl
       have q6 := rp4.cell (j := 6) rfl
       cases b4 with
       | false =>
         have HE := Lib.hid (show PK = .error 3 by rw [HP2.out,HEN.out]; simp)
         clear HP2 HEN hpart hpw hperr hpf
         go_wp2_with fail
         have rF := (rl4.set 0 (.slice none 0 0)).set 1 (.slice none 0 0)
         have hBF := (hB4.setCell (p := ⟨w.heap.size + 1,0,none⟩) (by simp) (.slice none 0 0)).setCell (p := ⟨w.heap.size + 1,1,none⟩) (by simp) (.slice none 0 0)
         have e0 := rF.cell (j := 0) rfl
         have e1 := rF.cell (j := 1) rfl
         exact bodyPost_ret (v := .tuple #[.agg #[.slice none 0 0,.slice none 0 0],.int .i64 3]) (by simp [results,Tryz.results25,go_sem,e0,e1]) rfl ⟨wout_err HE.out rfl,hBF⟩
       | true =>
         have HP3 := Lib.hid (show PK = addH HD PW by rw [HP2.out,HEN.out]; rfl)
         clear HP2 HEN had1 had2 hid1 hid2
         go_wp2_with fail
         refine (hpart w4).mono ?_
         rintro e w5 ⟨hpo,hb5⟩
         have hB5 := hB4.trans (hb5.mono hB4.size)
         have rp5 := rp4.below hb5
         have rl5 := rl4.below hb5
         have hz5 : w.heap.size + 2 ≤ w5.heap.size := Nat.le_trans hz4 hb5.size
         obtain ⟨v0,v1,v2,v3,v4,rfl,hcall⟩ := hpw _ _ _ hpo (hG.below hB5) (hB.below hB5)
         clear rp4 rl4 hb5 hpo hpart hpw q0 q1 q2 q3 q4 q5 q6 a0 a1 f0 f1
         go_wp2_with fail
         refine hcall.mono ?_
         rintro e w6 ⟨hwo,hb6⟩
         have hB6 := hB5.trans (hb6.mono hB5.size)
         have rp6 := rp5.below hb6
         have rl6 := rl5.below hb6
         have hz6 : w.heap.size + 2 ≤ w6.heap.size := Nat.le_trans hz5 hb6.size
         clear rp5 rl5 hb6 hcall
         have a0 := rl6.cell (j := 0) rfl
         have a1 := rl6.cell (j := 1) rfl
         have f0 := rl6.frozen 0
         have f1 := rl6.frozen 1
         cases PW with
         | error k =>
           simp only [WOut] at hwo
           subst hwo
           have HE := Lib.hid (show PK = .error k from HP3.out)
           have hk1 := hperr k rfl
           have hkb : ((k : Int) != 0) = true := by rw [bne_iff_ne]; omega
           clear HP3 hperr hpf
           go_wp2_with fail
           have rF := (((rl6.set 0 (.slice none 0 0)).set 1 (.slice none 0 0)).set 0 (.slice none 0 0)).set 1 (.slice none 0 0)
           have hBF := (((hB6.setCell (p := ⟨w.heap.size + 1,0,none⟩) (by simp) (.slice none 0 0)).setCell (p := ⟨w.heap.size + 1,1,none⟩) (by simp) (.slice none 0 0)).setCell (p := ⟨w.heap.size + 1,0,none⟩) (by simp) (.slice none 0 0)).setCell (p := ⟨w.heap.size + 1,1,none⟩) (by simp) (.slice none 0 0)
           have e0 := rF.cell (j := 0) rfl
           have e1 := rF.cell (j := 1) rfl
           exact bodyPost_ret (v := .tuple #[.agg #[.slice none 0 0,.slice none 0 0],.int .i64 (k : Int)]) (by simp [results,Tryz.results25,go_sem,e0,e1]) rfl ⟨wout_err HE.out rfl,hBF⟩
         | ok m =>
           obtain ⟨LA,lc,LB,lc2,rfl,hRf,hRb,h2c,h2m,hplB⟩ := hwo
           have HE := Lib.hid (show PK = .ok (HD ++ m.1,m.2) from HP3.out)
           have hf2 := hpf m rfl
           obtain ⟨fs,bd⟩ := m
           simp only at hRf hRb h2c hf2 HE ⊢
           obtain ⟨nf,hnf⟩ : ∃ x,fs.length = x := ⟨_,rfl⟩
           obtain ⟨nb,hnb⟩ : ∃ x,bd.length = x := ⟨_,rfl⟩
           have HNF := Lib.hid hnf
           have HNB := Lib.hid hnb
           simp only [hnf,hnb] at h2c hf2 ⊢
           clear hnf hnb HP3 hperr hpf
           have sl0 : ∀ v ∈ ([.slice none 0 0,.slice none 0 0] : List Value),isSl v := by
            intro v hv
            simp only [List.mem_cons,List.mem_nil_iff,or_false] at hv
            rcases hv with rfl | rfl <;> exact ⟨_,_,_,rfl⟩
           have sl1 : ∀ v ∈ (([.slice none 0 0,.slice none 0 0] : List Value).set 0 (.slice LA nf lc)),isSl v := by
            intro v hv
            simp only [List.set_cons_zero,List.mem_cons,List.mem_nil_iff,or_false] at hv
            rcases hv with rfl | rfl <;> exact ⟨_,_,_,rfl⟩
           have q0 := rp6.cell (j := 0) rfl
           have q1 := rp6.cell (j := 1) rfl
           have q2 := rp6.cell (j := 2) rfl
           have q3 := rp6.cell (j := 3) rfl
           have q5 := rp6.cell (j := 5) rfl
           have R7l := (rl6.set 0 (.slice LA nf lc)).set 1 (.slice LB nb lc2)
           have R7p := (rp6.far (a := ⟨w.heap.size + 1,0,none⟩) (by simp) (.slice LA nf lc)).far (a := ⟨w.heap.size + 1,1,none⟩) (by simp) (.slice LB nb lc2)
           have hRf7 : Fd.Rf ((w6.setCell ⟨w.heap.size + 1,0,none⟩ (.slice LA nf lc)).setCell ⟨w.heap.size + 1,1,none⟩ (.slice LB nb lc2)) LA fs := Rv_setFar (rl6.set 0 (.slice LA nf lc)) (Rv_setFar rl6 hRf (sl_fields sl0 fs) 0 (.slice LA nf lc)) (sl_fields sl1 fs) 1 (.slice LB nb lc2)
           have hRb7 : Rb ((w6.setCell ⟨w.heap.size + 1,0,none⟩ (.slice LA nf lc)).setCell ⟨w.heap.size + 1,1,none⟩ (.slice LB nb lc2)) LB bd := Rv_setFar (rl6.set 0 (.slice LA nf lc)) (Rv_setFar rl6 hRb (sl_bytes sl0 bd) 0 (.slice LA nf lc)) (sl_bytes sl1 bd) 1 (.slice LB nb lc2)
           have hB7 : Below w.heap.size w ((w6.setCell ⟨w.heap.size + 1,0,none⟩ (.slice LA nf lc)).setCell ⟨w.heap.size + 1,1,none⟩ (.slice LB nb lc2)) := (hB6.setCell (p := ⟨w.heap.size + 1,0,none⟩) (by simp) (.slice LA nf lc)).setCell (p := ⟨w.heap.size + 1,1,none⟩) (by simp) (.slice LB nb lc2)
           have e7 : ((w6.setCell ⟨w.heap.size + 1,0,none⟩ (.slice LA nf lc)).setCell ⟨w.heap.size + 1,1,none⟩ (.slice LB nb lc2)).heap.size = w6.heap.size := by simp
           have hb8 : Below w6.heap.size ((w6.setCell ⟨w.heap.size + 1,0,none⟩ (.slice LA nf lc)).setCell ⟨w.heap.size + 1,1,none⟩ (.slice LB nb lc2)) (((w6.setCell ⟨w.heap.size + 1,0,none⟩ (.slice LA nf lc)).setCell ⟨w.heap.size + 1,1,none⟩ (.slice LB nb lc2)).alloc (.cells #[.string ⟨#[70,114,111,109]⟩,.string (bs fr),.string ⟨#[84,111]⟩,.string (bs too),.string ⟨#[77,101,115,115,97,103,101,45,73,68]⟩,.string ((⟨#[60]⟩ : ByteArray) ++ bs id ++ ⟨#[62]⟩),.string ⟨#[88,45,84,104,114,101,97,100]⟩,.string ((⟨#[60]⟩ : ByteArray) ++ bs th ++ ⟨#[62]⟩)] 73)) := by rw [← e7]; exact (Below.refl _ _).alloc (Nat.le_refl _) _
           have own8 : (((w6.setCell ⟨w.heap.size + 1,0,none⟩ (.slice LA nf lc)).setCell ⟨w.heap.size + 1,1,none⟩ (.slice LB nb lc2)).alloc (.cells #[.string ⟨#[70,114,111,109]⟩,.string (bs fr),.string ⟨#[84,111]⟩,.string (bs too),.string ⟨#[77,101,115,115,97,103,101,45,73,68]⟩,.string ((⟨#[60]⟩ : ByteArray) ++ bs id ++ ⟨#[62]⟩),.string ⟨#[88,45,84,104,114,101,97,100]⟩,.string ((⟨#[60]⟩ : ByteArray) ++ bs th ++ ⟨#[62]⟩)] 73)).ownsRow w6.heap.size 73 2 (.slice (some ⟨w6.heap.size,0,none⟩) 4 4) 4 (#[.string ⟨#[70,114,111,109]⟩,.string (bs fr),.string ⟨#[84,111]⟩,.string (bs too),.string ⟨#[77,101,115,115,97,103,101,45,73,68]⟩,.string ((⟨#[60]⟩ : ByteArray) ++ bs id ++ ⟨#[62]⟩),.string ⟨#[88,45,84,104,114,101,97,100]⟩,.string ((⟨#[60]⟩ : ByteArray) ++ bs th ++ ⟨#[62]⟩)] : Array Value).toList := by
            have h := World.ownsRow_lit (base := w6.heap.size) (e := 73) (size := 2) ((w6.setCell ⟨w.heap.size + 1,0,none⟩ (.slice LA nf lc)).setCell ⟨w.heap.size + 1,1,none⟩ (.slice LB nb lc2)) #[.string ⟨#[70,114,111,109]⟩,.string (bs fr),.string ⟨#[84,111]⟩,.string (bs too),.string ⟨#[77,101,115,115,97,103,101,45,73,68]⟩,.string ((⟨#[60]⟩ : ByteArray) ++ bs id ++ ⟨#[62]⟩),.string ⟨#[88,45,84,104,114,101,97,100]⟩,.string ((⟨#[60]⟩ : ByteArray) ++ bs th ++ ⟨#[62]⟩)] 4 (Nat.le_of_eq e7.symm) (by unfold maxLen; omega) rfl
            rw [e7] at h
            exact h
           have R8l : Row (((w6.setCell ⟨w.heap.size + 1,0,none⟩ (.slice LA nf lc)).setCell ⟨w.heap.size + 1,1,none⟩ (.slice LB nb lc2)).alloc (.cells #[.string ⟨#[70,114,111,109]⟩,.string (bs fr),.string ⟨#[84,111]⟩,.string (bs too),.string ⟨#[77,101,115,115,97,103,101,45,73,68]⟩,.string ((⟨#[60]⟩ : ByteArray) ++ bs id ++ ⟨#[62]⟩),.string ⟨#[88,45,84,104,114,101,97,100]⟩,.string ((⟨#[60]⟩ : ByteArray) ++ bs th ++ ⟨#[62]⟩)] 73)) (w.heap.size + 1) 39 _ := R7l.below (hb8.mono (Nat.le_of_eq e7))
           have R8p : Row (((w6.setCell ⟨w.heap.size + 1,0,none⟩ (.slice LA nf lc)).setCell ⟨w.heap.size + 1,1,none⟩ (.slice LB nb lc2)).alloc (.cells #[.string ⟨#[70,114,111,109]⟩,.string (bs fr),.string ⟨#[84,111]⟩,.string (bs too),.string ⟨#[77,101,115,115,97,103,101,45,73,68]⟩,.string ((⟨#[60]⟩ : ByteArray) ++ bs id ++ ⟨#[62]⟩),.string ⟨#[88,45,84,104,114,101,97,100]⟩,.string ((⟨#[60]⟩ : ByteArray) ++ bs th ++ ⟨#[62]⟩)] 73)) w.heap.size 24 _ := R7p.below (hb8.mono (Nat.le_of_eq e7))
           have hk5 := R8p.cell (j := 5) rfl
           have hl0 := R8l.cell (j := 0) rfl
           have hl1 := R8l.cell (j := 1) rfl
           have hz8 : w6.heap.size ≤ (((w6.setCell ⟨w.heap.size + 1,0,none⟩ (.slice LA nf lc)).setCell ⟨w.heap.size + 1,1,none⟩ (.slice LB nb lc2)).alloc (.cells #[.string ⟨#[70,114,111,109]⟩,.string (bs fr),.string ⟨#[84,111]⟩,.string (bs too),.string ⟨#[77,101,115,115,97,103,101,45,73,68]⟩,.string ((⟨#[60]⟩ : ByteArray) ++ bs id ++ ⟨#[62]⟩),.string ⟨#[88,45,84,104,114,101,97,100]⟩,.string ((⟨#[60]⟩ : ByteArray) ++ bs th ++ ⟨#[62]⟩)] 73)).heap.size := by simp
           have hf8 : Fd.Rf (((w6.setCell ⟨w.heap.size + 1,0,none⟩ (.slice LA nf lc)).setCell ⟨w.heap.size + 1,1,none⟩ (.slice LB nb lc2)).alloc (.cells #[.string ⟨#[70,114,111,109]⟩,.string (bs fr),.string ⟨#[84,111]⟩,.string (bs too),.string ⟨#[77,101,115,115,97,103,101,45,73,68]⟩,.string ((⟨#[60]⟩ : ByteArray) ++ bs id ++ ⟨#[62]⟩),.string ⟨#[88,45,84,104,114,101,97,100]⟩,.string ((⟨#[60]⟩ : ByteArray) ++ bs th ++ ⟨#[62]⟩)] 73)) LA fs := Rv.below hRf7 (hb8.mono (Nat.le_of_eq e7))
           have hB8 : Below w.heap.size w (((w6.setCell ⟨w.heap.size + 1,0,none⟩ (.slice LA nf lc)).setCell ⟨w.heap.size + 1,1,none⟩ (.slice LB nb lc2)).alloc (.cells #[.string ⟨#[70,114,111,109]⟩,.string (bs fr),.string ⟨#[84,111]⟩,.string (bs too),.string ⟨#[77,101,115,115,97,103,101,45,73,68]⟩,.string ((⟨#[60]⟩ : ByteArray) ++ bs id ++ ⟨#[62]⟩),.string ⟨#[88,45,84,104,114,101,97,100]⟩,.string ((⟨#[60]⟩ : ByteArray) ++ bs th ++ ⟨#[62]⟩)] 73)) := hB7.trans (hb8.mono (by omega))
           have hEE : (#[.string ⟨#[70,114,111,109]⟩,.string (bs fr),.string ⟨#[84,111]⟩,.string (bs too),.string ⟨#[77,101,115,115,97,103,101,45,73,68]⟩,.string ((⟨#[60]⟩ : ByteArray) ++ bs id ++ ⟨#[62]⟩),.string ⟨#[88,45,84,104,114,101,97,100]⟩,.string ((⟨#[60]⟩ : ByteArray) ++ bs th ++ ⟨#[62]⟩)] : Array Value).toList = Fd.fcells [([70,114,111,109],fr),([84,111],too),([77,101,115,115,97,103,101,45,73,68],[60] ++ id ++ [62]),([88,45,84,104,114,101,97,100],[60] ++ th ++ [62])] := by
            rw [bs_lt id,bs_lt th]
            rfl
           have HEE := Lib.hid hEE
           have hfc : ∀ a b,Fd.fcells (a ++ b) = Fd.fcells a ++ Fd.fcells b := fun a b => by unfold Fd.fcells; rw [List.flatMap_append]
           clear hEE rl6 rp6 hRf hRb
           rcases Nat.eq_zero_or_pos nbun with hn0 | hn0
           ·have hbn : bun = [] := List.eq_nil_of_length_eq_zero (by rw [HNBUN.out]; exact hn0)
            have HE2 := Lib.hid (show PK = .ok ([([70,114,111,109],fr),([84,111],too),([77,101,115,115,97,103,101,45,73,68],[60] ++ id ++ [62]),([88,45,84,104,114,101,97,100],[60] ++ th ++ [62])] ++ fs,bd) by rw [HE.out,HHD.out,if_pos hbn,List.append_nil])
            have t2 : ¬ (0 < (nbun : Int)) := by omega
            clear hbn hn0 HE
            go_wp2_with (at_builtin; refine wpList_app rfl _ _ _ _ rfl Fd.TField own8 rfl (Fd.Src_rf (c := lc) HNF.out hf8) rfl (by omega) hz8 ?_; intro v9 w9 hown9 hgr9 hat9; obtain ⟨A9,c9,rfl,h9c,h9m,hR9,_⟩ := own_form hown9; have hb79 := below_app hb8 own8 hgr9 hz8 (Nat.le_refl _); have R9l := R7l.below (hb79.mono (Nat.le_of_eq e7)); have k90 := R9l.cell (j := 0) rfl; have k91 := R9l.cell (j := 1) rfl; have z90 := R9l.frozen 0; have z91 := R9l.frozen 1)
            have RA := R9l.set 0 (.slice A9 (4 + nf) c9)
            have RB := RA.set 0 (.slice A9 (4 + nf) c9)
            have RC := RB.set 1 (.slice LB nb lc2)
            have s9 : ∀ v ∈ ((([.slice none 0 0,.slice none 0 0] : List Value).set 0 (.slice LA nf lc)).set 1 (.slice LB nb lc2)),isSl v := by
             intro v hv
             simp only [List.set_cons_zero,List.set_cons_succ,List.mem_cons,List.mem_nil_iff,or_false] at hv
             rcases hv with rfl | rfl <;> exact ⟨_,_,_,rfl⟩
            have sA : ∀ v ∈ (((([.slice none 0 0,.slice none 0 0] : List Value).set 0 (.slice LA nf lc)).set 1 (.slice LB nb lc2)).set 0 (.slice A9 (4 + nf) c9)),isSl v := by
             intro v hv
             simp only [List.set_cons_zero,List.set_cons_succ,List.mem_cons,List.mem_nil_iff,or_false] at hv
             rcases hv with rfl | rfl <;> exact ⟨_,_,_,rfl⟩
            have hRb9 := hRb7.below (hb79.mono (Nat.le_of_eq e7))
            have hRbF : Rb _ LB bd := Rv_setFar RB (Rv_setFar RA (Rv_setFar R9l hRb9 (sl_bytes s9 bd) 0 (.slice A9 (4 + nf) c9)) (sl_bytes sA bd) 0 (.slice A9 (4 + nf) c9)) (sl_bytes sA bd) 1 (.slice LB nb lc2)
            have hownF := ownsRow_setCell_below (ownsRow_setCell_below (ownsRow_setCell_below hown9 (a := ⟨w.heap.size + 1,0,none⟩) (by simp; omega) (.slice A9 (4 + nf) c9)) (a := ⟨w.heap.size + 1,0,none⟩) (by simp; omega) (.slice A9 (4 + nf) c9)) (a := ⟨w.heap.size + 1,1,none⟩) (by simp; omega) (.slice LB nb lc2)
            have hB9 := hB7.trans (hb79.mono (by omega))
            have hBF := ((hB9.setCell (p := ⟨w.heap.size + 1,0,none⟩) (by simp) (.slice A9 (4 + nf) c9)).setCell (p := ⟨w.heap.size + 1,0,none⟩) (by simp) (.slice A9 (4 + nf) c9)).setCell (p := ⟨w.heap.size + 1,1,none⟩) (by simp) (.slice LB nb lc2)
            have e0 := RC.cell (j := 0) rfl
            have e1 := RC.cell (j := 1) rfl
            refine bodyPost_ret (v := .tuple #[.agg #[.slice A9 (4 + nf) c9,.slice LB nb lc2],.int .i64 0]) (by simp [results,Tryz.results25,go_sem,e0,e1]) rfl ⟨?_,hBF⟩
            rw [HE2.out]
            refine ⟨A9,c9,LB,lc2,by simp only [List.length_append,List.length_cons,List.length_nil,HNF.out,HNB.out],?_,hRbF,by simp only [HNB.out]; exact h2c,h2m,hplB⟩
            have hr := (own_rv hownF).1
            rw [HEE.out] at hr
            unfold Fd.Rf
            simp only [hfc] at hr ⊢
            exact hr
           ·have hbn : bun ≠ [] := fun h => by have := HNBUN.out; rw [h] at this; simp at this; omega
            have t2 : 0 < (nbun : Int) := by omega
            go_wp2_with fail
            refine (Ar.enc_any A bun nbun ca _ HNBUN.out (hA.below hB8) hca (by omega)).mono ?_
            rintro e w9 ⟨rfl,hb9⟩
            have hel := Ar.enc_length bun
            rw [HNBUN.out] at hel
            obtain ⟨es,hes⟩ : ∃ x,Ar.enc bun = x := ⟨_,rfl⟩
            have HE2 := Lib.hid (show PK = .ok ([([70,114,111,109],fr),([84,111],too),([77,101,115,115,97,103,101,45,73,68],[60] ++ id ++ [62]),([88,45,84,104,114,101,97,100],[60] ++ th ++ [62])] ++ [([88,45,75,101,121,115],es)] ++ fs,bd) by rw [HE.out,HHD.out,if_neg hbn,hes])
            rw [hes] at hel ⊢
            have hb89 : Below w6.heap.size ((w6.setCell ⟨w.heap.size + 1,0,none⟩ (.slice LA nf lc)).setCell ⟨w.heap.size + 1,1,none⟩ (.slice LB nb lc2)) w9 := hb8.trans (hb9.mono hz8)
            have hz9 : w6.heap.size ≤ w9.heap.size := Nat.le_trans hz8 hb9.size
            have own9 := own_below own8 hb9
            have hal : Below w9.heap.size w9 (w9.alloc (.cells #[.string ⟨#[88,45,75,101,121,115]⟩,.string (bs es)] 73)) := (Below.refl _ _).alloc (Nat.le_refl _) _
            have hb810 : Below w6.heap.size ((w6.setCell ⟨w.heap.size + 1,0,none⟩ (.slice LA nf lc)).setCell ⟨w.heap.size + 1,1,none⟩ (.slice LB nb lc2)) (w9.alloc (.cells #[.string ⟨#[88,45,75,101,121,115]⟩,.string (bs es)] 73)) := hb89.trans (hal.mono hz9)
            have own10 : (w9.alloc (.cells #[.string ⟨#[88,45,75,101,121,115]⟩,.string (bs es)] 73)).ownsRow w6.heap.size 73 2 (.slice (some ⟨w6.heap.size,0,none⟩) 4 4) 4 (#[.string ⟨#[70,114,111,109]⟩,.string (bs fr),.string ⟨#[84,111]⟩,.string (bs too),.string ⟨#[77,101,115,115,97,103,101,45,73,68]⟩,.string ((⟨#[60]⟩ : ByteArray) ++ bs id ++ ⟨#[62]⟩),.string ⟨#[88,45,84,104,114,101,97,100]⟩,.string ((⟨#[60]⟩ : ByteArray) ++ bs th ++ ⟨#[62]⟩)] : Array Value).toList := own9.alloc _
            have src10 : Src Tryz.prog 2 37 (.slice (some ⟨w9.heap.size,0,none⟩) 1 1) 1 [Fd.strv [88,45,75,101,121,115],Fd.strv es] (w9.alloc (.cells #[.string ⟨#[88,45,75,101,121,115]⟩,.string (bs es)] 73)) := Src_rv (news := [Fd.strv [88,45,75,101,121,115],Fd.strv es]) Tryz.underlying37 rfl (Rv_new w9 _ _ _ rfl) (by simp [Value.oneCell',Fd.strv]) (by omega)
            have hz10 : w6.heap.size ≤ (w9.alloc (.cells #[.string ⟨#[88,45,75,101,121,115]⟩,.string (bs es)] 73)).heap.size := by simp; omega
            have R9p := R7p.below (hb89.mono (Nat.le_of_eq e7))
            clear hes hbn hn0 HE hk5 hl0 hl1 q0 q1 q2 q3 q5
            go_wp2_with (first
             | (at_builtin; refine wpList_app rfl _ _ _ _ rfl Fd.TField own10 rfl src10 rfl (by omega) hz10 ?_; intro v11 w11 hown11 hgr11 hat11; obtain ⟨A11,c11,rfl,_,_,_,_⟩ := own_form hown11; have hb711 := below_app hb810 own10 hgr11 hz10 (Nat.le_refl _); have R11l := R7l.below (hb711.mono (Nat.le_of_eq e7)); have k110 := R11l.cell (j := 0) rfl; have hz11 : w6.heap.size ≤ w11.heap.size := (by have := hb711.size; omega); have hf11 : Fd.Rf w11 LA fs := Rv.below hRf7 (hb711.mono (Nat.le_of_eq e7)))
             | (at_builtin; refine wpList_app rfl _ _ _ _ rfl Fd.TField hown11 rfl (Fd.Src_rf (c := lc) HNF.out hf11) rfl (by omega) hz11 ?_; intro v9 w12 hown9 hgr9 hat9; obtain ⟨A9,c9,rfl,h9c,h9m,hR9,_⟩ := own_form hown9; have hb79 := below_app hb711 hown11 hgr9 hz11 (Nat.le_refl _); have R9l := R7l.below (hb79.mono (Nat.le_of_eq e7)); have k90 := R9l.cell (j := 0) rfl; have k91 := R9l.cell (j := 1) rfl; have z90 := R9l.frozen 0; have z91 := R9l.frozen 1))
            have RA := R9l.set 0 (.slice A9 (4 + 1 + nf) c9)
            have RB := RA.set 0 (.slice A9 (4 + 1 + nf) c9)
            have RC := RB.set 1 (.slice LB nb lc2)
            have s9 : ∀ v ∈ ((([.slice none 0 0,.slice none 0 0] : List Value).set 0 (.slice LA nf lc)).set 1 (.slice LB nb lc2)),isSl v := by
             intro v hv
             simp only [List.set_cons_zero,List.set_cons_succ,List.mem_cons,List.mem_nil_iff,or_false] at hv
             rcases hv with rfl | rfl <;> exact ⟨_,_,_,rfl⟩
            have sA : ∀ v ∈ (((([.slice none 0 0,.slice none 0 0] : List Value).set 0 (.slice LA nf lc)).set 1 (.slice LB nb lc2)).set 0 (.slice A9 (4 + 1 + nf) c9)),isSl v := by
             intro v hv
             simp only [List.set_cons_zero,List.set_cons_succ,List.mem_cons,List.mem_nil_iff,or_false] at hv
             rcases hv with rfl | rfl <;> exact ⟨_,_,_,rfl⟩
            have hRb9 := hRb7.below (hb79.mono (Nat.le_of_eq e7))
            have hRbF : Rb _ LB bd := Rv_setFar RB (Rv_setFar RA (Rv_setFar R9l hRb9 (sl_bytes s9 bd) 0 (.slice A9 (4 + 1 + nf) c9)) (sl_bytes sA bd) 0 (.slice A9 (4 + 1 + nf) c9)) (sl_bytes sA bd) 1 (.slice LB nb lc2)
            have hownF := ownsRow_setCell_below (ownsRow_setCell_below (ownsRow_setCell_below hown9 (a := ⟨w.heap.size + 1,0,none⟩) (by simp; omega) (.slice A9 (4 + 1 + nf) c9)) (a := ⟨w.heap.size + 1,0,none⟩) (by simp; omega) (.slice A9 (4 + 1 + nf) c9)) (a := ⟨w.heap.size + 1,1,none⟩) (by simp; omega) (.slice LB nb lc2)
            have hB9 := hB7.trans (hb79.mono (by omega))
            have hBF := ((hB9.setCell (p := ⟨w.heap.size + 1,0,none⟩) (by simp) (.slice A9 (4 + 1 + nf) c9)).setCell (p := ⟨w.heap.size + 1,0,none⟩) (by simp) (.slice A9 (4 + 1 + nf) c9)).setCell (p := ⟨w.heap.size + 1,1,none⟩) (by simp) (.slice LB nb lc2)
            have e0 := RC.cell (j := 0) rfl
            have e1 := RC.cell (j := 1) rfl
            refine bodyPost_ret (v := .tuple #[.agg #[.slice A9 (4 + 1 + nf) c9,.slice LB nb lc2],.int .i64 0]) (by simp [results,Tryz.results25,go_sem,e0,e1]) rfl ⟨?_,hBF⟩
            rw [HE2.out]
            refine ⟨A9,c9,LB,lc2,by simp only [List.length_append,List.length_cons,List.length_nil,HNF.out,HNB.out],?_,hRbF,by simp only [HNB.out]; exact h2c,h2m,hplB⟩
            have hr := (own_rv hownF).1
            rw [HEE.out] at hr
            unfold Fd.Rf
            simp only [hfc] at hr ⊢
            exact hr
end
end Go.Proofs.YtkllecicddfjpaaGreatDoor
