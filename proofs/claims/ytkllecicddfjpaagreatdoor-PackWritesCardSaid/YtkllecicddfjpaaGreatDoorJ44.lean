/- The walk of the law, part 44. -/
import Derived.Test.YtkllecicddfjpaaGreatDoorJ35
import Derived.Test.YtkllecicddfjpaaGreatDoorJ41
import Derived.Test.YtkllecicddfjpaaGreatDoorJ43
import Derived.Deep.RegionHeld3
import Derived.Deep.RegionHeldLaw
set_option maxRecDepth 100000
set_option maxHeartbeats 16000000
set_option linter.unusedVariables false
set_option linter.unusedSimpArgs false
namespace Go.Proofs.YtkllecicddfjpaaGreatDoor
section
open Go.RowKit
theorem rpw_any (x : En) (A : Option Addr) (ca : Nat) (B : Option Addr) (cb : Nat) (w : World) (h1 : x.fr.length ≤ 300) (h2 : x.too.length ≤ 300) (h3 : x.id.length ≤ 300) (h4 : x.th.length ≤ 300) (hbun : x.bun.length ≤ 4000) (hcip : x.cip.length ≤ 3000)
 (hA : Rb w A x.bun) (hca : x.bun.length ≤ ca) (hB : Rb w B x.cip) (hcb : x.cip.length ≤ cb) :
 Calls Tryz.prog 17 #[env x A ca B cb] w fun e w' => WOut (packW x) w' e ∧ Below w.heap.size w w' := by
 have HPK := Lib.hid (packW_is hcip)
 unfold env
 obtain ⟨pz,hpz⟩ : ∃ z,x.plain = z := ⟨_,rfl⟩
 rw [hpz]
 have HPZ := Lib.hid hpz
 clear hpz
 have hB00 : Below w.heap.size w (w.alloc (.cells #[.string (bs x.fr),.string (bs x.too),.string (bs x.id),.string (bs x.th),.bool pz,.slice A x.bun.length ca,.slice B x.cip.length cb] 24)) := (Below.refl _ _).alloc (Nat.le_refl _) _
 have hB0 : Below w.heap.size w ((w.alloc (.cells #[.string (bs x.fr),.string (bs x.too),.string (bs x.id),.string (bs x.th),.bool pz,.slice A x.bun.length ca,.slice B x.cip.length cb] 24)).alloc (.cells #[.slice none 0 0,.slice none 0 0] 39)) := hB00.alloc hB00.size _
 have rp := (Row.new w #[.string (bs x.fr),.string (bs x.too),.string (bs x.id),.string (bs x.th),.bool pz,.slice A x.bun.length ca,.slice B x.cip.length cb] 24).below ((Below.refl _ (w.alloc (.cells #[.string (bs x.fr),.string (bs x.too),.string (bs x.id),.string (bs x.th),.bool pz,.slice A x.bun.length ca,.slice B x.cip.length cb] 24))).alloc (Nat.le_refl _) (.cells #[.slice none 0 0,.slice none 0 0] 39))
 have rl := Row.new (w.alloc (.cells #[.string (bs x.fr),.string (bs x.too),.string (bs x.id),.string (bs x.th),.bool pz,.slice A x.bun.length ca,.slice B x.cip.length cb] 24)) #[.slice none 0 0,.slice none 0 0] 39
 rw [World.size_alloc] at rl
 have hz0 : w.heap.size + 2 ≤ ((w.alloc (.cells #[.string (bs x.fr),.string (bs x.too),.string (bs x.id),.string (bs x.th),.bool pz,.slice A x.bun.length ca,.slice B x.cip.length cb] 24)).alloc (.cells #[.slice none 0 0,.slice none 0 0] 39)).heap.size := by simp
 have t1 : ¬ (1049600 : Int) < (x.cip.length : Int) := by omega
 by_cases h30 : 3000 < x.bun.length
 ·have t2 : (3000 : Int) < (x.bun.length : Int) := by omega
  have HE := Lib.hid (show packW x = .error 4 by rw [HPK.out,if_pos h30])
  clear h30
  go_enter Tryz.func17,Tryz.ntmps17
  go_upto_region 1 with fail
  generalize ((w.alloc (.cells #[.string (bs x.fr),.string (bs x.too),.string (bs x.id),.string (bs x.th),.bool pz,.slice A x.bun.length ca,.slice B x.cip.length cb] 24)).alloc (.cells #[.slice none 0 0,.slice none 0 0] 39)) = W0 at *
  have a0 := rl.cell (j := 0) rfl
  have a1 := rl.cell (j := 1) rfl
  have f0 := rl.frozen 0
  have f1 := rl.frozen 1
  have k5 := rp.cell (j := 5) rfl
  have k6 := rp.cell (j := 6) rfl
  go_wp2_with fail
  have rF := (rl.set 0 (.slice none 0 0)).set 1 (.slice none 0 0)
  have hBF := (hB0.setCell (p := ⟨w.heap.size + 1,0,none⟩) (by simp) (.slice none 0 0)).setCell (p := ⟨w.heap.size + 1,1,none⟩) (by simp) (.slice none 0 0)
  have e0 := rF.cell (j := 0) rfl
  have e1 := rF.cell (j := 1) rfl
  exact bodyPost_ret (v := .tuple #[.agg #[.slice none 0 0,.slice none 0 0],.int .i64 4]) (by simp [results,Tryz.results17,go_sem,e0,e1]) rfl ⟨wout_err HE.out rfl,hBF⟩
 have t2 : ¬ (3000 : Int) < (x.bun.length : Int) := by omega
 have HPK2 := Lib.hid (show packW x = if enB x = false then .error 3 else .ok (packM x) by rw [HPK.out,if_neg h30])
 clear HPK h30
 go_enter Tryz.func17,Tryz.ntmps17
 go_upto_region 1 with fail
 generalize ((w.alloc (.cells #[.string (bs x.fr),.string (bs x.too),.string (bs x.id),.string (bs x.th),.bool pz,.slice A x.bun.length ca,.slice B x.cip.length cb] 24)).alloc (.cells #[.slice none 0 0,.slice none 0 0] 39)) = W0 at *
 clear hB00
 have k0 := rp.cell (j := 0) rfl
 have k5 := rp.cell (j := 5) rfl
 have k6 := rp.cell (j := 6) rfl
 go_wp2_with fail
 refine (raddress_any x.fr W0 (by omega)).mono ?_
 rintro e w1 ⟨rfl,hb1⟩
 have hB1 := hB0.trans (hb1.mono hB0.size)
 have rp1 := rp.below hb1
 have rl1 := rl.below hb1
 have hz1 : w.heap.size + 2 ≤ w1.heap.size := Nat.le_trans hz0 hb1.size
 clear rp rl hB0 hb1 hz0 k0 k5 k6
 cases hq1 : adB x.fr with
 | false =>
   have HE := Lib.hid (show packW x = .error 3 by rw [HPK2.out,if_pos (show enB x = false by unfold enB; rw [hq1]; simp)])
   have a0 := rl1.cell (j := 0) rfl
   have a1 := rl1.cell (j := 1) rfl
   have f0 := rl1.frozen 0
   have f1 := rl1.frozen 1
   go_wp2_with fail
   have rF := (rl1.set 0 (.slice none 0 0)).set 1 (.slice none 0 0)
   have hBF := (hB1.setCell (p := ⟨w.heap.size + 1,0,none⟩) (by simp) (.slice none 0 0)).setCell (p := ⟨w.heap.size + 1,1,none⟩) (by simp) (.slice none 0 0)
   have e0 := rF.cell (j := 0) rfl
   have e1 := rF.cell (j := 1) rfl
   exact bodyPost_ret (v := .tuple #[.agg #[.slice none 0 0,.slice none 0 0],.int .i64 3]) (by simp [results,Tryz.results17,go_sem,e0,e1]) rfl ⟨wout_err HE.out rfl,hBF⟩
 | true =>
 have k1 := rp1.cell (j := 1) rfl
 go_wp2_with fail
 refine (raddress_any x.too w1 (by omega)).mono ?_
 rintro e w2 ⟨rfl,hb2⟩
 have hB2 := hB1.trans (hb2.mono hB1.size)
 have rp2 := rp1.below hb2
 have rl2 := rl1.below hb2
 have hz2 : w.heap.size + 2 ≤ w2.heap.size := Nat.le_trans hz1 hb2.size
 clear rp1 rl1 hB1 hb2 hz1 k1
 cases hq2 : adB x.too with
 | false =>
   have HE := Lib.hid (show packW x = .error 3 by rw [HPK2.out,if_pos (show enB x = false by unfold enB; rw [hq2]; simp)])
   have a0 := rl2.cell (j := 0) rfl
   have a1 := rl2.cell (j := 1) rfl
   have f0 := rl2.frozen 0
   have f1 := rl2.frozen 1
   go_wp2_with fail
   have rF := (rl2.set 0 (.slice none 0 0)).set 1 (.slice none 0 0)
   have hBF := (hB2.setCell (p := ⟨w.heap.size + 1,0,none⟩) (by simp) (.slice none 0 0)).setCell (p := ⟨w.heap.size + 1,1,none⟩) (by simp) (.slice none 0 0)
   have e0 := rF.cell (j := 0) rfl
   have e1 := rF.cell (j := 1) rfl
   exact bodyPost_ret (v := .tuple #[.agg #[.slice none 0 0,.slice none 0 0],.int .i64 3]) (by simp [results,Tryz.results17,go_sem,e0,e1]) rfl ⟨wout_err HE.out rfl,hBF⟩
 | true =>
 have k2 := rp2.cell (j := 2) rfl
 have k3 := rp2.cell (j := 3) rfl
 go_wp2_with fail
 refine (rid_any x.id w2 (by omega)).mono ?_
 rintro e w' ⟨rfl,hw'⟩
 rw [← hw']
 clear hw'
 cases hq3 : Pk.idOk x.id with
 | false =>
   have HE := Lib.hid (show packW x = .error 3 by rw [HPK2.out,if_pos (show enB x = false by unfold enB; rw [hq3]; simp)])
   have a0 := rl2.cell (j := 0) rfl
   have a1 := rl2.cell (j := 1) rfl
   have f0 := rl2.frozen 0
   have f1 := rl2.frozen 1
   go_wp2_with fail
   have rF := (rl2.set 0 (.slice none 0 0)).set 1 (.slice none 0 0)
   have hBF := (hB2.setCell (p := ⟨w.heap.size + 1,0,none⟩) (by simp) (.slice none 0 0)).setCell (p := ⟨w.heap.size + 1,1,none⟩) (by simp) (.slice none 0 0)
   have e0 := rF.cell (j := 0) rfl
   have e1 := rF.cell (j := 1) rfl
   exact bodyPost_ret (v := .tuple #[.agg #[.slice none 0 0,.slice none 0 0],.int .i64 3]) (by simp [results,Tryz.results17,go_sem,e0,e1]) rfl ⟨wout_err HE.out rfl,hBF⟩
 | true =>
 go_wp2_with fail
 refine (rid_any x.th w2 (by omega)).mono ?_
 rintro e w' ⟨rfl,hw'⟩
 rw [← hw']
 clear hw'
 cases hq4 : Pk.idOk x.th with
 | false =>
   have HE := Lib.hid (show packW x = .error 3 by rw [HPK2.out,if_pos (show enB x = false by unfold enB; rw [hq4]; simp)])
   have a0 := rl2.cell (j := 0) rfl
   have a1 := rl2.cell (j := 1) rfl
   have f0 := rl2.frozen 0
   have f1 := rl2.frozen 1
   go_wp2_with fail
   have rF := (rl2.set 0 (.slice none 0 0)).set 1 (.slice none 0 0)
   have hBF := (hB2.setCell (p := ⟨w.heap.size + 1,0,none⟩) (by simp) (.slice none 0 0)).setCell (p := ⟨w.heap.size + 1,1,none⟩) (by simp) (.slice none 0 0)
   have e0 := rF.cell (j := 0) rfl
   have e1 := rF.cell (j := 1) rfl
   exact bodyPost_ret (v := .tuple #[.agg #[.slice none 0 0,.slice none 0 0],.int .i64 3]) (by simp [results,Tryz.results17,go_sem,e0,e1]) rfl ⟨wout_err HE.out rfl,hBF⟩
 | true =>
 have HE := Lib.hid (show packW x = .ok (packM x) by rw [HPK2.out,if_neg (show ¬ enB x = false by unfold enB; rw [hq1,hq2,hq3,hq4]; decide)])
 clear HPK2 k2 k3 hq1 hq2 hq3 hq4
 have k6 := rp2.cell (j := 6) rfl
 have k4 := (rp2.alloc (.cells #[.string ⟨#[116,101,120,116,47,112,108,97,105,110]⟩,.slice none 0 0,.int .i64 1,.slice B x.cip.length cb,.slice none 0 0] 34)).cell (j := 4) rfl
 go_upto_if 47 with fail
 go_cut [] (fun wx => ∃ v0 v1 v2 v3 v4,Row wx w2.heap.size 34 [v0,v1,v2,v3,v4] ∧ Below w2.heap.size w2 wx ∧ Calls Tryz.prog 34 #[.agg #[v0,v1,v2,v3,v4],.int .i64 0] wx fun e w' => WOut (.ok (inM x)) w' e ∧ Below wx.heap.size wx w')
 case first =>
  have hpl := HPZ.out
  cases pz with
  | true =>
    clear HPZ
    have hal : Below w2.heap.size w2 (w2.alloc (.cells #[.string ⟨#[116,101,120,116,47,112,108,97,105,110]⟩,.slice none 0 0,.int .i64 1,.slice B x.cip.length cb,.slice none 0 0] 34)) := (Below.refl _ _).alloc (Nat.le_refl _) _
    have hBc := hB2.trans (hal.mono hB2.size)
    have hcl := rwl1_any textN [] none 0 0 B x.cip x.cip.length cb none 0 0 (w2.alloc (.cells #[.string ⟨#[116,101,120,116,47,112,108,97,105,110]⟩,.slice none 0 0,.int .i64 1,.slice B x.cip.length cb,.slice none 0 0] 34)) (by simp) pre_kinds.2.2.1 rfl (by omega) (by simp) (by simp) (Rv.nil _ _) c3.2.2 rfl (hB.below hBc) hcb (by omega) c3.1 (by have := c3.2.1; omega)
    go_wp2_with fail
    go_meet
    exact ⟨_,_,_,_,_,Row.new w2 _ 34,hal,hcl.mono fun e w' r => ⟨by unfold inM; rw [if_pos hpl]; exact r.1,r.2⟩⟩
  | false =>
    clear HPZ
    have hcv := Joins.run_convert_bytes_const_at (P := Tryz.prog) ((w2.alloc (.cells #[.string ⟨#[97,112,112,108,105,99,97,116,105,111,110,47,111,99,116,101,116,45,115,116,114,101,97,109]⟩,.slice none 0 0,.int .i64 1,.slice B x.cip.length cb,.slice none 0 0] 34)).alloc (.cells #[.string ⟨#[98,111,117,110,100,97,114,121]⟩,.string ⟨#[100,101,115,112,97,116,99,104,45,112,97,114,116]⟩,.string ⟨#[112,114,111,116,111,99,111,108]⟩,.string ⟨#[97,112,112,108,105,99,97,116,105,111,110,47,120,45,100,101,115,112,97,116,99,104]⟩] 36)) 22 5 #[.int .u8 86,.int .u8 101,.int .u8 114,.int .u8 115,.int .u8 105,.int .u8 111,.int .u8 110,.int .u8 58,.int .u8 32,.int .u8 49] 10 10 (w2.heap.size + 1 + 1) (by simp) Tryz.underlying22 Tryz.underlying5
    go_wp2_with fail
    have r2 : Rv ((w2.alloc (.cells #[.string ⟨#[109,117,108,116,105,112,97,114,116,47,101,110,99,114,121,112,116,101,100]⟩,.slice (some ⟨w2.heap.size + 1,0,none⟩) 2 2,.int .i64 0,.slice none 0 0,.slice (some ⟨w2.heap.size + 1 + 1 + 1,0,none⟩) 2 2] 34)).alloc (.cells #[.string ⟨#[98,111,117,110,100,97,114,121]⟩,.string ⟨#[100,101,115,112,97,116,99,104,45,112,97,114,116]⟩,.string ⟨#[112,114,111,116,111,99,111,108]⟩,.string ⟨#[97,112,112,108,105,99,97,116,105,111,110,47,120,45,100,101,115,112,97,116,99,104]⟩] 36)) (some ⟨w2.heap.size + 1,0,none⟩) (Tk.pcells prms) := by
     have h := Rv_new (w2.alloc (.cells #[.string ⟨#[109,117,108,116,105,112,97,114,116,47,101,110,99,114,121,112,116,101,100]⟩,.slice (some ⟨w2.heap.size + 1,0,none⟩) 2 2,.int .i64 0,.slice none 0 0,.slice (some ⟨w2.heap.size + 1 + 1 + 1,0,none⟩) 2 2] 34)) #[.string ⟨#[98,111,117,110,100,97,114,121]⟩,.string ⟨#[100,101,115,112,97,116,99,104,45,112,97,114,116]⟩,.string ⟨#[112,114,111,116,111,99,111,108]⟩,.string ⟨#[97,112,112,108,105,99,97,116,105,111,110,47,120,45,100,101,115,112,97,116,99,104]⟩] (Tk.pcells prms) 36 rfl
     rw [World.size_alloc] at h
     exact h
    have r3 : Rb (((w2.alloc (.cells #[.string ⟨#[109,117,108,116,105,112,97,114,116,47,101,110,99,114,121,112,116,101,100]⟩,.slice (some ⟨w2.heap.size + 1,0,none⟩) 2 2,.int .i64 0,.slice none 0 0,.slice (some ⟨w2.heap.size + 1 + 1 + 1,0,none⟩) 2 2] 34)).alloc (.cells #[.string ⟨#[98,111,117,110,100,97,114,121]⟩,.string ⟨#[100,101,115,112,97,116,99,104,45,112,97,114,116]⟩,.string ⟨#[112,114,111,116,111,99,111,108]⟩,.string ⟨#[97,112,112,108,105,99,97,116,105,111,110,47,120,45,100,101,115,112,97,116,99,104]⟩] 36)).alloc (.cells #[.int .u8 86,.int .u8 101,.int .u8 114,.int .u8 115,.int .u8 105,.int .u8 111,.int .u8 110,.int .u8 58,.int .u8 32,.int .u8 49] 5 (10,11))) (some ⟨w2.heap.size + 1 + 1,0,none⟩) verB := by
     have h := Rb_new ((w2.alloc (.cells #[.string ⟨#[109,117,108,116,105,112,97,114,116,47,101,110,99,114,121,112,116,101,100]⟩,.slice (some ⟨w2.heap.size + 1,0,none⟩) 2 2,.int .i64 0,.slice none 0 0,.slice (some ⟨w2.heap.size + 1 + 1 + 1,0,none⟩) 2 2] 34)).alloc (.cells #[.string ⟨#[98,111,117,110,100,97,114,121]⟩,.string ⟨#[100,101,115,112,97,116,99,104,45,112,97,114,116]⟩,.string ⟨#[112,114,111,116,111,99,111,108]⟩,.string ⟨#[97,112,112,108,105,99,97,116,105,111,110,47,120,45,100,101,115,112,97,116,99,104]⟩] 36)) verB 5 #[.int .u8 86,.int .u8 101,.int .u8 114,.int .u8 115,.int .u8 105,.int .u8 111,.int .u8 110,.int .u8 58,.int .u8 32,.int .u8 49] rfl 10 (10,11)
     rw [World.size_alloc,World.size_alloc] at h
     exact h
    have r4 : Rv ((((w2.alloc (.cells #[.string ⟨#[109,117,108,116,105,112,97,114,116,47,101,110,99,114,121,112,116,101,100]⟩,.slice (some ⟨w2.heap.size + 1,0,none⟩) 2 2,.int .i64 0,.slice none 0 0,.slice (some ⟨w2.heap.size + 1 + 1 + 1,0,none⟩) 2 2] 34)).alloc (.cells #[.string ⟨#[98,111,117,110,100,97,114,121]⟩,.string ⟨#[100,101,115,112,97,116,99,104,45,112,97,114,116]⟩,.string ⟨#[112,114,111,116,111,99,111,108]⟩,.string ⟨#[97,112,112,108,105,99,97,116,105,111,110,47,120,45,100,101,115,112,97,116,99,104]⟩] 36)).alloc (.cells #[.int .u8 86,.int .u8 101,.int .u8 114,.int .u8 115,.int .u8 105,.int .u8 111,.int .u8 110,.int .u8 58,.int .u8 32,.int .u8 49] 5 (10,11))).alloc (.cells #[.string ⟨#[97,112,112,108,105,99,97,116,105,111,110,47,120,45,100,101,115,112,97,116,99,104]⟩,.slice none 0 0,.int .i64 0,.slice (some ⟨w2.heap.size + 1 + 1,0,none⟩) 10 10,.slice none 0 0,.string ⟨#[97,112,112,108,105,99,97,116,105,111,110,47,111,99,116,101,116,45,115,116,114,101,97,109]⟩,.slice none 0 0,.int .i64 1,.slice B x.cip.length cb,.slice none 0 0] 34)) (some ⟨w2.heap.size + 1 + 1 + 1,0,none⟩) (pvs [pv1 (w2.heap.size + 1 + 1),pv2 B x.cip.length cb]) := by
     have h := Rv_new (((w2.alloc (.cells #[.string ⟨#[109,117,108,116,105,112,97,114,116,47,101,110,99,114,121,112,116,101,100]⟩,.slice (some ⟨w2.heap.size + 1,0,none⟩) 2 2,.int .i64 0,.slice none 0 0,.slice (some ⟨w2.heap.size + 1 + 1 + 1,0,none⟩) 2 2] 34)).alloc (.cells #[.string ⟨#[98,111,117,110,100,97,114,121]⟩,.string ⟨#[100,101,115,112,97,116,99,104,45,112,97,114,116]⟩,.string ⟨#[112,114,111,116,111,99,111,108]⟩,.string ⟨#[97,112,112,108,105,99,97,116,105,111,110,47,120,45,100,101,115,112,97,116,99,104]⟩] 36)).alloc (.cells #[.int .u8 86,.int .u8 101,.int .u8 114,.int .u8 115,.int .u8 105,.int .u8 111,.int .u8 110,.int .u8 58,.int .u8 32,.int .u8 49] 5 (10,11))) #[.string ⟨#[97,112,112,108,105,99,97,116,105,111,110,47,120,45,100,101,115,112,97,116,99,104]⟩,.slice none 0 0,.int .i64 0,.slice (some ⟨w2.heap.size + 1 + 1,0,none⟩) 10 10,.slice none 0 0,.string ⟨#[97,112,112,108,105,99,97,116,105,111,110,47,111,99,116,101,116,45,115,116,114,101,97,109]⟩,.slice none 0 0,.int .i64 1,.slice B x.cip.length cb,.slice none 0 0] (pvs [pv1 (w2.heap.size + 1 + 1),pv2 B x.cip.length cb]) 34 rfl
     rw [World.size_alloc,World.size_alloc,World.size_alloc] at h
     exact h
    have hal : Below w2.heap.size w2 ((((w2.alloc (.cells #[.string ⟨#[109,117,108,116,105,112,97,114,116,47,101,110,99,114,121,112,116,101,100]⟩,.slice (some ⟨w2.heap.size + 1,0,none⟩) 2 2,.int .i64 0,.slice none 0 0,.slice (some ⟨w2.heap.size + 1 + 1 + 1,0,none⟩) 2 2] 34)).alloc (.cells #[.string ⟨#[98,111,117,110,100,97,114,121]⟩,.string ⟨#[100,101,115,112,97,116,99,104,45,112,97,114,116]⟩,.string ⟨#[112,114,111,116,111,99,111,108]⟩,.string ⟨#[97,112,112,108,105,99,97,116,105,111,110,47,120,45,100,101,115,112,97,116,99,104]⟩] 36)).alloc (.cells #[.int .u8 86,.int .u8 101,.int .u8 114,.int .u8 115,.int .u8 105,.int .u8 111,.int .u8 110,.int .u8 58,.int .u8 32,.int .u8 49] 5 (10,11))).alloc (.cells #[.string ⟨#[97,112,112,108,105,99,97,116,105,111,110,47,120,45,100,101,115,112,97,116,99,104]⟩,.slice none 0 0,.int .i64 0,.slice (some ⟨w2.heap.size + 1 + 1,0,none⟩) 10 10,.slice none 0 0,.string ⟨#[97,112,112,108,105,99,97,116,105,111,110,47,111,99,116,101,116,45,115,116,114,101,97,109]⟩,.slice none 0 0,.int .i64 1,.slice B x.cip.length cb,.slice none 0 0] 34)) := ((((Below.refl _ _).alloc (Nat.le_refl _) _).alloc (by simp) _).alloc (by simp; omega) _).alloc (by simp; omega) _
    have r2' := (r2.below ((Below.refl _ _).alloc (Nat.le_refl _) (.cells #[.int .u8 86,.int .u8 101,.int .u8 114,.int .u8 115,.int .u8 105,.int .u8 111,.int .u8 110,.int .u8 58,.int .u8 32,.int .u8 49] 5 (10,11)))).below ((Below.refl _ _).alloc (Nat.le_refl _) (.cells #[.string ⟨#[97,112,112,108,105,99,97,116,105,111,110,47,120,45,100,101,115,112,97,116,99,104]⟩,.slice none 0 0,.int .i64 0,.slice (some ⟨w2.heap.size + 1 + 1,0,none⟩) 10 10,.slice none 0 0,.string ⟨#[97,112,112,108,105,99,97,116,105,111,110,47,111,99,116,101,116,45,115,116,114,101,97,109]⟩,.slice none 0 0,.int .i64 1,.slice B x.cip.length cb,.slice none 0 0] 34))
    have r3' := r3.below ((Below.refl _ _).alloc (Nat.le_refl _) (.cells #[.string ⟨#[97,112,112,108,105,99,97,116,105,111,110,47,120,45,100,101,115,112,97,116,99,104]⟩,.slice none 0 0,.int .i64 0,.slice (some ⟨w2.heap.size + 1 + 1,0,none⟩) 10 10,.slice none 0 0,.string ⟨#[97,112,112,108,105,99,97,116,105,111,110,47,111,99,116,101,116,45,115,116,114,101,97,109]⟩,.slice none 0 0,.int .i64 1,.slice B x.cip.length cb,.slice none 0 0] 34))
    obtain ⟨W4,hW4⟩ : ∃ W,((((w2.alloc (.cells #[.string ⟨#[109,117,108,116,105,112,97,114,116,47,101,110,99,114,121,112,116,101,100]⟩,.slice (some ⟨w2.heap.size + 1,0,none⟩) 2 2,.int .i64 0,.slice none 0 0,.slice (some ⟨w2.heap.size + 1 + 1 + 1,0,none⟩) 2 2] 34)).alloc (.cells #[.string ⟨#[98,111,117,110,100,97,114,121]⟩,.string ⟨#[100,101,115,112,97,116,99,104,45,112,97,114,116]⟩,.string ⟨#[112,114,111,116,111,99,111,108]⟩,.string ⟨#[97,112,112,108,105,99,97,116,105,111,110,47,120,45,100,101,115,112,97,116,99,104]⟩] 36)).alloc (.cells #[.int .u8 86,.int .u8 101,.int .u8 114,.int .u8 115,.int .u8 105,.int .u8 111,.int .u8 110,.int .u8 58,.int .u8 32,.int .u8 49] 5 (10,11))).alloc (.cells #[.string ⟨#[97,112,112,108,105,99,97,116,105,111,110,47,120,45,100,101,115,112,97,116,99,104]⟩,.slice none 0 0,.int .i64 0,.slice (some ⟨w2.heap.size + 1 + 1,0,none⟩) 10 10,.slice none 0 0,.string ⟨#[97,112,112,108,105,99,97,116,105,111,110,47,111,99,116,101,116,45,115,116,114,101,97,109]⟩,.slice none 0 0,.int .i64 1,.slice B x.cip.length cb,.slice none 0 0] 34)) = W := ⟨_,rfl⟩
    have rQ : Row W4 w2.heap.size 34 [.string (bs sealN),.slice (some ⟨w2.heap.size + 1,0,none⟩) 2 2,.int .i64 0,.slice none 0 0,.slice (some ⟨w2.heap.size + 1 + 1 + 1,0,none⟩) 2 2] := by
     rw [← hW4]
     exact ((((Row.new w2 _ 34).alloc _).alloc _).alloc _)
    rw [hW4] at r4 hal r2' r3' ⊢
    clear hW4 r2 r3 hcv
    have hBc := hB2.trans (hal.mono hB2.size)
    have hBr := hB.below hBc
    have two : ∀ (j : Nat) (p : Pv) (m : Mail),[pv1 (w2.heap.size + 1 + 1),pv2 B x.cip.length cb][j]? = some p → [m1P,m2P x.cip][j]? = some m → (p = pv1 (w2.heap.size + 1 + 1) ∧ m = m1P) ∨ (p = pv2 B x.cip.length cb ∧ m = m2P x.cip) := by
     intro j p m hp hm
     match j,hp,hm with
     | 0,hp,hm => cases hp; cases hm; exact .inl ⟨rfl,rfl⟩
     | 1,hp,hm => cases hp; cases hm; exact .inr ⟨rfl,rfl⟩
     | j + 2,hp,hm => simp at hp
    have hm1 := m1_mb
    have hm2 := m2_mb hcip
    have hel := enc1_len hcip
    have hcl := (rwm_any sealN prms (some ⟨w2.heap.size + 1,0,none⟩) 2 2 none 0 (some ⟨w2.heap.size + 1 + 1 + 1,0,none⟩) 2 2 0 [pv1 (w2.heap.size + 1 + 1),pv2 B x.cip.length cb] [m1P,m2P x.cip] bordN W4 (by simp) pre_kinds.2.2.2.1 rfl (by omega) (by decide) (by decide) r2' c4.2.2.1 rfl rfl (by omega) (by omega) r4 c4.2.2.2.1 c4.2.2.2.2 (by omega) (by
     intro j p m hp hm W hW
     rcases two j p m hp hm with ⟨rfl,rfl⟩ | ⟨rfl,rfl⟩
     ·exact rwl0_any oursN [] none 0 0 (some ⟨w2.heap.size + 1 + 1,0,none⟩) verB 10 10 none 0 _ W (by simp) pre_kinds.1 rfl (by omega) (by simp) (by simp) (Rv.nil _ _) c1.2.2.2 rfl (r3'.below hW) (by omega) (by omega) c1.1 (by have := c1.2.2.1; simp only [m1P] at this; omega)
     ·exact rwl1_any octN [] none 0 0 B x.cip x.cip.length cb none 0 _ W (by simp) pre_kinds.2.1 rfl (by omega) (by simp) (by simp) (Rv.nil _ _) c2.2.2.2 rfl (hBr.below hW) hcb (by omega) c2.1 (by have := c2.2.2.1; omega)) (by
     intro m hm
     simp only [List.mem_cons,List.mem_nil_iff,or_false] at hm
     rcases hm with rfl | rfl
     ·exact ⟨c1.1,by have := c1.2.2.1; omega,by simp [m1P],by simp [m1P],hm1.2.1,by have := hm1.2.2; omega⟩
     ·exact ⟨c2.1,by have : (Fd.foldAll (m2P x.cip).1).length ≤ 200 := c2.2.2.1; omega,by simp [m2P],by show (encB 1 x.cip).length ≤ 30000; omega,hm2.2.1,by have := hm2.2.2; omega⟩) (in_split hcip) c4.1 (by have := c4.2.1; omega))
    go_meet
    exact ⟨_,_,_,_,_,rQ,hal,hcl.mono fun e w' r => ⟨by unfold inM; rw [if_neg (by rw [hpl]; decide)]; exact r.1,r.2⟩⟩
 case rest =>
  obtain ⟨v0,v1,v2,v3,v4,rQ,hal,hcl⟩ := hcut
  have y0 := rQ.cell (j := 0) rfl
  have y1 := rQ.cell (j := 1) rfl
  have y2 := rQ.cell (j := 2) rfl
  have y3 := rQ.cell (j := 3) rfl
  have y4 := rQ.cell (j := 4) rfl
  go_wp2_with fail
  refine hcl.mono ?_
  rintro e w6 ⟨hwo',hb6⟩
  have hbx : Below w2.heap.size w2 w6 := hal.trans (hb6.mono hal.size)
  clear hal hb6 k4 k6 y0 y1 y2 y3 y4 rQ hcl
  obtain ⟨LA,lc,LB,lc2,rfl,hRf,hRb,h2c,h2m,hplB⟩ := hwo'
  have hB6 := hB2.trans (hbx.mono hB2.size)
  have rp6 := rp2.below hbx
  have rl6 := rl2.below hbx
  have hz6 : w.heap.size + 2 ≤ w6.heap.size := Nat.le_trans hz2 hbx.size
  clear rp2 rl2 hbx hB2 hz2
  obtain ⟨M,hM⟩ : ∃ m,inM x = m := ⟨_,rfl⟩
  have HEM := Lib.hid (show packM x = (headP x ++ M.1,M.2) by rw [← hM]; rfl)
  have hfl2 := (in_ok x).2.2
  rw [hM] at hRf hRb h2c hfl2 ⊢
  clear hM
  obtain ⟨fs,bd⟩ := M
  simp only at hRf hRb h2c hfl2 ⊢
  obtain ⟨nf,hnf⟩ : ∃ k,fs.length = k := ⟨_,rfl⟩
  obtain ⟨nb,hnb⟩ : ∃ k,bd.length = k := ⟨_,rfl⟩
  rw [hnf] at hfl2
  rw [hnb] at h2c
  have HNF := Lib.hid hnf
  have HNB := Lib.hid hnb
  rw [hnf,hnb]
  clear hnf hnb
  have hal1 : Below w6.heap.size w6 (w6.alloc (.cells #[.slice LA nf lc,.slice LB nb lc2] 39)) := (Below.refl _ _).alloc (Nat.le_refl _) _
  have hal2 : Below w6.heap.size w6 ((w6.alloc (.cells #[.slice LA nf lc,.slice LB nb lc2] 39)).alloc (.cells #[.slice none 0 0,.slice LB nb lc2] 39)) := hal1.alloc hal1.size _
  have rp7 := rp6.below hal2
  have rl7 := rl6.below hal2
  have rM7 : Row ((w6.alloc (.cells #[.slice LA nf lc,.slice LB nb lc2] 39)).alloc (.cells #[.slice none 0 0,.slice LB nb lc2] 39)) w6.heap.size 39 [.slice LA nf lc,.slice LB nb lc2] := (Row.new w6 #[.slice LA nf lc,.slice LB nb lc2] 39).alloc _
  have rL7 : Row ((w6.alloc (.cells #[.slice LA nf lc,.slice LB nb lc2] 39)).alloc (.cells #[.slice none 0 0,.slice LB nb lc2] 39)) (w6.heap.size + 1) 39 [.slice none 0 0,.slice LB nb lc2] := by
   have h := Row.new (w6.alloc (.cells #[.slice LA nf lc,.slice LB nb lc2] 39)) #[.slice none 0 0,.slice LB nb lc2] 39
   rw [World.size_alloc] at h
   exact h
  have hf7 : Fd.Rf ((w6.alloc (.cells #[.slice LA nf lc,.slice LB nb lc2] 39)).alloc (.cells #[.slice none 0 0,.slice LB nb lc2] 39)) LA fs := Rv.below hRf hal2
  have hb7 := hRb.below hal2
  have hB7 := hB6.trans (hal2.mono hB6.size)
  have hzb : w6.heap.size + 2 ≤ ((w6.alloc (.cells #[.slice LA nf lc,.slice LB nb lc2] 39)).alloc (.cells #[.slice none 0 0,.slice LB nb lc2] 39)).heap.size := by simp
  go_upto_region 13 with fail
  obtain ⟨V0,hV0⟩ : ∃ V,((w6.alloc (.cells #[.slice LA nf lc,.slice LB nb lc2] 39)).alloc (.cells #[.slice none 0 0,.slice LB nb lc2] 39)) = V := ⟨_,rfl⟩
  rw [hV0] at rp7 rl7 rM7 rL7 hf7 hb7 hB7 hzb ⊢
  have hk6 : ∀ b o,b < w6.heap.size → V0.cell? ⟨b,o,none⟩ = w6.cell? ⟨b,o,none⟩ := fun b o hb => by rw [← hV0]; exact hal2.cell (p := ⟨b,o,none⟩) hb
  clear hV0 hal1 hal2 rp6 rl6 hB6 hf7 hb7
  have hC0 : Below (w6.heap.size + 1) V0 V0 := Below.refl _ _
  obtain ⟨v0,hv0⟩ : ∃ v,v = Value.slice none 0 0 := ⟨_,rfl⟩
  have own0 : V0.ownsRow (w6.heap.size + 2) 73 2 (.slice none 0 0) 0 [] := World.ownsRow_nil _ _ _ _
  clear hv0 v0
  obtain ⟨H1,hH1⟩ : ∃ l,l = [(frN,x.fr),(toN,x.too)] := ⟨_,rfl⟩
  have H1E : ([] : List Value) ++ Fd.fcells [(frN,x.fr),(toN,x.too)] = Fd.fcells H1 := by rw [hH1]; rfl
  have d0 := rL7.cell (j := 0) rfl
  have d1 := rp7.cell (j := 0) rfl
  have d2 := rp7.cell (j := 1) rfl
  have alX : Below V0.heap.size V0 (V0.alloc (.cells #[.string ⟨#[70,114,111,109]⟩,.string (bs x.fr),.string ⟨#[84,111]⟩,.string (bs x.too)] 73)) := (Below.refl _ _).alloc (Nat.le_refl _) _
  have ownX : (V0.alloc (.cells #[.string ⟨#[70,114,111,109]⟩,.string (bs x.fr),.string ⟨#[84,111]⟩,.string (bs x.too)] 73)).ownsRow (w6.heap.size + 2) 73 2 (.slice none 0 0) 0 ([]) := own0.alloc _
  have srcX : Src Tryz.prog 2 37 (.slice (some ⟨V0.heap.size,0,none⟩) 2 2) 2 (Fd.fcells [(frN,x.fr),(toN,x.too)]) (V0.alloc (.cells #[.string ⟨#[70,114,111,109]⟩,.string (bs x.fr),.string ⟨#[84,111]⟩,.string (bs x.too)] 73)) := Src_rv (news := Fd.fcells [(frN,x.fr),(toN,x.too)]) Tryz.underlying37 rfl (Rv_new V0 _ _ _ rfl) (by simp [Fd.fcells,Value.oneCell',Fd.strv]) (by omega)
  have rLX := rL7.alloc (.cells #[.string ⟨#[70,114,111,109]⟩,.string (bs x.fr),.string ⟨#[84,111]⟩,.string (bs x.too)] 73)
  have hCX := hC0.alloc (by have := hC0.size; omega) (.cells #[.string ⟨#[70,114,111,109]⟩,.string (bs x.fr),.string ⟨#[84,111]⟩,.string (bs x.too)] 73)
  have hsX : w6.heap.size + 2 ≤ (V0.alloc (.cells #[.string ⟨#[70,114,111,109]⟩,.string (bs x.fr),.string ⟨#[84,111]⟩,.string (bs x.too)] 73)).heap.size := by have := hC0.size; rw [World.size_alloc]; omega
  go_upto_region 14 with (at_builtin; refine wpList_app rfl _ _ _ _ rfl Fd.TField ownX rfl srcX rfl (by omega) hsX ?_; intro vY wY ownY grY atY; have ownZ : wY.ownsRow (w6.heap.size + 2) 73 2 vY 2 (Fd.fcells H1) := (H1E ▸ ownY); obtain ⟨A1,c1',hvY,_,_,_,_⟩ := own_form ownZ; subst hvY; have hbY := below_app (Below.refl (w6.heap.size + 2) _) ownX grY hsX (Nat.le_refl _); have hCY := hCX.trans (hbY.mono (by omega)); have rLY := rLX.block (hbY.block _ (by omega)); have yY := rLY.cell (j := 0) rfl; have fY := rLY.frozen 0)
  have rL8 := rLY.set 0 (.slice A1 2 c1')
  have hC1 := hCY.setCell (p := ⟨w6.heap.size + 1,0,none⟩) (Nat.le_refl _) (.slice A1 2 c1')
  have own1 := ownsRow_setCell_below ownZ (a := ⟨w6.heap.size + 1,0,none⟩) (by simp) (.slice A1 2 c1')
  clear rLY hCY ownZ ownY grY atY hbY yY fY ownX srcX rLX hCX hsX alX rL7 hC0 own0 d0 d1 d2
  obtain ⟨V1,hV1⟩ : ∃ V,wY.setCell ⟨w6.heap.size + 1,0,none⟩ (.slice A1 2 c1') = V := ⟨_,rfl⟩
  rw [hV1] at rL8 hC1 own1 ⊢
  clear hV1
  have rp8 := rp7.block (hC1.block _ (by omega))
  obtain ⟨H2,hH2⟩ : ∃ l,l = H1 ++ [(midN,[60] ++ x.id ++ [62]),(thrN,[60] ++ x.th ++ [62])] := ⟨_,rfl⟩
  have H2E : Fd.fcells H1 ++ Fd.fcells [(midN,[60] ++ x.id ++ [62]),(thrN,[60] ++ x.th ++ [62])] = Fd.fcells H2 := by rw [hH2]; unfold Fd.fcells; rw [List.flatMap_append]
  have d0 := rL8.cell (j := 0) rfl
  have d1 := rp8.cell (j := 2) rfl
  have d2 := rp8.cell (j := 3) rfl
  have alX : Below V1.heap.size V1 (V1.alloc (.cells #[.string ⟨#[77,101,115,115,97,103,101,45,73,68]⟩,.string ((⟨#[60]⟩ : ByteArray) ++ bs x.id ++ ⟨#[62]⟩),.string ⟨#[88,45,84,104,114,101,97,100]⟩,.string ((⟨#[60]⟩ : ByteArray) ++ bs x.th ++ ⟨#[62]⟩)] 73)) := (Below.refl _ _).alloc (Nat.le_refl _) _
  have ownX : (V1.alloc (.cells #[.string ⟨#[77,101,115,115,97,103,101,45,73,68]⟩,.string ((⟨#[60]⟩ : ByteArray) ++ bs x.id ++ ⟨#[62]⟩),.string ⟨#[88,45,84,104,114,101,97,100]⟩,.string ((⟨#[60]⟩ : ByteArray) ++ bs x.th ++ ⟨#[62]⟩)] 73)).ownsRow (w6.heap.size + 2) 73 2 (.slice A1 2 c1') 2 (Fd.fcells H1) := own1.alloc _
  have srcX : Src Tryz.prog 2 37 (.slice (some ⟨V1.heap.size,0,none⟩) 2 2) 2 (Fd.fcells [(midN,[60] ++ x.id ++ [62]),(thrN,[60] ++ x.th ++ [62])]) (V1.alloc (.cells #[.string ⟨#[77,101,115,115,97,103,101,45,73,68]⟩,.string ((⟨#[60]⟩ : ByteArray) ++ bs x.id ++ ⟨#[62]⟩),.string ⟨#[88,45,84,104,114,101,97,100]⟩,.string ((⟨#[60]⟩ : ByteArray) ++ bs x.th ++ ⟨#[62]⟩)] 73)) := Src_rv (news := Fd.fcells [(midN,[60] ++ x.id ++ [62]),(thrN,[60] ++ x.th ++ [62])]) Tryz.underlying37 rfl (Rv_new V1 _ _ _ (by rw [bs_lt x.id,bs_lt x.th]; rfl)) (by simp [Fd.fcells,Value.oneCell',Fd.strv]) (by omega)
  have rLX := rL8.alloc (.cells #[.string ⟨#[77,101,115,115,97,103,101,45,73,68]⟩,.string ((⟨#[60]⟩ : ByteArray) ++ bs x.id ++ ⟨#[62]⟩),.string ⟨#[88,45,84,104,114,101,97,100]⟩,.string ((⟨#[60]⟩ : ByteArray) ++ bs x.th ++ ⟨#[62]⟩)] 73)
  have hCX := hC1.alloc (by have := hC1.size; omega) (.cells #[.string ⟨#[77,101,115,115,97,103,101,45,73,68]⟩,.string ((⟨#[60]⟩ : ByteArray) ++ bs x.id ++ ⟨#[62]⟩),.string ⟨#[88,45,84,104,114,101,97,100]⟩,.string ((⟨#[60]⟩ : ByteArray) ++ bs x.th ++ ⟨#[62]⟩)] 73)
  have hsX : w6.heap.size + 2 ≤ (V1.alloc (.cells #[.string ⟨#[77,101,115,115,97,103,101,45,73,68]⟩,.string ((⟨#[60]⟩ : ByteArray) ++ bs x.id ++ ⟨#[62]⟩),.string ⟨#[88,45,84,104,114,101,97,100]⟩,.string ((⟨#[60]⟩ : ByteArray) ++ bs x.th ++ ⟨#[62]⟩)] 73)).heap.size := by have := hC1.size; rw [World.size_alloc]; omega
  go_upto_region 15 with (at_builtin; refine wpList_app rfl _ _ _ _ rfl Fd.TField ownX rfl srcX rfl (by omega) hsX ?_; intro vY wY ownY grY atY; have ownZ : wY.ownsRow (w6.heap.size + 2) 73 2 vY 4 (Fd.fcells H2) := (H2E ▸ ownY); obtain ⟨A2,c2',hvY,_,_,_,_⟩ := own_form ownZ; subst hvY; have hbY := below_app (Below.refl (w6.heap.size + 2) _) ownX grY hsX (Nat.le_refl _); have hCY := hCX.trans (hbY.mono (by omega)); have rLY := rLX.block (hbY.block _ (by omega)); have yY := rLY.cell (j := 0) rfl; have fY := rLY.frozen 0)
  have rL9 := rLY.set 0 (.slice A2 4 c2')
  have hC2 := hCY.setCell (p := ⟨w6.heap.size + 1,0,none⟩) (Nat.le_refl _) (.slice A2 4 c2')
  have own2 := ownsRow_setCell_below ownZ (a := ⟨w6.heap.size + 1,0,none⟩) (by simp) (.slice A2 4 c2')
  clear rLY hCY ownZ ownY grY atY hbY yY fY ownX srcX rLX hCX hsX alX rL8 hC1 own1 d0 d1 d2
  obtain ⟨V2,hV2⟩ : ∃ V,wY.setCell ⟨w6.heap.size + 1,0,none⟩ (.slice A2 4 c2') = V := ⟨_,rfl⟩
  rw [hV2] at rL9 hC2 own2 ⊢
  clear hV2
  have rp9 := rp7.block (hC2.block _ (by omega))
  have x5 := rp9.cell (j := 5) rfl
  have HHA := Lib.hid (show headP x = H2 ++ (if x.bun = [] then [] else [(keyN,Ar.enc x.bun)]) by rw [hH2,hH1]; rfl)
  have HL2 : H2.length = 4 := by rw [hH2,hH1]; rfl
  clear hH2 hH1 H1E H2E rp8
  rcases Nat.eq_zero_or_pos x.bun.length with hn0 | hn0
  ·have hbn : x.bun = [] := List.eq_nil_of_length_eq_zero hn0
   have HHD := Lib.hid (show headP x = H2 by rw [HHA.out,if_pos hbn,List.append_nil])
   have HHN := Lib.hid HL2
   have t3 : ¬ (0 : Int) < (x.bun.length : Int) := by omega
   clear hbn hn0 HL2
   go_upto_region 17 with fail
   have rpV := rp7.block (hC2.block _ (by omega))
   have rMV := rM7.block (hC2.block _ (by omega))
   have rlV := rl7.block (hC2.block _ (by omega))
   have hfV : Fd.Rf V2 LA fs := Rv.keep hRf (fun b o hb => (hC2.cell (p := ⟨b,o,none⟩) (by show b < w6.heap.size + 1; omega)).trans (hk6 b o hb))
   have hsV : w6.heap.size + 2 ≤ V2.heap.size := Nat.le_trans hzb hC2.size
   have d0 := rL9.cell (j := 0) rfl
   have d1 := rMV.cell (j := 0) rfl
   go_upto_region 18 with (at_builtin; refine wpList_app rfl _ _ _ _ rfl Fd.TField own2 rfl (Fd.Src_rf (c := lc) HNF.out hfV) rfl (by omega) hsV ?_; intro vF wF ownF grF atF; obtain ⟨AF,cF,hvF,_,_,_,_⟩ := own_form ownF; subst hvF; have hbF := below_app (Below.refl (w6.heap.size + 2) _) own2 grF hsV (Nat.le_refl _); have hCF := hC2.trans (hbF.mono (by omega)); have rLF := rL9.block (hbF.block _ (by omega)); have yF := rLF.cell (j := 0) rfl; have fF := rLF.frozen 0)
   have rLG := rLF.set 0 (.slice AF (4 + nf) cF)
   have hCG := hCF.setCell (p := ⟨w6.heap.size + 1,0,none⟩) (Nat.le_refl _) (.slice AF (4 + nf) cF)
   have ownG := ownsRow_setCell_below ownF (a := ⟨w6.heap.size + 1,0,none⟩) (by simp) (.slice AF (4 + nf) cF)
   obtain ⟨VG,hVG⟩ : ∃ V,wF.setCell ⟨w6.heap.size + 1,0,none⟩ (.slice AF (4 + nf) cF) = V := ⟨_,rfl⟩
   rw [hVG] at rLG hCG ownG ⊢
   clear hVG rLF hCF ownF grF atF hbF yF fF rpV rMV rlV hfV hsV d0 d1
   have rlG := rl7.block (hCG.block _ (by omega))
   have d0 := rLG.cell (j := 0) rfl
   have d1 := rLG.cell (j := 1) rfl
   have m0 := rlG.cell (j := 0) rfl
   have n0 := rlG.frozen 0
   have m1 := rlG.cell (j := 1) rfl
   have n1 := rlG.frozen 1
   go_wp2_with fail
   have hfG : Fd.Rf VG AF (H2 ++ fs) := by
    have h := (own_rv ownG).1
    unfold Fd.Rf
    rw [show Fd.fcells (H2 ++ fs) = Fd.fcells H2 ++ Fd.fcells fs from by unfold Fd.fcells; rw [List.flatMap_append]]
    exact h
   have hbG : Rb VG LB bd := Rv.keep hRb (fun b o hb => (hCG.cell (p := ⟨b,o,none⟩) (by show b < w6.heap.size + 1; omega)).trans (hk6 b o hb))
   have r13 := rlG.set 0 (.slice AF (4 + nf) cF)
   have r14 := r13.set 1 (.slice LB nb lc2)
   have hFF := Rv_setFar r13 (Rv_setFar rlG hfG (sl_fields (two_sl _ _ _ _ _ _) _) 0 (.slice AF (4 + nf) cF)) (sl_fields (two_sl _ _ _ _ _ _) _) 1 (.slice LB nb lc2)
   have hEF := Rv_setFar r13 (Rv_setFar rlG hbG (sl_bytes (two_sl _ _ _ _ _ _) _) 0 (.slice AF (4 + nf) cF)) (sl_bytes (two_sl _ _ _ _ _ _) _) 1 (.slice LB nb lc2)
   have hBG : Below w.heap.size w VG := hB7.trans (hCG.mono (by omega))
   have hBF := (hBG.setCell (p := ⟨w.heap.size + 1,0,none⟩) (by simp) (.slice AF (4 + nf) cF)).setCell (p := ⟨w.heap.size + 1,1,none⟩) (by simp) (.slice LB nb lc2)
   have e0 := r14.cell (j := 0) rfl
   have e1 := r14.cell (j := 1) rfl
   refine bodyPost_ret (v := .tuple #[.agg #[.slice AF (4 + nf) cF,.slice LB nb lc2],.int .i64 0]) (by simp [results,Tryz.results17,go_sem,e0,e1]) rfl ⟨?_,hBF⟩
   rw [HE.out,HEM.out,HHD.out]
   exact ⟨AF,cF,LB,lc2,by simp only [List.length_append,HHN.out,HNF.out,HNB.out],hFF,hEF,by simp only [HNB.out]; exact h2c,h2m,hplB⟩
  ·have hbn : x.bun ≠ [] := fun h => by rw [h] at hn0; simp at hn0
   have HHD := Lib.hid (show headP x = H2 ++ [(keyN,Ar.enc x.bun)] by rw [HHA.out,if_neg hbn])
   have HHN := Lib.hid (show (H2 ++ [(keyN,Ar.enc x.bun)]).length = 5 by rw [List.length_append,HL2]; rfl)
   have t3 : (0 : Int) < (x.bun.length : Int) := by omega
   have hE : ∀ W,Below V2.heap.size V2 W → Calls Tryz.prog 35 #[.slice A x.bun.length ca] W fun e w' => e = .returned (.string (bs (Ar.enc x.bun))) ∧ Below W.heap.size W w' := fun W hW => Ar.refE_any A x.bun x.bun.length ca W rfl (hA.below (hB7.trans ((hC2.trans (hW.mono (by have := hC2.size; omega))).mono (by omega)))) hca (by omega)
   obtain ⟨es,hes⟩ : ∃ l,Ar.enc x.bun = l := ⟨_,rfl⟩
   rw [hes] at hE HHD HHN
   clear hbn hn0 HL2 hes
   have z0 := rL9.cell (j := 0) rfl
   have h00 : Below V2.heap.size V2 V2.drew := (Below.refl _ _).drew
   go_upto_region 16 with fail
   go_region_law (first
    | (refine step_app rfl (.tmp 101) (.tmp 106) _ _ rfl Fd.TField ownX (by simp [Act.eval,Act.put]) srcX (by simp [Act.eval,Act.put,Fd.strv]) (by omega) hsX ?_; intro vY wY ownY grY atY; have ownZ := ownY; obtain ⟨A3,c3',hvY,_,_,_,_⟩ := own_form ownZ; subst hvY; have hbY := below_app (Below.refl (w6.heap.size + 2) _) ownX grY hsX (Nat.le_refl _); have hCY := hCX.trans (hbY.mono (by omega)); have rLY := rLX.block (hbY.block _ (by omega)); have yY := rLY.cell (j := 0) rfl; have fY := rLY.frozen 0)
    | (go_simp; go_at_call 35; (with_reducible refine (hE _ h00).mono ?_); rintro e w5 ⟨rfl,hb5⟩; have hb5' : Below V2.heap.size V2 w5 := h00.trans (hb5.mono (Nat.le_refl _)); have ow5 := own_below own2 hb5'; have rL5 := rL9.below hb5'; have z05 := rL5.cell (j := 0) rfl; have hC5 := hC2.trans (hb5'.mono (by have := hC2.size; omega)); have ownX : (w5.alloc (.cells #[.string ⟨#[88,45,75,101,121,115]⟩,.string (bs es)] 73)).ownsRow (w6.heap.size + 2) 73 2 (.slice A2 4 c2') 4 (Fd.fcells H2) := ow5.alloc _; have srcX : Src Tryz.prog 2 37 (.slice (some ⟨w5.heap.size,0,none⟩) 1 1) 1 (Fd.fcells [(keyN,es)]) (w5.alloc (.cells #[.string ⟨#[88,45,75,101,121,115]⟩,.string (bs es)] 73)) := Src_rv (news := Fd.fcells [(keyN,es)]) Tryz.underlying37 rfl (Rv_new w5 _ _ _ rfl) (by simp [Fd.fcells,Value.oneCell',Fd.strv]) (by omega); have rLX := rL5.alloc (.cells #[.string ⟨#[88,45,75,101,121,115]⟩,.string (bs es)] 73); have hCX := hC5.alloc (by have := hC5.size; omega) (.cells #[.string ⟨#[88,45,75,101,121,115]⟩,.string (bs es)] 73); have hsX : w6.heap.size + 2 ≤ (w5.alloc (.cells #[.string ⟨#[88,45,75,101,121,115]⟩,.string (bs es)] 73)).heap.size := (by have := hC5.size; rw [World.size_alloc]; omega); have z06 := rLX.cell (j := 0) rfl))
   all_goals
    have rL10 := rLY.set 0 (.slice A3 5 c3')
    have hC3 := hCY.setCell (p := ⟨w6.heap.size + 1,0,none⟩) (Nat.le_refl _) (.slice A3 5 c3')
    have own3 : (wY.setCell ⟨w6.heap.size + 1,0,none⟩ (.slice A3 5 c3')).ownsRow (w6.heap.size + 2) 73 2 (.slice A3 5 c3') 5 (Fd.fcells (H2 ++ [(keyN,es)])) := by
     have h := ownsRow_setCell_below ownZ (a := ⟨w6.heap.size + 1,0,none⟩) (by simp) (.slice A3 5 c3')
     rw [show Fd.fcells (H2 ++ [(keyN,es)]) = Fd.fcells H2 ++ Fd.fcells [(keyN,es)] from by unfold Fd.fcells; rw [List.flatMap_append]]
     exact h
    clear rLY hCY ownZ ownY grY atY hbY yY fY ownX srcX rLX hCX hsX ow5 rL5 hC5 hb5' hb5 rL9 hC2 own2 rp9 x5 z0 h00 hE t3
    obtain ⟨V3,hV3⟩ : ∃ V,wY.setCell ⟨w6.heap.size + 1,0,none⟩ (.slice A3 5 c3') = V := ⟨_,rfl⟩
    rw [hV3] at rL10 hC3 own3 ⊢
    clear hV3
    have rpV := rp7.block (hC3.block _ (by omega))
    have rMV := rM7.block (hC3.block _ (by omega))
    have rlV := rl7.block (hC3.block _ (by omega))
    have hfV : Fd.Rf V3 LA fs := Rv.keep hRf (fun b o hb => (hC3.cell (p := ⟨b,o,none⟩) (by show b < w6.heap.size + 1; omega)).trans (hk6 b o hb))
    have hsV : w6.heap.size + 2 ≤ V3.heap.size := Nat.le_trans hzb hC3.size
    have d0 := rL10.cell (j := 0) rfl
    have d1 := rMV.cell (j := 0) rfl
    go_upto_region 18 with (at_builtin; refine wpList_app rfl _ _ _ _ rfl Fd.TField own3 rfl (Fd.Src_rf (c := lc) HNF.out hfV) rfl (by omega) hsV ?_; intro vF wF ownF grF atF; obtain ⟨AF,cF,hvF,_,_,_,_⟩ := own_form ownF; subst hvF; have hbF := below_app (Below.refl (w6.heap.size + 2) _) own3 grF hsV (Nat.le_refl _); have hCF := hC3.trans (hbF.mono (by omega)); have rLF := rL10.block (hbF.block _ (by omega)); have yF := rLF.cell (j := 0) rfl; have fF := rLF.frozen 0)
    have rLG := rLF.set 0 (.slice AF (5 + nf) cF)
    have hCG := hCF.setCell (p := ⟨w6.heap.size + 1,0,none⟩) (Nat.le_refl _) (.slice AF (5 + nf) cF)
    have ownG := ownsRow_setCell_below ownF (a := ⟨w6.heap.size + 1,0,none⟩) (by simp) (.slice AF (5 + nf) cF)
    obtain ⟨VG,hVG⟩ : ∃ V,wF.setCell ⟨w6.heap.size + 1,0,none⟩ (.slice AF (5 + nf) cF) = V := ⟨_,rfl⟩
    rw [hVG] at rLG hCG ownG ⊢
    clear hVG rLF hCF ownF grF atF hbF yF fF rpV rMV rlV hfV hsV d0 d1
    have rlG := rl7.block (hCG.block _ (by omega))
    have d0 := rLG.cell (j := 0) rfl
    have d1 := rLG.cell (j := 1) rfl
    have m0 := rlG.cell (j := 0) rfl
    have n0 := rlG.frozen 0
    have m1 := rlG.cell (j := 1) rfl
    have n1 := rlG.frozen 1
    go_wp2_with fail
    have hfG : Fd.Rf VG AF ((H2 ++ [(keyN,es)]) ++ fs) := by
     have h := (own_rv ownG).1
     unfold Fd.Rf
     rw [show Fd.fcells ((H2 ++ [(keyN,es)]) ++ fs) = Fd.fcells (H2 ++ [(keyN,es)]) ++ Fd.fcells fs from by unfold Fd.fcells; rw [List.flatMap_append]]
     exact h
    have hbG : Rb VG LB bd := Rv.keep hRb (fun b o hb => (hCG.cell (p := ⟨b,o,none⟩) (by show b < w6.heap.size + 1; omega)).trans (hk6 b o hb))
    have r13 := rlG.set 0 (.slice AF (5 + nf) cF)
    have r14 := r13.set 1 (.slice LB nb lc2)
    have hFF := Rv_setFar r13 (Rv_setFar rlG hfG (sl_fields (two_sl _ _ _ _ _ _) _) 0 (.slice AF (5 + nf) cF)) (sl_fields (two_sl _ _ _ _ _ _) _) 1 (.slice LB nb lc2)
    have hEF := Rv_setFar r13 (Rv_setFar rlG hbG (sl_bytes (two_sl _ _ _ _ _ _) _) 0 (.slice AF (5 + nf) cF)) (sl_bytes (two_sl _ _ _ _ _ _) _) 1 (.slice LB nb lc2)
    have hBG : Below w.heap.size w VG := hB7.trans (hCG.mono (by omega))
    have hBF := (hBG.setCell (p := ⟨w.heap.size + 1,0,none⟩) (by simp) (.slice AF (5 + nf) cF)).setCell (p := ⟨w.heap.size + 1,1,none⟩) (by simp) (.slice LB nb lc2)
    have e0 := r14.cell (j := 0) rfl
    have e1 := r14.cell (j := 1) rfl
    refine bodyPost_ret (v := .tuple #[.agg #[.slice AF (5 + nf) cF,.slice LB nb lc2],.int .i64 0]) (by simp [results,Tryz.results17,go_sem,e0,e1]) rfl ⟨?_,hBF⟩
    rw [HE.out,HEM.out,HHD.out]
    exact ⟨AF,cF,LB,lc2,by simp only [List.length_append,HHN.out,HNF.out,HNB.out],hFF,hEF,by simp only [HNB.out]; exact h2c,h2m,hplB⟩
end
end Go.Proofs.YtkllecicddfjpaaGreatDoor
