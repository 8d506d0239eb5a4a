/- The walk of the law, part 49. -/
import Derived.Test.YtkllecicddfjpaaGreatDoorJ44
import Derived.Test.YtkllecicddfjpaaGreatDoorJ45
import Derived.Test.YtkllecicddfjpaaGreatDoorJ48
set_option maxRecDepth 100000
set_option maxHeartbeats 16000000
set_option linter.unusedVariables false
set_option linter.unusedSimpArgs false
namespace Go.Proofs.YtkllecicddfjpaaGreatDoor
section
open Go.RowKit
def codO : Except Nat Mail → Int
 | .ok _ => 0
 | .error k => (k : Int)
def fsO : Except Nat Mail → List (List UInt8 × List UInt8)
 | .ok m => m.1
 | .error _ => []
def bdO : Except Nat Mail → List UInt8
 | .ok m => m.2
 | .error _ => []
theorem wout_form {o : Except Nat Mail} {w' : World} {e : Ending} (h : WOut o w' e) : ∃ A c B d,e = .returned (.tuple #[.agg #[.slice A (fsO o).length c,.slice B (bdO o).length d],.int .i64 (codO o)]) ∧ Fd.Rf w' A (fsO o) ∧ Rb w' B (bdO o) ∧ (bdO o).length ≤ d ∧ d ≤ maxLen ∧ Pl B d := by
 cases o with
 | error k => exact ⟨none,0,none,0,h,Rv.nil _ _,Rb.nil _ _,Nat.le_refl _,by unfold maxLen; omega,.inl ⟨rfl,rfl⟩⟩
 | ok m =>
   obtain ⟨A,c,B,d,h1,h2,h3,h4,h5,h6⟩ := h
   exact ⟨A,c,B,d,h1,h2,h3,h4,h5,h6⟩
theorem pack_cases {x : En} (h : greatE x = false) : (∃ k,packW x = .error k ∧ 1 ≤ k) ∨ (packW x = .ok (packM x) ∧ enB x = true ∧ x.bun.length ≤ 3000) := by
 obtain ⟨_,_,_,_,h5,_⟩ := greatE_no h
 rw [packW_is h5]
 by_cases h1 : 3000 < x.bun.length
 ·exact .inl ⟨4,by rw [if_pos h1],by omega⟩
 ·rw [if_neg h1]
  cases h2 : enB x with
  | false => exact .inl ⟨3,by rw [if_pos rfl],by omega⟩
  | true => exact .inr ⟨by rw [if_neg (by decide)],rfl,by omega⟩
theorem pack_lens {x : En} (h : greatE x = false) : (fsO (packW x)).length ≤ 7 ∧ (bdO (packW x)).length ≤ 20000 := by
 obtain ⟨g1,g2,_,_,g5,_⟩ := greatE_no h
 rcases pack_cases h with ⟨k,hk,_⟩ | ⟨hk,he,hb⟩
 ·rw [hk]
  exact ⟨Nat.zero_le _,Nat.zero_le _⟩
 ·rw [hk]
  obtain ⟨_,_,h1,h2⟩ := pack_mb he hb g1 g2 g5
  exact ⟨h1,h2⟩
theorem packWrites_any (x : En) (A : Option Addr) (ca : Nat) (B : Option Addr) (cb : Nat) (w : World) (hG : Gm w) (hA : Rb w A x.bun) (hca : x.bun.length ≤ ca) (hB : Rb w B x.cip) (hcb : x.cip.length ≤ cb) :
 Calls Tryz.prog 6 #[env x A ca B cb] w fun e w' => e = .returned (.bool true) ∧ Below w.heap.size w w' := by
 have hgr := fun W => great13_any x A ca B cb W
 unfold env at hgr ⊢
 have hBa : Below w.heap.size w (w.alloc (.cells #[.string (bs x.fr),.string (bs x.too),.string (bs x.id),.string (bs x.th),.bool x.plain,.slice A x.bun.length ca,.slice B x.cip.length cb] 24)) := (Below.refl _ _).alloc (Nat.le_refl _) _
 have r1 := Row.new w #[.string (bs x.fr),.string (bs x.too),.string (bs x.id),.string (bs x.th),.bool x.plain,.slice A x.bun.length ca,.slice B x.cip.length cb] 24
 go_enter Tryz.func6,Tryz.ntmps6
 go_wp2_with fail
 generalize w.alloc (.cells #[.string (bs x.fr),.string (bs x.too),.string (bs x.id),.string (bs x.th),.bool x.plain,.slice A x.bun.length ca,.slice B x.cip.length cb] 24) = Wa at *
 refine (speaks13_any Wa (hG.below hBa)).mono ?_
 rintro e w0 ⟨rfl,hb0⟩
 have hB0 := hBa.trans (hb0.mono hBa.size)
 have r10 := r1.below hb0
 clear r1 hb0 hBa
 have c0 := r10.cell (j := 0) rfl
 have c1 := r10.cell (j := 1) rfl
 have c2 := r10.cell (j := 2) rfl
 have c3 := r10.cell (j := 3) rfl
 have c4 := r10.cell (j := 4) rfl
 have c5 := r10.cell (j := 5) rfl
 have c6 := r10.cell (j := 6) rfl
 go_wp2_with fail
 refine (hgr w0).mono ?_
 rintro e w1 ⟨rfl,hb1⟩
 have hB1 := hB0.trans (hb1.mono hB0.size)
 have r11 := r10.below hb1
 clear r10 hb1 hB0 hgr c0 c1 c2 c3 c4 c5 c6
 cases hq : greatE x with
 | true =>
   go_wp2_with fail
   go_ret
   exact ⟨rfl,hB1⟩
 | false =>
 obtain ⟨g1,g2,g3,g4,g5,g6⟩ := greatE_no hq
 have hcs := pack_cases hq
 obtain ⟨hn7,hm7⟩ := pack_lens hq
 clear hq
 have hpw := pw_any x A ca B cb w1 (hG.below hB1) (by omega) (by omega) (by omega) (by omega) (hA.below hB1) hca (by omega) (hB.below hB1) hcb g5
 unfold env at hpw
 have c0 := r11.cell (j := 0) rfl
 have c1 := r11.cell (j := 1) rfl
 have c2 := r11.cell (j := 2) rfl
 have c3 := r11.cell (j := 3) rfl
 have c4 := r11.cell (j := 4) rfl
 have c5 := r11.cell (j := 5) rfl
 have c6 := r11.cell (j := 6) rfl
 go_wp2_with fail
 refine hpw.mono ?_
 rintro e w2 ⟨hwo,hb2⟩
 obtain ⟨LA,lc,LB,ld,rfl,hf1,hd1,hld,hldm,hpl1⟩ := wout_form hwo
 have hB2 := hB1.trans (hb2.mono hB1.size)
 have r12 := r11.below hb2
 clear r11 hb2 hB1 hpw hwo c0 c1 c2 c3 c4 c5 c6
 obtain ⟨o,ho⟩ : ∃ o,packW x = o := ⟨_,rfl⟩
 have HO := Lib.hid ho
 have hal3 : Below w2.heap.size w2 (w2.alloc (.cells #[.slice LA (fsO o).length lc,.slice LB (bdO o).length ld] 39)) := (Below.refl _ _).alloc (Nat.le_refl _) _
 have r13 := r12.below hal3
 have r33 := Row.new w2 #[.slice LA (fsO o).length lc,.slice LB (bdO o).length ld] 39
 have hB3 := hB2.trans (hal3.mono hB2.size)
 have hrp := rpw_any x A ca B cb (w2.alloc (.cells #[.slice LA (fsO o).length lc,.slice LB (bdO o).length ld] 39)) g1 g2 g3 g4 g6 g5 (hA.below hB3) hca (hB.below hB3) hcb
 unfold env at hrp
 rw [ho] at hf1 hd1 hld hrp hn7 hm7 ⊢
 have hf13 : Fd.Rf (w2.alloc (.cells #[.slice LA (fsO o).length lc,.slice LB (bdO o).length ld] 39)) LA (fsO o) := Rv.below hf1 hal3
 have hd13 := hd1.below hal3
 have c0 := r13.cell (j := 0) rfl
 have c1 := r13.cell (j := 1) rfl
 have c2 := r13.cell (j := 2) rfl
 have c3 := r13.cell (j := 3) rfl
 have c4 := r13.cell (j := 4) rfl
 have c5 := r13.cell (j := 5) rfl
 have c6 := r13.cell (j := 6) rfl
 clear ho
 go_wp2_with fail
 refine hrp.mono ?_
 rintro e w4 ⟨hwo,hb4⟩
 obtain ⟨MA,mc,MB,md,rfl,hf2,hd2,hmd,_,_⟩ := wout_form hwo
 have hB4 := hB3.trans (hb4.mono hB3.size)
 have r14 := r13.below hb4
 have r34 := r33.below hb4
 have hf14 : Fd.Rf w4 LA (fsO o) := Rv.below hf13 hb4
 have hd14 := hd13.below hb4
 obtain ⟨b3,hb3⟩ : ∃ b,w2.heap.size = b := ⟨_,rfl⟩
 rw [hb3] at r34 ⊢
 clear r13 r33 hrp hwo hb4 hB3 hal3 hf1 hd1 hf13 hd13 hB2 r12 hb3 c0 c1 c2 c3 c4 c5 c6
 have hal5 : Below w4.heap.size w4 (w4.alloc (.cells #[.slice MA (fsO o).length mc,.slice MB (bdO o).length md] 39)) := (Below.refl _ _).alloc (Nat.le_refl _) _
 have r15 := r14.below hal5
 have r35 := r34.below hal5
 have r55 := Row.new w4 #[.slice MA (fsO o).length mc,.slice MB (bdO o).length md] 39
 have hB5 := hB4.trans (hal5.mono hB4.size)
 have hf15 : Fd.Rf (w4.alloc (.cells #[.slice MA (fsO o).length mc,.slice MB (bdO o).length md] 39)) LA (fsO o) := Rv.below hf14 hal5
 have hd15 := hd14.below hal5
 have hf25 : Fd.Rf (w4.alloc (.cells #[.slice MA (fsO o).length mc,.slice MB (bdO o).length md] 39)) MA (fsO o) := Rv.below hf2 hal5
 have hd25 := hd2.below hal5
 go_upto_region 7 with fail
 obtain ⟨V,hV⟩ : ∃ V,(w4.alloc (.cells #[.slice MA (fsO o).length mc,.slice MB (bdO o).length md] 39)) = V := ⟨_,rfl⟩
 rw [hV] at r15 r35 r55 hB5 hf15 hd15 hf25 hd25 ⊢
 obtain ⟨b5,hb5⟩ : ∃ b,w4.heap.size = b := ⟨_,rfl⟩
 rw [hb5] at r55 ⊢
 clear hV hal5 r14 r34 hf14 hd14 hf2 hd2 hB4 hb5
 obtain ⟨n,hn⟩ : ∃ n,(fsO o).length = n := ⟨_,rfl⟩
 obtain ⟨m,hm⟩ : ∃ m,(bdO o).length = m := ⟨_,rfl⟩
 have HN := Lib.hid hn
 have HM := Lib.hid hm
 rw [hn] at r35 r55 hn7 ⊢
 rw [hm] at r35 r55 hm7 hld hmd ⊢
 clear hn hm
 have hbe1 : ∀ W,Below V.heap.size V W → Calls Tryz.prog 12 #[.agg #[.string (bs x.fr),.string (bs x.too),.string (bs x.id),.string (bs x.th),.bool x.plain,.slice A x.bun.length ca,.slice B x.cip.length cb]] W fun e w' => (∃ A' k',e = .returned (.slice A' (besP x).length k') ∧ Rb w' A' (besP x)) ∧ Below V.heap.size V w' ∧ Below W.heap.size W w' := fun W h => by
  have hb := beside_any x A ca B cb W (by intro s hs; have h := hs; simp only [L4,List.mem_cons,List.mem_nil_iff,or_false] at h; rcases h with rfl | rfl | rfl | rfl <;> assumption)
  unfold env at hb
  refine hb.mono ?_
  rintro e w' ⟨⟨v,rfl,hown⟩,hb'⟩
  obtain ⟨A',k',rfl,_,_,hR,_⟩ := own_slice hown
  exact ⟨⟨A',k',rfl,hR⟩,h.trans (hb'.mono h.size),hb'⟩
 have hbe2 : ∀ W,Below V.heap.size V W → Calls Tryz.prog 26 #[.agg #[.string (bs x.fr),.string (bs x.too),.string (bs x.id),.string (bs x.th),.bool x.plain,.slice A x.bun.length ca,.slice B x.cip.length cb]] W fun e w' => (∃ A' k',e = .returned (.slice A' (besP x).length k') ∧ Rb w' A' (besP x)) ∧ Below V.heap.size V w' ∧ Below W.heap.size W w' := fun W h => by
  have hb := rbeside_any x A ca B cb W g1 g2 g3 g4
  unfold env at hb
  refine hb.mono ?_
  rintro e w' ⟨⟨A',k',rfl,hR,_⟩,hb'⟩
  exact ⟨⟨A',k',rfl,hR⟩,h.trans (hb'.mono h.size),hb'⟩
 have hbl := besP_len (x := x) ⟨g1,g2,g3,g4⟩
 have hsf : ∀ W,Below V.heap.size V W → Calls Tryz.prog 21 #[.slice LA n lc,.slice MA n mc] W fun e w' => e = .returned (.bool true) ∧ Below V.heap.size V w' := fun W h => (Fd.samef_any LA MA (fsO o) n lc mc W HN.out (Rv.below hf15 h) (Rv.below hf25 h) (by omega)).mono fun e w' r => ⟨r.1,h.trans ((Dn.below r.2 _).mono h.size)⟩
 have hsb : ∀ W,Below V.heap.size V W → Calls Tryz.prog 11 #[.slice LB m ld,.slice MB m md] W fun e w' => e = .returned (.bool true) ∧ Below V.heap.size V w' := fun W h => (same_any LB MB (bdO o) (bdO o) m m ld md W HM.out HM.out (hd15.below h) (hd25.below h) (by omega)).mono fun e w' r => ⟨by rw [r.1,decide_eq_true rfl],h.trans ((Dn.below r.2 _).mono h.size)⟩
 have hk : (codO o != codO o) = false := bne_self_eq_false _
 have HS : ∀ W,Below V.heap.size V W → Below V.heap.size V W ∧ W.cell? ⟨w.heap.size,0,none⟩ = some (.string (bs x.fr)) ∧ W.cell? ⟨w.heap.size,1,none⟩ = some (.string (bs x.too)) ∧ W.cell? ⟨w.heap.size,2,none⟩ = some (.string (bs x.id)) ∧ W.cell? ⟨w.heap.size,3,none⟩ = some (.string (bs x.th)) ∧ W.cell? ⟨w.heap.size,4,none⟩ = some (.bool x.plain) ∧ W.cell? ⟨w.heap.size,5,none⟩ = some (.slice A x.bun.length ca) ∧ W.cell? ⟨w.heap.size,6,none⟩ = some (.slice B x.cip.length cb) ∧ W.cell? ⟨b3,0,none⟩ = some (.slice LA n lc) ∧ W.cell? ⟨b3,1,none⟩ = some (.slice LB m ld) ∧ W.cell? ⟨b5,0,none⟩ = some (.slice MA n mc) ∧ W.cell? ⟨b5,1,none⟩ = some (.slice MB m md) := fun W h => by
  have x1 := r15.below h
  have x3 := r35.below h
  have x5 := r55.below h
  exact ⟨h,x1.cell (j := 0) rfl,x1.cell (j := 1) rfl,x1.cell (j := 2) rfl,x1.cell (j := 3) rfl,x1.cell (j := 4) rfl,x1.cell (j := 5) rfl,x1.cell (j := 6) rfl,x3.cell (j := 0) rfl,x3.cell (j := 1) rfl,x5.cell (j := 0) rfl,x5.cell (j := 1) rfl⟩
 generalize besP x = bp at *
 obtain ⟨kk,hkk⟩ : ∃ z,codO o = z := ⟨_,rfl⟩
 have HKK := Lib.hid hkk
 rw [hkk] at hk ⊢
 clear hkk
 go_cut [51] (fun s51 wx => s51 = .bool false ∧ Below V.heap.size V wx)
 case first =>
  have hsame : ∀ (W : World) (A1 A2 : Option Addr) (k1 k2 : Nat),Rb W A1 bp → Rb W A2 bp → Calls Tryz.prog 11 #[.slice A1 bp.length k1,.slice A2 bp.length k2] W fun e w' => e = .returned (.bool true) ∧ Below W.heap.size W w' := fun W A1 A2 k1 k2 r1 r2 =>
   (same_any A1 A2 bp bp bp.length bp.length k1 k2 W rfl rfl r1 r2 (by omega)).mono fun e w' h => ⟨by rw [h.1,decide_eq_true rfl],Dn.below h.2 _⟩
  generalize bp.length = bl at *
  have HSM := Lib.hid hsame
  clear hsame hf15 hd15 hf25 hd25 hpl1 hcs r15 r35 r55
  obtain ⟨_,c0,c1,c2,c3,c4,c5,c6,d0,d1,e0,e1⟩ := HS V (Below.refl _ _)
  go_region_held3 (fun W => Below V.heap.size V W ∧ W.cell? ⟨w.heap.size,0,none⟩ = some (.string (bs x.fr)) ∧ W.cell? ⟨w.heap.size,1,none⟩ = some (.string (bs x.too)) ∧ W.cell? ⟨w.heap.size,2,none⟩ = some (.string (bs x.id)) ∧ W.cell? ⟨w.heap.size,3,none⟩ = some (.string (bs x.th)) ∧ W.cell? ⟨w.heap.size,4,none⟩ = some (.bool x.plain) ∧ W.cell? ⟨w.heap.size,5,none⟩ = some (.slice A x.bun.length ca) ∧ W.cell? ⟨w.heap.size,6,none⟩ = some (.slice B x.cip.length cb) ∧ W.cell? ⟨b3,0,none⟩ = some (.slice LA n lc) ∧ W.cell? ⟨b3,1,none⟩ = some (.slice LB m ld) ∧ W.cell? ⟨b5,0,none⟩ = some (.slice MA n mc) ∧ W.cell? ⟨b5,1,none⟩ = some (.slice MB m md)) (exact HS _ (by repeat (first | with_reducible assumption | apply Below.drew | exact Below.refl _ _)))
   (first
   | (go_at_call 21; (with_reducible refine (hsf _ (And.left (by assumption))).mono ?_); rintro e x0 ⟨rfl,hx0⟩; obtain ⟨_,p0,p1,p2,p3,p4,p5,p6,p7,p8,p9,p10⟩ := HS x0 hx0)
   | (go_at_call 11; (with_reducible refine (hsb _ (And.left (by assumption))).mono ?_); rintro e x5 ⟨rfl,hx5⟩; obtain ⟨_,s0,s1,s2,s3,s4,s5,s6,s7,s8,s9,s10⟩ := HS x5 hx5)
   | (go_at_call 12; (with_reducible refine (hbe1 _ (And.left (by assumption))).mono ?_); rintro e x1 ⟨⟨A1,k1,rfl,hR1⟩,hx1,hbx1⟩; obtain ⟨_,q0,q1,q2,q3,q4,q5,q6,q7,q8,q9,q10⟩ := HS x1 hx1)
   | (go_at_call 26; (with_reducible refine (hbe2 _ (And.left (by assumption))).mono ?_); rintro e x2 ⟨⟨A2,k2,rfl,hR2⟩,hx2,hbx2⟩; obtain ⟨_,u0,u1,u2,u3,u4,u5,u6,u7,u8,u9,u10⟩ := HS x2 hx2)
   | (go_at_call 11; refine (HSM.out _ _ _ _ _ (by first | exact hR1 | exact hR1.below hbx2) (by first | exact hR2 | exact hR2.below hbx1)).mono ?_; rintro e x3 ⟨rfl,hx3⟩; have hc3 : Below V.heap.size V x3 := (by first | exact hx2.trans (hx3.mono hx2.size) | exact hx1.trans (hx3.mono hx1.size))))
  all_goals
   go_wp2_with fail
   go_meet
   exact ⟨rfl,hc3⟩
 case rest =>
  obtain ⟨rfl,hVc⟩ := hcut
  clear hbe1 hbe2 hsf hsb hf25 hd25 hbl hmd r55 hk
  have r1c := r15.below hVc
  have r3c := r35.below hVc
  have hBc := hB5.trans (hVc.mono hB5.size)
  have hfc : Fd.Rf wc LA (fsO o) := Rv.below hf15 hVc
  have hdc := hd15.below hVc
  clear r15 r35 hf15 hd15 HS hVc hB5
  rcases hcs with ⟨k,hk,hk1⟩ | ⟨hok,he,hbn⟩
  ·have hkk : kk = (k : Int) := by rw [← HKK.out,← HO.out,hk]; rfl
   have t : (kk != 0) = true := by rw [bne_iff_ne]; omega
   clear hkk hk hfc hdc
   go_wp2_with fail
   go_ret
   exact ⟨rfl,hBc⟩
  ·obtain rfl : o = .ok (packM x) := by rw [← HO.out,hok]
   obtain rfl : kk = 0 := by rw [← HKK.out]; rfl
   obtain ⟨hw,hml,_,_⟩ := pack_mb he hbn g1 g2 g5
   obtain ⟨_,_,hs3⟩ := writeP_facts hw
   have hfc' : Fd.Rf wc LA (packM x).1 := hfc
   have hdc' : Rb wc LB (packM x).2 := hdc
   have hn : (packM x).1.length = n := HN.out
   have hm : (packM x).2.length = m := HM.out
   have hpr := pread_any x he hbn g1 g2 g5 LA n lc LB m ld wc hn hm (hG.below hBc) hfc' hdc' hld hldm hpl1
   have z0 := r3c.cell (j := 0) rfl
   have z1 := r3c.cell (j := 1) rfl
   clear hfc hdc hok HKK HO hn hm
   go_wp2_with fail
   refine hpr.mono ?_
   rintro e y1 ⟨⟨A5,k5,A6,k6,rfl,hR5,hk5,hR6,hk6⟩,hby⟩
   unfold env
   have hal : Below y1.heap.size y1 (y1.alloc (.cells #[.string (bs x.fr),.string (bs x.too),.string (bs x.id),.string (bs x.th),.bool x.plain,.slice A5 x.bun.length k5,.slice A6 x.cip.length k6] 24)) := (Below.refl _ _).alloc (Nat.le_refl _) _
   have hbz : Below wc.heap.size wc (y1.alloc (.cells #[.string (bs x.fr),.string (bs x.too),.string (bs x.id),.string (bs x.th),.bool x.plain,.slice A5 x.bun.length k5,.slice A6 x.cip.length k6] 24)) := hby.trans (hal.mono hby.size)
   have r1z := r1c.below hbz
   have r3z := r3c.below hbz
   have r7z := Row.new y1 #[.string (bs x.fr),.string (bs x.too),.string (bs x.id),.string (bs x.th),.bool x.plain,.slice A5 x.bun.length k5,.slice A6 x.cip.length k6] 24
   have hBz := hBc.trans (hbz.mono hBc.size)
   have hfz : Fd.Rf (y1.alloc (.cells #[.string (bs x.fr),.string (bs x.too),.string (bs x.id),.string (bs x.th),.bool x.plain,.slice A5 x.bun.length k5,.slice A6 x.cip.length k6] 24)) LA (packM x).1 := Rv.below hfc' hbz
   have hdz := hdc'.below hbz
   have hR5z := hR5.below hal
   have hR6z := hR6.below hal
   clear hpr z0 z1 hby hal hbz r1c r3c hBc hfc' hdc' hR5 hR6
   have hwr := Fd.write_any LA LB (packM x).1 (packM x).2 n lc m ld (y1.alloc (.cells #[.string (bs x.fr),.string (bs x.too),.string (bs x.id),.string (bs x.th),.bool x.plain,.slice A5 x.bun.length k5,.slice A6 x.cip.length k6] 24)) HN.out HM.out hfz hdz (fun p hp => ⟨by have := (hs3 p hp).1; omega,by have := (hs3 p hp).2; omega⟩) (by omega) (by omega)
   have z0 := r3z.cell (j := 0) rfl
   have z1 := r3z.cell (j := 1) rfl
   go_wp2_with fail
   refine hwr.mono ?_
   rintro e y2 ⟨hwm,hb2⟩
   rw [hw] at hwm
   obtain ⟨v9,rfl,hown⟩ := hwm
   obtain ⟨mm,hmm⟩ : ∃ l,mb (packM x) = l := ⟨_,rfl⟩
   rw [hmm] at hown hml
   have HMM := Lib.hid hmm
   obtain ⟨nM,hnM⟩ : ∃ k,mm.length = k := ⟨_,rfl⟩
   have HNM := Lib.hid hnM
   rw [hnM] at hown hml
   have hpl9 := hown
   obtain ⟨A9,c9,hv9,h9c,_,hR9,_⟩ := own_form hown
   subst hv9
   have hplo := Pl_own hown
   have hRb9 : Rb y2 A9 mm := hR9
   have r12 := r1z.below hb2
   have r72 := r7z.below hb2
   have hB2' := hBz.trans (hb2.mono hBz.size)
   have hR52 := hR5z.below hb2
   have hR62 := hR6z.below hb2
   clear z0 z1 hwr r1z r3z r7z hBz hfz hdz hR5z hR6z hb2 hw hmm hnM hs3 hpl9 hR9 hown
   go_upto_region 13 with fail
   obtain ⟨b7,hb7⟩ : ∃ b,y1.heap.size = b := ⟨_,rfl⟩
   rw [hb7] at r72 ⊢
   clear hb7
   have hsm : ∀ W,Below y2.heap.size y2 W → Calls Tryz.prog 24 #[.agg #[.string (bs x.fr),.string (bs x.too),.string (bs x.id),.string (bs x.th),.bool x.plain,.slice A5 x.bun.length k5,.slice A6 x.cip.length k6],.agg #[.string (bs x.fr),.string (bs x.too),.string (bs x.id),.string (bs x.th),.bool x.plain,.slice A x.bun.length ca,.slice B x.cip.length cb]] W fun e w' => e = .returned (.bool true) ∧ Below y2.heap.size y2 w' := fun W h => by
    have hb := rsame13_any x A5 k5 A6 k6 A ca B cb W (hR52.below h) (hR62.below h) (hA.below (hB2'.trans (h.mono hB2'.size))) (hB.below (hB2'.trans (h.mono hB2'.size))) (by omega) (by omega)
    unfold env at hb
    exact hb.mono fun e w' r => ⟨r.1,h.trans (r.2.mono h.size)⟩
   have hse : ∀ W,Below y2.heap.size y2 W → Calls Tryz.prog 28 #[.slice A9 nM c9] W fun e w' => e = .returned (.bool (!x.plain)) ∧ Below y2.heap.size y2 w' := fun W h => by
    have hb := sealed_any x he hbn g1 g2 g5 A9 nM c9 W (by rw [HMM.out]; exact HNM.out) (hG.below (hB2'.trans (h.mono hB2'.size))) (by rw [HMM.out]; exact hRb9.below h) h9c hplo
    exact hb.mono fun e w' r => ⟨r.1,h.trans (r.2.mono h.size)⟩
   generalize x.bun.length = nB at *
   generalize x.cip.length = nC at *
   have HS2 : ∀ W,Below y2.heap.size y2 W → Below y2.heap.size y2 W ∧ W.cell? ⟨w.heap.size,0,none⟩ = some (.string (bs x.fr)) ∧ W.cell? ⟨w.heap.size,1,none⟩ = some (.string (bs x.too)) ∧ W.cell? ⟨w.heap.size,2,none⟩ = some (.string (bs x.id)) ∧ W.cell? ⟨w.heap.size,3,none⟩ = some (.string (bs x.th)) ∧ W.cell? ⟨w.heap.size,4,none⟩ = some (.bool x.plain) ∧ W.cell? ⟨w.heap.size,5,none⟩ = some (.slice A nB ca) ∧ W.cell? ⟨w.heap.size,6,none⟩ = some (.slice B nC cb) ∧ W.cell? ⟨b7,0,none⟩ = some (.string (bs x.fr)) ∧ W.cell? ⟨b7,1,none⟩ = some (.string (bs x.too)) ∧ W.cell? ⟨b7,2,none⟩ = some (.string (bs x.id)) ∧ W.cell? ⟨b7,3,none⟩ = some (.string (bs x.th)) ∧ W.cell? ⟨b7,4,none⟩ = some (.bool x.plain) ∧ W.cell? ⟨b7,5,none⟩ = some (.slice A5 nB k5) ∧ W.cell? ⟨b7,6,none⟩ = some (.slice A6 nC k6) := fun W h => by
    have x1 := r12.below h
    have x7 := r72.below h
    exact ⟨h,x1.cell (j := 0) rfl,x1.cell (j := 1) rfl,x1.cell (j := 2) rfl,x1.cell (j := 3) rfl,x1.cell (j := 4) rfl,x1.cell (j := 5) rfl,x1.cell (j := 6) rfl,x7.cell (j := 0) rfl,x7.cell (j := 1) rfl,x7.cell (j := 2) rfl,x7.cell (j := 3) rfl,x7.cell (j := 4) rfl,x7.cell (j := 5) rfl,x7.cell (j := 6) rfl⟩
   obtain ⟨_,c0,c1,c2,c3,c4,c5,c6,d0,d1,d2,d3,d4,d5,d6⟩ := HS2 y2 (Below.refl _ _)
   clear hR52 hR62 hRb9 hplo r12 r72 he
   go_region_held3 (fun W => Below y2.heap.size y2 W ∧ W.cell? ⟨w.heap.size,0,none⟩ = some (.string (bs x.fr)) ∧ W.cell? ⟨w.heap.size,1,none⟩ = some (.string (bs x.too)) ∧ W.cell? ⟨w.heap.size,2,none⟩ = some (.string (bs x.id)) ∧ W.cell? ⟨w.heap.size,3,none⟩ = some (.string (bs x.th)) ∧ W.cell? ⟨w.heap.size,4,none⟩ = some (.bool x.plain) ∧ W.cell? ⟨w.heap.size,5,none⟩ = some (.slice A nB ca) ∧ W.cell? ⟨w.heap.size,6,none⟩ = some (.slice B nC cb) ∧ W.cell? ⟨b7,0,none⟩ = some (.string (bs x.fr)) ∧ W.cell? ⟨b7,1,none⟩ = some (.string (bs x.too)) ∧ W.cell? ⟨b7,2,none⟩ = some (.string (bs x.id)) ∧ W.cell? ⟨b7,3,none⟩ = some (.string (bs x.th)) ∧ W.cell? ⟨b7,4,none⟩ = some (.bool x.plain) ∧ W.cell? ⟨b7,5,none⟩ = some (.slice A5 nB k5) ∧ W.cell? ⟨b7,6,none⟩ = some (.slice A6 nC k6)) (exact HS2 _ (by repeat (first | with_reducible assumption | apply Below.drew | exact Below.refl _ _)))
    (first
    | (go_at_call 24; (with_reducible refine (hsm _ (And.left (by assumption))).mono ?_); rintro e x0 ⟨rfl,hx0⟩; obtain ⟨_,p0,p1,p2,p3,p4,p5,p6,p7,p8,p9,p10,p11,p12,p13⟩ := HS2 x0 hx0)
    | (go_at_call 28; (with_reducible refine (hse _ (And.left (by assumption))).mono ?_); rintro e x2 ⟨rfl,hx2⟩; obtain ⟨_,q0,q1,q2,q3,q4,q5,q6,q7,q8,q9,q10,q11,q12,q13⟩ := HS2 x2 hx2))
   all_goals
    go_wp2_with fail
    go_ret
    exact ⟨by simp,hB2'.trans (Below.mono (by assumption) hB2'.size)⟩
end
end Go.Proofs.YtkllecicddfjpaaGreatDoor
