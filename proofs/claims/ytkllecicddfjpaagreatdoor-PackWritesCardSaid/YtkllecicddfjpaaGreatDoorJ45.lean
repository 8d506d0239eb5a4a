/- The walk of the law, part 45. -/
import Derived.Test.YtkllecicddfjpaaGreatDoorJ33
import Derived.Test.YtkllecicddfjpaaGreatDoorJ16
import Derived.Test.YtkllecicddfjpaaGreatDoorJ02
import Derived.Test.YtkllecicddfjpaaGreatDoorJ40
import Derived.Test.YtkllecicddfjpaaGreatDoorJ18
import Derived.Test.YtkllecicddfjpaaGreatDoorJ41
set_option maxRecDepth 100000
set_option maxHeartbeats 16000000
set_option linter.unusedVariables false
set_option linter.unusedSimpArgs false
namespace Go.Proofs.YtkllecicddfjpaaGreatDoor
section
open Go.RowKit
theorem bes_bs (x : En) : bs x.fr ++ (⟨#[10]⟩ : ByteArray) ++ bs x.too ++ (⟨#[10]⟩ : ByteArray) ++ bs x.id ++ (⟨#[10]⟩ : ByteArray) ++ bs x.th ++ (⟨#[10]⟩ : ByteArray) = bs (besP x) := by
 rw [show (⟨#[10]⟩ : ByteArray) = bs [10] from rfl,bs_add,bs_add,bs_add,bs_add,bs_add,bs_add,bs_add]
 congr 1
 simp [besP]
theorem rbeside_any (x : En) (A : Option Addr) (ca : Nat) (B : Option Addr) (cb : Nat) (w : World) (h1 : x.fr.length ≤ 300) (h2 : x.too.length ≤ 300) (h3 : x.id.length ≤ 300) (h4 : x.th.length ≤ 300) :
 Calls Tryz.prog 26 #[env x A ca B cb] w fun e w' => (∃ A' c,e = .returned (.slice A' (besP x).length c) ∧ Rb w' A' (besP x) ∧ (besP x).length ≤ c) ∧ Below w.heap.size w w' := by
 have hbb := bes_bs x
 have hl : (besP x).length ≤ 1000000 := by unfold besP; simp; omega
 obtain ⟨bp,hbp⟩ : ∃ l,besP x = l := ⟨_,rfl⟩
 rw [hbp] at hl hbb ⊢
 clear hbp
 obtain ⟨fr,too,id,th,pl,bun,cip⟩ := x
 unfold env
 simp only at *
 have hB0 : Below w.heap.size w (w.alloc (.cells #[.string (bs fr),.string (bs too),.string (bs id),.string (bs th),.bool pl,.slice A bun.length ca,.slice B cip.length cb] 24)) := (Below.refl _ _).alloc (Nat.le_refl _) _
 obtain ⟨c1,w1,hcv,hO1,hB1,_⟩ := conv_bs (P := Tryz.prog) (src := 9) (dst := 22) (e := 5) Tryz.underlying9 Tryz.underlying22 Tryz.underlying5 (w.alloc (.cells #[.string (bs fr),.string (bs too),.string (bs id),.string (bs th),.bool pl,.slice A bun.length ca,.slice B cip.length cb] 24)) bp (by unfold maxLen; omega)
 obtain ⟨A5,c5,hv5,hc5,_,hR5,hl5,_,_⟩ := hO1.form
 cases hv5
 rw [World.size_alloc] at hR5
 go_enter Tryz.func26,Tryz.ntmps26
 go_wp2_with fail
 go_ret
 exact ⟨⟨_,c1,rfl,hR5,hc5⟩,hB0.trans (hB1.mono hB0.size)⟩
theorem rsame13_any (x : En) (A : Option Addr) (ca : Nat) (B : Option Addr) (cb : Nat) (A' : Option Addr) (ca' : Nat) (B' : Option Addr) (cb' : Nat) (w : World) (hA : Rb w A x.bun) (hB : Rb w B x.cip) (hA' : Rb w A' x.bun) (hB' : Rb w B' x.cip) (hl1 : x.bun.length ≤ 1000000) (hl2 : x.cip.length ≤ 1000000) :
 Calls Tryz.prog 24 #[env x A ca B cb,env x A' ca' B' cb'] w fun e w' => e = .returned (.bool true) ∧ Below w.heap.size w w' := by
 obtain ⟨fr,too,id,th,pl,bun,cip⟩ := x
 unfold env
 simp only at *
 have hB0 : Below w.heap.size w ((w.alloc (.cells #[.string (bs fr),.string (bs too),.string (bs id),.string (bs th),.bool pl,.slice A bun.length ca,.slice B cip.length cb] 24)).alloc (.cells #[.string (bs fr),.string (bs too),.string (bs id),.string (bs th),.bool pl,.slice A' bun.length ca',.slice B' cip.length cb'] 24)) := ((Below.refl _ _).alloc (Nat.le_refl _) _).alloc (by simp) _
 have r1 := (Row.new w #[.string (bs fr),.string (bs too),.string (bs id),.string (bs th),.bool pl,.slice A bun.length ca,.slice B cip.length cb] 24).alloc (.cells #[.string (bs fr),.string (bs too),.string (bs id),.string (bs th),.bool pl,.slice A' bun.length ca',.slice B' cip.length cb'] 24)
 have r2 := Row.new (w.alloc (.cells #[.string (bs fr),.string (bs too),.string (bs id),.string (bs th),.bool pl,.slice A bun.length ca,.slice B cip.length cb] 24)) #[.string (bs fr),.string (bs too),.string (bs id),.string (bs th),.bool pl,.slice A' bun.length ca',.slice B' cip.length cb'] 24
 rw [World.size_alloc] at r2
 go_enter Tryz.func24,Tryz.ntmps24
 go_wp2_with fail
 generalize ((w.alloc (.cells #[.string (bs fr),.string (bs too),.string (bs id),.string (bs th),.bool pl,.slice A bun.length ca,.slice B cip.length cb] 24)).alloc (.cells #[.string (bs fr),.string (bs too),.string (bs id),.string (bs th),.bool pl,.slice A' bun.length ca',.slice B' cip.length cb'] 24)) = W0 at *
 refine (same_any A A' bun bun bun.length bun.length ca ca' W0 rfl rfl (hA.below hB0) (hA'.below hB0) (by omega)).mono ?_
 rintro e w1 ⟨rfl,hd1⟩
 rw [decide_eq_true (rfl : bun = bun)]
 have hb1 : Below W0.heap.size W0 w1 := hd1.below _
 have hB1 := hB0.trans (hb1.mono hB0.size)
 have x6 := (r1.below hb1).cell (j := 6) rfl
 have y6 := (r2.below hb1).cell (j := 6) rfl
 go_wp2_with fail
 refine (same_any B B' cip cip cip.length cip.length cb cb' w1 rfl rfl (hB.below hB1) (hB'.below hB1) (by omega)).mono ?_
 rintro e w2 ⟨rfl,hd2⟩
 rw [decide_eq_true (rfl : cip = cip)]
 go_wp2_with fail
 go_ret
 exact ⟨rfl,hB1.trans ((hd2.below _).mono hB1.size)⟩
end
section
open Go.RowKit
theorem leaf8_any (A A2 : Option Addr) (fs : List (List UInt8 × List UInt8)) (l : List UInt8) (n c n2 c2 : Nat) (w : World) (hn : fs.length = n) (hA : Fd.Rf w A fs) (hn2 : l.length = n2) (hA2 : Rb w A2 l) (h2c : n2 ≤ c2) (hpl : Pl A2 c2) (hG : Gm w) (hb : n ≤ 1000000) (hb2 : n2 ≤ 1000000)
 (hvl : (((Fd.valsN cteN fs).head?).getD []).length ≤ 1000000) (hv : codeT fs = [56,98,105,116]) :
 Calls Tryz.prog 71 #[.agg #[.slice A n c,.slice A2 n2 c2]] w fun e w' => LfOut (.ok (0,l)) w.heap.size w' e ∧ Below w.heap.size w w' := by
 have HN := Lib.hid hn
 have HN2 := Lib.hid hn2
 obtain ⟨v,hvv⟩ : ∃ v,((Fd.valsN cteN fs).head?).getD [] = v := ⟨_,rfl⟩
 unfold codeT at hv
 rw [hvv] at hv hvl
 have HVV := Lib.hid hvv
 have HV := Lib.hid hv
 clear hn hn2 hv hvv
 have hB0 : Below w.heap.size w (w.alloc (.cells #[.slice A n c,.slice A2 n2 c2] 39)) := (Below.refl _ _).alloc (Nat.le_refl _) _
 have c00 : (w.alloc (.cells #[.slice A n c,.slice A2 n2 c2] 39)).cell? ⟨w.heap.size,0,none⟩ = some (.slice A n c) := by simp
 have c01 : (w.alloc (.cells #[.slice A n c,.slice A2 n2 c2] 39)).cell? ⟨w.heap.size,1,none⟩ = some (.slice A2 n2 c2) := by simp
 go_enter Tryz.func71,Tryz.ntmps71
 go_wp2_with fail
 generalize (w.alloc (.cells #[.slice A n c,.slice A2 n2 c2] 39)) = W0 at *
 have hg := Fd.get_any A A2 fs cteN n c n2 c2 W0 HN.out (hA.below hB0) (tabs_below hG.tabs hB0) (by simp) hb
 refine hg.mono ?_
 rintro e w1 ⟨hgo,hb1⟩
 obtain ⟨bo,hgo⟩ := get_form hgo
 rw [HVV.out] at hgo
 subst hgo
 clear hg
 have hB1 := hB0.trans (hb1.mono hB0.size)
 have c11 := (hb1.cell (p := ⟨w.heap.size,1,none⟩) (cell_lt c01)).trans c01
 go_wp2_with fail
 refine (Tk.trim_any v w1 (by omega)).mono ?_
 rintro e w2 ⟨rfl,hb2'⟩
 have hB2 := hB1.trans (hb2'.mono hB1.size)
 have c21 := (hb2'.cell (p := ⟨w.heap.size,1,none⟩) (cell_lt c11)).trans c11
 have htl : (Tk.trimB v).length ≤ v.length := Tk.trimB_len v
 go_wp2_with fail
 have hsm := small_any (Tk.trimB v) w2 (by omega)
 rw [HV.out] at hsm
 refine hsm.mono ?_
 rintro e w3 ⟨rfl,hb3⟩
 have hB3 := hB2.trans (hb3.mono hB2.size)
 have c31 := (hb3.cell (p := ⟨w.heap.size,1,none⟩) (cell_lt c21)).trans c21
 have hC3 := (hG.below hB3).c1
 clear hsm
 go_wp2_with fail
 refine (clone_any A2 l n2 c2 w3 HN2.out (hA2.below hB3) h2c hpl (by omega)).mono ?_
 rintro e w4 ⟨⟨v4,rfl,hown⟩,hb4⟩
 obtain ⟨A4,c4,rfl,h4,_,hR4,_⟩ := own_slice hown
 have hin := own_in hown
 have hs3 := hB3.size
 go_wp2_with fail
 go_ret3
 exact ⟨⟨A4,c4,by rw [HN2.out]; rfl,by rw [HN2.out]; exact h4,hR4,fun b o e => ⟨by have := (hin b o e).1; omega,(hin b o e).2⟩⟩,hB3.trans (hb4.mono hB3.size)⟩
theorem rleaf8_any (A A2 : Option Addr) (fs : List (List UInt8 × List UInt8)) (body : List UInt8) (n c n2 c2 : Nat) (deep : Int) (w : World) (hn : fs.length = n) (hA : Fd.Rf w A fs) (hn2 : body.length = n2) (hA2 : Rb w A2 body) (h2c : n2 ≤ c2) (hpl : Pl A2 c2) (hG : Gm w)
 (hb : n ≤ 1000000) (hb2 : n2 ≤ 1000000) {v kind : List UInt8} {ms : List (List UInt8 × List UInt8)} (hv : (Fd.valsN ctN fs).head? = some v) (hvl : v.length ≤ 1000000) (hpm : Tk.parmP v = .ok (kind,ms)) (hmul : Lib.hasPrefix kind mulN = false) (hml : ms.length ≤ 1000000)
 (hvl2 : (((Fd.valsN cteN fs).head?).getD []).length ≤ 1000000) (hc8 : codeT fs = [56,98,105,116]) :
 Calls Tryz.prog 32 #[.agg #[.slice A n c,.slice A2 n2 c2],.int .i64 deep] w fun e w' => ROut (.ok (leafR kind ms 0 body)) w.heap.size w' e ∧ Below w.heap.size w w' := by
 have HN := Lib.hid hn
 have HN2 := Lib.hid hn2
 have HV := Lib.hid hv
 have HPM := Lib.hid hpm
 have hpre := prefM kind
 rw [hmul] at hpre
 obtain ⟨nm,hnm⟩ : ∃ x,ms.length = x := ⟨_,rfl⟩
 have HNM := Lib.hid hnm
 rw [hnm] at hml
 have hleaf := fun (W : World) (hW : Below w.heap.size w W) => leaf8_any A A2 fs body n c n2 c2 W hn (hA.below hW) hn2 (hA2.below hW) h2c hpl (hG.below hW) hb hb2 hvl2 hc8
 clear hn hn2 hv hpm hnm hc8
 have hB0 : Below w.heap.size w (w.alloc (.cells #[.slice A n c,.slice A2 n2 c2] 39)) := (Below.refl _ _).alloc (Nat.le_refl _) _
 have hB1 : Below w.heap.size w ((w.alloc (.cells #[.slice A n c,.slice A2 n2 c2] 39)).alloc (.cells #[.string (bs [116,101,120,116,47,112,108,97,105,110]),.slice none 0 0,.int .i64 0,.slice none 0 0,.slice none 0 0] 34)) := hB0.trans (((Below.refl _ _).alloc (Nat.le_refl _) _).mono hB0.size)
 have r1 := Row.new (w.alloc (.cells #[.slice A n c,.slice A2 n2 c2] 39)) #[.string (bs [116,101,120,116,47,112,108,97,105,110]),.slice none 0 0,.int .i64 0,.slice none 0 0,.slice none 0 0] 34
 have r0 := (Row.new w #[.slice A n c,.slice A2 n2 c2] 39).below ((Below.refl (w.alloc (.cells #[.slice A n c,.slice A2 n2 c2] 39)).heap.size (w.alloc (.cells #[.slice A n c,.slice A2 n2 c2] 39))).alloc (Nat.le_refl _) (.cells #[.string (bs [116,101,120,116,47,112,108,97,105,110]),.slice none 0 0,.int .i64 0,.slice none 0 0,.slice none 0 0] 34))
 rw [World.size_alloc] at r1
 have hg := Fd.get_any A A2 fs ctN n c n2 c2 ((w.alloc (.cells #[.slice A n c,.slice A2 n2 c2] 39)).alloc (.cells #[.string (bs [116,101,120,116,47,112,108,97,105,110]),.slice none 0 0,.int .i64 0,.slice none 0 0,.slice none 0 0] 34)) HN.out (hA.below hB1) (tabs_below hG.tabs hB1) (by simp) hb
 have hz1 : w.heap.size + 2 ≤ ((w.alloc (.cells #[.slice A n c,.slice A2 n2 c2] 39)).alloc (.cells #[.string (bs [116,101,120,116,47,112,108,97,105,110]),.slice none 0 0,.int .i64 0,.slice none 0 0,.slice none 0 0] 34)).heap.size := by simp
 go_enter Tryz.func32,Tryz.ntmps32
 go_wp2_with fail
 refine hg.mono ?_
 rintro e w2 ⟨hgo,hbb⟩
 obtain rfl := get_some' HV.out hgo
 clear hgo
 have hB2 := hB1.trans (hbb.mono hB1.size)
 have r12 := r1.below hbb
 have r02 := r0.below hbb
 have hz2 : w.heap.size + 2 ≤ w2.heap.size := Nat.le_trans hz1 hbb.size
 clear hbb r1 r0 hg hB1 hB0 hz1
 go_wp2_with fail
 refine (Tk.params_any v w2 (hG.below hB2).mx hvl).mono ?_
 rintro e w3 ⟨hpo,hb3⟩
 unfold Tk.PrmOut at hpo
 rw [HPM.out] at hpo
 obtain ⟨pv,rfl,hown⟩ := hpo
 rw [HNM.out] at hown
 obtain ⟨A5,c5,hv5,_⟩ := own_form hown
 obtain rfl : pv = .slice A5 nm c5 := hv5
 have hB3 := hB2.trans (hb3.mono hB2.size)
 have r13 := r12.below hb3
 have r03 := r02.below hb3
 have hz3 : w2.heap.size ≤ w3.heap.size := hb3.size
 clear r02 r12 hb3
 have l0 := r03.cell (j := 0) rfl
 have l1 := r03.cell (j := 1) rfl
 have k0 := r13.cell (j := 0) rfl
 have k1 := r13.cell (j := 1) rfl
 have k2 := r13.cell (j := 2) rfl
 have k3 := r13.cell (j := 3) rfl
 have k4 := r13.cell (j := 4) rfl
 have f0 := r13.frozen 0
 have f1 := r13.frozen 1
 go_upto_region 7 with fail
 have rG := ((r13.set 0 (.string (bs kind))).set 1 (.slice A5 nm c5))
 have hBG := ((hB3.setCell (p := ⟨w.heap.size + 1,0,none⟩) (by simp) (.string (bs kind))).setCell (p := ⟨w.heap.size + 1,1,none⟩) (by simp) (.slice A5 nm c5))
 have m1 : ((w3.setCell ⟨w.heap.size + 1,0,none⟩ (.string (bs kind))).setCell ⟨w.heap.size + 1,1,none⟩ (.slice A5 nm c5)).cell? ⟨w.heap.size,1,none⟩ = some (.slice A2 n2 c2) := by rw [cell_ne' _ (by simp),cell_ne' _ (by simp)]; exact l1
 have m0 : ((w3.setCell ⟨w.heap.size + 1,0,none⟩ (.string (bs kind))).setCell ⟨w.heap.size + 1,1,none⟩ (.slice A5 nm c5)).cell? ⟨w.heap.size,0,none⟩ = some (.slice A n c) := by rw [cell_ne' _ (by simp),cell_ne' _ (by simp)]; exact l0
 have hoG := ownsRow_setCell_below (ownsRow_setCell_below hown (a := ⟨w.heap.size + 1,0,none⟩) (by simp; omega) (.string (bs kind))) (a := ⟨w.heap.size + 1,1,none⟩) (by simp; omega) (.slice A5 nm c5)
 have hzG : w2.heap.size ≤ ((w3.setCell ⟨w.heap.size + 1,0,none⟩ (.string (bs kind))).setCell ⟨w.heap.size + 1,1,none⟩ (.slice A5 nm c5)).heap.size := by simpa using hz3
 obtain ⟨WG,hWG⟩ : ∃ WG,((w3.setCell ⟨w.heap.size + 1,0,none⟩ (.string (bs kind))).setCell ⟨w.heap.size + 1,1,none⟩ (.slice A5 nm c5)) = WG := ⟨_,rfl⟩
 rw [hWG] at rG hBG m0 m1 hoG hzG ⊢
 clear hWG r13 r03 l0 l1 k0 k1 k2 k3 k4 f0 f1 hown hz3 hB3
 have k0 := rG.cell (j := 0) rfl
 go_wp2_with fail
 refine (Tryz.strings_HasPrefix _ _ _).mono ?_
 rintro e w' ⟨rfl,hw⟩
 rw [hw,hpre]
 clear hw hpre
 go_wp2_with fail
 refine (hleaf WG hBG).mono ?_
 rintro e w4 ⟨hlo,hb4⟩
 obtain ⟨A4,c4,rfl,h4c,hR4,hfr⟩ := hlo
 have HFR := Lib.hid hfr
 have hB4 := hBG.trans (hb4.mono hBG.size)
 have r4 := rG.below hb4
 have hzx : WG.heap.size ≤ w4.heap.size := hb4.size
 have ho4 := (OwnM.of hoG).below hb4
 have hRV : Rv w4 A4 (body.map bv) := hR4
 clear rG k0 m0 m1 hBG hoG hleaf hfr hR4
 have k0 := r4.cell (j := 0) rfl
 have k1 := r4.cell (j := 1) rfl
 have k2 := r4.cell (j := 2) rfl
 have k3 := r4.cell (j := 3) rfl
 have k4 := r4.cell (j := 4) rfl
 have f0 := r4.frozen 0
 have f1 := r4.frozen 1
 have f2 := r4.frozen 2
 have f3 := r4.frozen 3
 have f4 := r4.frozen 4
 go_wp2_with fail
 have rF := (((((((r4.set 2 (.int .i64 0)).set 3 (.slice A4 body.length c4)).set 0 (.string (bs kind))).set 1 (.slice A5 nm c5)).set 2 (.int .i64 0)).set 3 (.slice A4 body.length c4)).set 4 (.slice none 0 0))
 have hBF := (((((((hB4.setCell (p := ⟨w.heap.size + 1,2,none⟩) (by simp) (.int .i64 0)).setCell (p := ⟨w.heap.size + 1,3,none⟩) (by simp) (.slice A4 body.length c4)).setCell (p := ⟨w.heap.size + 1,0,none⟩) (by simp) (.string (bs kind))).setCell (p := ⟨w.heap.size + 1,1,none⟩) (by simp) (.slice A5 nm c5)).setCell (p := ⟨w.heap.size + 1,2,none⟩) (by simp) (.int .i64 0)).setCell (p := ⟨w.heap.size + 1,3,none⟩) (by simp) (.slice A4 body.length c4)).setCell (p := ⟨w.heap.size + 1,4,none⟩) (by simp) (.slice none 0 0))
 have hkeep : ∀ k,(w2.heap.size ≤ k ∧ k < w4.heap.size) → (((((((w4.setCell ⟨w.heap.size + 1,2,none⟩ (.int .i64 0)).setCell ⟨w.heap.size + 1,3,none⟩ (.slice A4 body.length c4)).setCell ⟨w.heap.size + 1,0,none⟩ (.string (bs kind))).setCell ⟨w.heap.size + 1,1,none⟩ (.slice A5 nm c5)).setCell ⟨w.heap.size + 1,2,none⟩ (.int .i64 0)).setCell ⟨w.heap.size + 1,3,none⟩ (.slice A4 body.length c4)).setCell ⟨w.heap.size + 1,4,none⟩ (.slice none 0 0)).heap[k]? = w4.heap[k]? := fun k hk => by
  have hne : k ≠ w.heap.size + 1 := by omega
  rw [Below.heap_setCell _ _ _ k hne,Below.heap_setCell _ _ _ k hne,Below.heap_setCell _ _ _ k hne,Below.heap_setCell _ _ _ k hne,Below.heap_setCell _ _ _ k hne,Below.heap_setCell _ _ _ k hne,Below.heap_setCell _ _ _ k hne]
 have hsz : (((((((w4.setCell ⟨w.heap.size + 1,2,none⟩ (.int .i64 0)).setCell ⟨w.heap.size + 1,3,none⟩ (.slice A4 body.length c4)).setCell ⟨w.heap.size + 1,0,none⟩ (.string (bs kind))).setCell ⟨w.heap.size + 1,1,none⟩ (.slice A5 nm c5)).setCell ⟨w.heap.size + 1,2,none⟩ (.int .i64 0)).setCell ⟨w.heap.size + 1,3,none⟩ (.slice A4 body.length c4)).setCell ⟨w.heap.size + 1,4,none⟩ (.slice none 0 0)).heap.size = w4.heap.size := by simp
 have e0 := rF.cell (j := 0) rfl
 have e1 := rF.cell (j := 1) rfl
 have e2 := rF.cell (j := 2) rfl
 have e3 := rF.cell (j := 3) rfl
 have e4 := rF.cell (j := 4) rfl
 refine bodyPost_ret (v := .tuple #[.agg #[.string (bs kind),.slice A5 nm c5,.int .i64 0,.slice A4 body.length c4,.slice none 0 0],.int .i64 0]) (by simp [results,Tryz.results32,go_sem,e0,e1,e2,e3,e4]) rfl ⟨?_,hBF⟩
 refine ⟨⟨kind,A5,nm,c5,0,A4,body.length,c4,none,0,0⟩,(fun k => w2.heap.size ≤ k ∧ k < w4.heap.size),rfl,⟨rfl,HNM.out.symm,rfl,rfl,h4c,?_,?_,rfl⟩,fun k hk => ⟨by omega,by rw [hsz]; exact hk.2⟩⟩
 ·exact (RvF.of_own ho4).keep hkeep fun k h => h
 ·have h : RvF w4 (fun k => w2.heap.size ≤ k ∧ k < w4.heap.size) A4 (body.map bv) := ⟨hRV,fun x o e _ => ⟨Nat.le_trans hzG (HFR.out x o e).1,(HFR.out x o e).2⟩⟩
  exact h.keep hkeep fun k h => h
end
section
open Go.RowKit
theorem mread_any (v0 v1 : Value) (o : Except Nat RP) (w : World) (hst : ∀ R,o = .ok R → Stab R)
 (H : ∀ W,Below w.heap.size w W → Calls Tryz.prog 32 #[.agg #[v0,v1],.int .i64 0] W fun e W' => ROut o W.heap.size W' e ∧ Below W.heap.size W W') :
 Calls Tryz.prog 15 #[.agg #[v0,v1]] w fun e w' => ROut o w.heap.size w' e ∧ Below w.heap.size w w' := by
 have hB00 : Below w.heap.size w (w.alloc (.cells #[v0,v1] 39)) := (Below.refl _ _).alloc (Nat.le_refl _) _
 have hB0 : Below w.heap.size w ((w.alloc (.cells #[v0,v1] 39)).alloc (.cells #[.string ⟨#[]⟩,.slice none 0 0,.int .i64 0,.slice none 0 0,.slice none 0 0] 34)) := hB00.alloc hB00.size _
 have rl := Row.new (w.alloc (.cells #[v0,v1] 39)) #[.string ⟨#[]⟩,.slice none 0 0,.int .i64 0,.slice none 0 0,.slice none 0 0] 34
 rw [World.size_alloc] at rl
 have hc := H _ hB0
 have hz0 : w.heap.size + 2 ≤ ((w.alloc (.cells #[v0,v1] 39)).alloc (.cells #[.string ⟨#[]⟩,.slice none 0 0,.int .i64 0,.slice none 0 0,.slice none 0 0] 34)).heap.size := by simp
 clear H hB00
 go_enter Tryz.func15,Tryz.ntmps15
 go_wp2_with fail
 generalize ((w.alloc (.cells #[v0,v1] 39)).alloc (.cells #[.string ⟨#[]⟩,.slice none 0 0,.int .i64 0,.slice none 0 0,.slice none 0 0] 34)) = W0 at *
 refine hc.mono ?_
 rintro e w1 ⟨hwo,hb1⟩
 have hB1 := hB0.trans (hb1.mono hB0.size)
 have R := rl.below hb1
 have a0 := R.cell (j := 0) rfl
 have f0 := R.frozen 0
 have a1 := R.cell (j := 1) rfl
 have f1 := R.frozen 1
 have a2 := R.cell (j := 2) rfl
 have f2 := R.frozen 2
 have a3 := R.cell (j := 3) rfl
 have f3 := R.frozen 3
 have a4 := R.cell (j := 4) rfl
 have f4 := R.frozen 4
 cases o with
 | error k =>
   simp only [ROut] at hwo
   subst hwo
   go_wp2_with fail
   have rF := (((((R.set 0 (.string (bs []))).set 1 (.slice none 0 0)).set 2 (.int .i64 0)).set 3 (.slice none 0 0)).set 4 (.slice none 0 0))
   have hBF := (((((hB1.setCell (p := ⟨w.heap.size + 1,0,none⟩) (by simp) (.string (bs []))).setCell (p := ⟨w.heap.size + 1,1,none⟩) (by simp) (.slice none 0 0)).setCell (p := ⟨w.heap.size + 1,2,none⟩) (by simp) (.int .i64 0)).setCell (p := ⟨w.heap.size + 1,3,none⟩) (by simp) (.slice none 0 0)).setCell (p := ⟨w.heap.size + 1,4,none⟩) (by simp) (.slice none 0 0))
   have e0 := rF.cell (j := 0) rfl
   have e1 := rF.cell (j := 1) rfl
   have e2 := rF.cell (j := 2) rfl
   have e3 := rF.cell (j := 3) rfl
   have e4 := rF.cell (j := 4) rfl
   exact bodyPost_ret (v := .tuple #[.agg #[.string (bs []),.slice none 0 0,.int .i64 0,.slice none 0 0,.slice none 0 0],.int .i64 (k : Int)]) (by simp [results,Tryz.results15,go_sem,e0,e1,e2,e3,e4]) rfl ⟨rfl,hBF⟩
 | ok R0 =>
   obtain ⟨p,F,rfl,hp,hF⟩ := hwo
   have hs := hst R0 rfl
   have HP := Lib.hid hp
   have HF := Lib.hid hF
   clear hp hF hst
   obtain ⟨pk,pA,pn,pc,pcode,pB,pnb,pcb,pC,pnq,pcc⟩ := p
   simp only [Pv.val]
   go_wp2_with fail
   have rF := (((((R.set 0 (.string (bs pk))).set 1 (.slice pA pn pc)).set 2 (.int .i64 pcode)).set 3 (.slice pB pnb pcb)).set 4 (.slice pC pnq pcc))
   have hBF := (((((hB1.setCell (p := ⟨w.heap.size + 1,0,none⟩) (by simp) (.string (bs pk))).setCell (p := ⟨w.heap.size + 1,1,none⟩) (by simp) (.slice pA pn pc)).setCell (p := ⟨w.heap.size + 1,2,none⟩) (by simp) (.int .i64 pcode)).setCell (p := ⟨w.heap.size + 1,3,none⟩) (by simp) (.slice pB pnb pcb)).setCell (p := ⟨w.heap.size + 1,4,none⟩) (by simp) (.slice pC pnq pcc))
   have hsz : (((((w1.setCell ⟨w.heap.size + 1,0,none⟩ (.string (bs pk))).setCell ⟨w.heap.size + 1,1,none⟩ (.slice pA pn pc)).setCell ⟨w.heap.size + 1,2,none⟩ (.int .i64 pcode)).setCell ⟨w.heap.size + 1,3,none⟩ (.slice pB pnb pcb)).setCell ⟨w.heap.size + 1,4,none⟩ (.slice pC pnq pcc)).heap.size = w1.heap.size := by simp
   have hkeep : ∀ k,F k → (((((w1.setCell ⟨w.heap.size + 1,0,none⟩ (.string (bs pk))).setCell ⟨w.heap.size + 1,1,none⟩ (.slice pA pn pc)).setCell ⟨w.heap.size + 1,2,none⟩ (.int .i64 pcode)).setCell ⟨w.heap.size + 1,3,none⟩ (.slice pB pnb pcb)).setCell ⟨w.heap.size + 1,4,none⟩ (.slice pC pnq pcc)).heap[k]? = w1.heap[k]? := fun k hk => by
    have h1 := (HF.out k hk).1
    have hne : k ≠ w.heap.size + 1 := by omega
    rw [Below.heap_setCell _ _ _ k hne,Below.heap_setCell _ _ _ k hne,Below.heap_setCell _ _ _ k hne,Below.heap_setCell _ _ _ k hne,Below.heap_setCell _ _ _ k hne]
   have e0 := rF.cell (j := 0) rfl
   have e1 := rF.cell (j := 1) rfl
   have e2 := rF.cell (j := 2) rfl
   have e3 := rF.cell (j := 3) rfl
   have e4 := rF.cell (j := 4) rfl
   exact bodyPost_ret (v := .tuple #[.agg #[.string (bs pk),.slice pA pn pc,.int .i64 pcode,.slice pB pnb pcb,.slice pC pnq pcc],.int .i64 0]) (by simp [results,Tryz.results15,go_sem,e0,e1,e2,e3,e4]) rfl ⟨⟨⟨pk,pA,pn,pc,pcode,pB,pnb,pcb,pC,pnq,pcc⟩,F,rfl,hs _ _ _ _ HP.out hkeep,fun k hk => ⟨by have := (HF.out k hk).1; omega,by rw [hsz]; exact (HF.out k hk).2⟩⟩,hBF⟩
end
section
open Go.RowKit
def partR (x : En) : RP := if x.plain then leafR textN [] 1 x.cip else multiR sealN prms [leafR oursN [] 0 verB,leafR octN [] 1 x.cip]
theorem partR_stab (x : En) : Stab (partR x) := by
 unfold partR
 split
 ·exact leafR_stab
 ·exact multiR_stab fun R hR => by
   simp only [List.mem_cons,List.mem_nil_iff,or_false] at hR
   rcases hR with rfl | rfl
   ·exact leafR_stab
   ·exact leafR_stab
theorem rm1_any (W : World) (A : Option Addr) (c : Nat) (B : Option Addr) (c2 : Nat) (d : Int) (hG : Gm W) (hA : Fd.Rf W A m1P.1) (hB : Rb W B m1P.2) (h2 : m1P.2.length ≤ c2) (hpl : Pl B c2) :
 Calls Tryz.prog 32 #[.agg #[.slice A m1P.1.length c,.slice B m1P.2.length c2],.int .i64 d] W fun e w' => ROut (.ok (leafR oursN [] 0 verB)) W.heap.size w' e ∧ Below W.heap.size W w' :=
 rleaf8_any A B m1P.1 m1P.2 _ c _ c2 d W rfl hA rfl hB h2 hpl hG (by decide) (by decide) (v := Tk.writeB oursN []) (kind := oursN) (ms := []) vals_m1.1 (by decide +kernel) (Tk.write_read c1.2.2.2) pre_kinds.1 (by simp) vals_m1.2.2 vals_m1.2.1
theorem rm2_any (x : List UInt8) (hx : x.length ≤ 3000) (W : World) (A : Option Addr) (c : Nat) (B : Option Addr) (c2 : Nat) (d : Int) (hG : Gm W) (hA : Fd.Rf W A (m2P x).1) (hB : Rb W B (m2P x).2) (h2 : (m2P x).2.length ≤ c2) :
 Calls Tryz.prog 32 #[.agg #[.slice A (m2P x).1.length c,.slice B (m2P x).2.length c2],.int .i64 d] W fun e w' => ROut (.ok (leafR octN [] 1 x)) W.heap.size w' e ∧ Below W.heap.size W w' :=
 rleaf64_any A B (m2P x).1 (m2P x).2 x _ c _ c2 d W rfl hA rfl hB h2 hG (by simp [m2P]) (by have := enc1_len hx; show (encB 1 x).length ≤ _; omega) (v := Tk.writeB octN []) (kind := octN) (ms := []) vals_m2.1 (by decide +kernel) (Tk.write_read Go.Proofs.YtkllecicddfjpaaGreatDoor.c2.2.2.2) pre_kinds.2.1 (by simp) vals_m2.2.2 vals_m2.2.1 (Ar.lin_nob _ (Ar.enc_nob x)).symm
theorem mp_any (x : En) (hx : x.cip.length ≤ 3000) (A : Option Addr) (n c : Nat) (B : Option Addr) (n2 c2 : Nat) (w : World) (hn : (packM x).1.length = n) (hn7 : n ≤ 1000000) (hn2 : (packM x).2.length = n2) (hG : Gm w) (hA : Fd.Rf w A (packM x).1) (hB : Rb w B (packM x).2) (h2 : n2 ≤ c2) (h3 : c2 ≤ maxLen) (hpl : Pl B c2) :
 Calls Tryz.prog 15 #[.agg #[.slice A n c,.slice B n2 c2]] w fun e w' => ROut (.ok (partR x)) w.heap.size w' e ∧ Below w.heap.size w w' := by
 refine mread_any _ _ (.ok (partR x)) w (fun R hR => by cases hR; exact partR_stab x) fun W hW => ?_
 have hbl := part_body hx
 have hbl2 : (packM x).2.length ≤ 20000 := hbl
 have hG' := hG.below hW
 have hA' := hA.below hW
 have hB' := hB.below hW
 obtain ⟨vp,vs⟩ := vals_in x
 unfold partR
 cases hp : x.plain with
 | true =>
   obtain ⟨v1,v2⟩ := vp hp
   rw [if_pos rfl]
   have hb : (packM x).2 = encB 1 x.cip := by
    show (inM x).2 = _
    unfold inM
    rw [if_pos hp]
   exact rleaf64_any A B (packM x).1 (packM x).2 x.cip n c n2 c2 0 W hn hA' hn2 hB' h2 hG' hn7 (by omega) (v := Tk.writeB textN []) (kind := textN) (ms := []) v1 (by decide +kernel) (Tk.write_read c3.2.2) pre_kinds.2.2.1 (by simp) (by rw [v2]; decide) (by unfold codeT; rw [v2]; exact pre_kinds.2.2.2.2)
    (by rw [hb]; exact (Ar.lin_nob _ (Ar.enc_nob x.cip)).symm)
 | false =>
   rw [if_neg (by decide)]
   have v1 := vs hp
   have hb : (packM x).2 = bodyJ bordN [mb m1P,mb (m2P x.cip)] := by
    show (inM x).2 = _
    unfold inM
    rw [if_neg (by rw [hp]; decide)]
   have hs : splitS (packM x).2 (paramP prms bdN) = ([mb m1P,mb (m2P x.cip)],0) := by
    rw [hb,c4.2.2.2.1]
    exact in_split hx
   have hm1 := m1_mb
   have hm2 := m2_mb hx
   have two : ∀ (j : Nat) (y : List UInt8),[mb m1P,mb (m2P x.cip)][j]? = some y → (j = 0 ∧ y = mb m1P) ∨ (j = 1 ∧ y = mb (m2P x.cip)) := by
    intro j y h
    match j,h with
    | 0,h => exact .inl ⟨rfl,(Option.some.inj h).symm⟩
    | 1,h => exact .inr ⟨rfl,(Option.some.inj h).symm⟩
    | j + 2,h => simp at h
   have h := rmulti_any A B (packM x).1 (packM x).2 n c n2 c2 0 [.ok (leafR oursN [] 0 verB),.ok (leafR octN [] 1 x.cip)] W hn hA' hn2 hB' h2 h3 hpl hG' hn7 (by omega) (by omega) (v := Tk.writeB sealN prms) (kind := sealN) (ms := prms) v1 (by decide +kernel) (Tk.write_read c4.2.2.1) pre_kinds.2.2.2.1 (by simp) (by rw [c4.2.2.2.1]; decide)
    (by rw [hs]; rfl) (by
      rw [hs]
      intro y hy
      simp only [List.mem_cons,List.mem_nil_iff,or_false] at hy
      rcases hy with rfl | rfl
      ·have := hm1.2.2
       omega
      ·have := hm2.2.2
       omega) (by
      intro R hR
      simp only [List.mem_cons,List.mem_nil_iff,or_false] at hR
      rcases hR with hR | hR
      ·cases hR; exact leafR_stab
      ·cases hR; exact leafR_stab) (by
      intro k hk
      simp only [List.mem_cons,List.mem_nil_iff,or_false] at hk
      rcases hk with hk | hk <;> cases hk) (by
      intro j y k hj hr
      rw [hs] at hj
      rcases two j y hj with ⟨rfl,rfl⟩ | ⟨rfl,rfl⟩
      ·rw [read_mb hm1.1] at hr; cases hr
      ·rw [read_mb hm2.1] at hr; cases hr) (by
      intro j y fs bb hj hr
      rw [hs] at hj
      rcases two j y hj with ⟨rfl,rfl⟩ | ⟨rfl,rfl⟩
      ·rw [read_mb hm1.1] at hr
       have hm : m1P = (fs,bb) := Except.ok.inj hr
       refine ⟨_,rfl,fun W' A' c' B' c2' hW' r1 r2 r3 r4 r5 => ?_⟩
       have h := rm1_any W' A' c' B' c2' (0 + 1) (hG'.below hW') (by rw [hm]; exact r1) (by rw [hm]; exact r2) (by rw [hm]; exact r3) r5
       rw [hm] at h
       exact h
      ·rw [read_mb hm2.1] at hr
       have hm : m2P x.cip = (fs,bb) := Except.ok.inj hr
       refine ⟨_,rfl,fun W' A' c' B' c2' hW' r1 r2 r3 r4 r5 => ?_⟩
       have h := rm2_any x.cip hx W' A' c' B' c2' (0 + 1) (hG'.below hW') (by rw [hm]; exact r1) (by rw [hm]; exact r2) (by rw [hm]; exact r3)
       rw [hm] at h
       exact h)
   have hpw : partsW (paramP prms bdN) (packM x).2 0 [Except.ok (leafR oursN [] 0 verB),.ok (leafR octN [] 1 x.cip)] = .ok [leafR oursN [] 0 verB,leafR octN [] 1 x.cip] := by
    unfold partsW
    rw [c4.2.2.2.1,if_neg (by rw [c4.2.2.2.2]; decide),if_neg (by omega)]
    rw [c4.2.2.2.1] at hs
    rw [hs]
    rfl
   rw [hpw] at h
   exact h
end
section
open Go.RowKit
theorem eg_prot : ∀ args w,(callFunc 95 args).run Tryz.prog w = .ok (.enter 95 args) w := enters_of Tryz.func95 (by kernel_rfl) rfl
theorem prot1_any (p : List UInt8 × List UInt8) (w : World) :
 Calls Tryz.prog 95 #[.agg #[.string (bs p.1),.string (bs p.2)]] w fun e w' => e = .returned (.bool (p.1 == protN)) ∧ Below w.heap.size w w' := by
 have hA0 : Below w.heap.size w (w.alloc (.cells #[.string (bs p.1),.string (bs p.2)] 36)) := (Below.refl _ _).alloc (Nat.le_refl _) _
 go_enter Tryz.func95,Tryz.ntmps95
 go_wp2_with fail
 go_ret
 exact ⟨rfl,hA0⟩
theorem prot_any (A : Option Addr) (ms : List (List UInt8 × List UInt8)) (n c : Nat) (w : World) (hn : ms.length = n) (hA : Rv w A (Tk.pcells ms)) (hb : n ≤ 1000000) :
 Calls Tryz.prog 94 #[.slice A n c,.func (.func 95) #[] #[]] w fun e w' => e = .returned (.int .i64 (parZ ms protN)) ∧ Below w.heap.size w w' := by
 have HN := Lib.hid hn
 have eg := eg_prot
 obtain ⟨nm,hnm⟩ : ∃ nm,protN = nm := ⟨_,rfl⟩
 have hcall0 := fun p w => prot1_any p w
 rw [hnm] at hcall0 ⊢
 clear hn hnm
 go_enter Tryz.func94,Tryz.ntmps94
 go_wp2_with fail
 go_loopw [8] (fun i wr => ∃ k : Nat,i = .int .i64 k ∧ k ≤ n ∧ Hid (∀ q ∈ ms.take k,(q.1 == nm) = false) ∧ Below w.heap.size w wr) (fun i _ => n - (intOf i).toNat)
 case atStart => exact ⟨0,rfl,by omega,Lib.hid (by simp),Below.refl _ _⟩
 case round =>
  obtain ⟨k,rfl,hk,ha,hB⟩ := hrel
  by_cases hlt : k < n
  ·obtain ⟨p,hpq⟩ : ∃ p,ms[k]? = some p := ⟨_,List.getElem?_eq_getElem (by rw [HN.out]; exact hlt)⟩
   have hp := Lib.hid hpq
   obtain ⟨b,o,rfl,hcell⟩ := (hA.below hB) (by rw [Tk.pcells_len,HN.out]; omega)
   have k0 : wr.cell? ⟨b,o + k * 2,none⟩ = some (.string (bs p.1)) := by have := hcell _ _ (Tk.pcells_get hpq).1; rwa [Nat.mul_comm] at this
   have k1 : wr.cell? ⟨b,o + k * 2 + 1,none⟩ = some (.string (bs p.2)) := by have := hcell _ _ (Tk.pcells_get hpq).2; rwa [Nat.mul_comm,← Nat.add_assoc] at this
   have hcall := hcall0 p wr
   have hHit : (p.1 == nm) = true → Hid (parZ ms nm = (k : Int)) := fun h => Lib.hid (by
    unfold parZ
    rw [(find_ahead ha.out hp.out h).2])
   have hMiss : (p.1 == nm) = false → Hid (∀ q ∈ ms.take (k + 1),(q.1 == nm) = false) := fun h => Lib.hid (by
    rw [take_succ_of hp.out]
    intro q hq
    rcases List.mem_append.1 hq with hq | hq
    ·exact ha.out q hq
    ·simp at hq
     rw [hq]
     exact h)
   clear hpq hcell hcall0
   obtain ⟨z,hz⟩ : ∃ z,(p.1 == nm) = z := ⟨_,rfl⟩
   rw [hz] at hcall hHit hMiss
   clear hz
   cases z with
   | true =>
     have HH := hHit rfl
     clear hHit hMiss
     go_wp2_with fail
     refine hcall.mono ?_
     rintro e w2 ⟨rfl,hb2⟩
     go_wp2_with fail
     go_ret
     exact ⟨ret_int HH.out.symm,hB.trans (hb2.mono hB.size)⟩
   | false =>
     have HH := hMiss rfl
     clear hHit hMiss
     go_wp2_with fail
     refine hcall.mono ?_
     rintro e w2 ⟨rfl,hb2⟩
     go_wp2_with fail
     go_roundw
     case rel => exact ⟨k + 1,by go_num,by omega,HH,hB.trans (hb2.mono hB.size)⟩
     case measure => simp [intOf]; omega
  ·obtain rfl : k = n := by omega
   have hno : parZ ms nm = -1 := by
    have h := ha.out
    rw [List.take_of_length_le (by rw [HN.out]; omega)] at h
    unfold parZ
    rw [(find_no h).2]
   have HNO := Lib.hid hno
   clear hno
   go_wp2_with fail
   go_ret
   exact ⟨ret_int HNO.out.symm,hB⟩
theorem inside_text (A : Option Addr) (c : Nat) (code : Int) (B : Option Addr) (nb cb : Nat) (C : Option Addr) (nq cc : Nat) (w : World) :
 Calls Tryz.prog 45 #[.agg #[.string (bs textN),.slice A 0 c,.int .i64 code,.slice B nb cb,.slice C nq cc]] w fun e w' => e = .returned (.tuple #[.slice B nb cb,.bool true,.bool true]) ∧ Below w.heap.size w w' := by
 have hB0 : Below w.heap.size w (w.alloc (.cells #[.string (bs textN),.slice A 0 c,.int .i64 code,.slice B nb cb,.slice C nq cc] 34)) := (Below.refl _ _).alloc (Nat.le_refl _) _
 have r0 := Row.new w #[.string (bs textN),.slice A 0 c,.int .i64 code,.slice B nb cb,.slice C nq cc] 34
 have hix := prot_any A [] 0 c (w.alloc (.cells #[.string (bs textN),.slice A 0 c,.int .i64 code,.slice B nb cb,.slice C nq cc] 34)) rfl (Rv.nil _ _) (by omega)
 rw [show parZ [] protN = -1 from rfl] at hix
 go_enter Tryz.func45,Tryz.ntmps45
 go_wp2_with fail
 refine hix.mono ?_
 rintro e w1 ⟨rfl,hb1⟩
 have r1 := r0.below hb1
 have k0 := r1.cell (j := 0) rfl
 have k3 := r1.cell (j := 3) rfl
 clear hix
 go_wp2_with fail
 go_ret3
 exact ⟨rfl,hB0.trans (hb1.mono hB0.size)⟩
end
end Go.Proofs.YtkllecicddfjpaaGreatDoor
