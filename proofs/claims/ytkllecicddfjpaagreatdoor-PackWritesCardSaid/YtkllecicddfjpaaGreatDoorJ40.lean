/- The walk of the law, part 40. -/
import Derived.Test.YtkllecicddfjpaaGreatDoorJ18
import Derived.Test.YtkllecicddfjpaaGreatDoorJ10
import Derived.Test.YtkllecicddfjpaaGreatDoorJ37
import Derived.Test.YtkllecicddfjpaaGreatDoorJ39
import Derived.Test.YtkllecicddfjpaaGreatDoorJ19
import Derived.KernelRfl
import Derived.Test.YtkllecicddfjpaaGreatDoorJ32
set_option maxRecDepth 100000
set_option maxHeartbeats 16000000
set_option linter.unusedVariables false
set_option linter.unusedSimpArgs false
namespace Go.Proofs.YtkllecicddfjpaaGreatDoor
section
open Go.RowKit
section
open Tk
theorem small_any (l : List UInt8) (w : World) (hl : l.length ≤ 140737488351232) :
 Calls Tryz.prog 137 #[.string (bs l)] w fun e w' => e = .returned (.string (bs (l.map small))) ∧ Below w.heap.size w w' := by
 obtain ⟨c,W,hcv,hown,hB,_⟩ := conv_bs (P := Tryz.prog) (src := 9) (dst := 22) Tryz.underlying9 Tryz.underlying22 Tryz.underlying5 w l (by unfold maxLen; omega)
 obtain ⟨B,hBB⟩ : ∃ B,w.heap.size = B := ⟨_,rfl⟩
 rw [hBB] at hcv hown hB ⊢
 obtain ⟨r,hrow⟩ := RowM.of hown
 obtain ⟨K,hK⟩ : ∃ K,l.length = K := ⟨_,rfl⟩
 have HK := Lib.hid hK
 have HBB := Lib.hid hBB
 rw [hK] at hcv hl
 clear hown hBB hK
 go_enter Tryz.func137,Tryz.ntmps137
 go_wp2_with fail
 go_loopw [10] (fun i wr => ∃ q : Nat,i = .int .i64 q ∧ q ≤ K ∧ Hid (RowM wr B 5 ((lowAt l q).map bv ++ r)) ∧ Below B w wr) (fun i _ => K - (intOf i).toNat)
 case atStart => exact ⟨0,rfl,by omega,Lib.hid hrow,hB⟩
 case round =>
  clear hrow hB hcv
  obtain ⟨q,rfl,hq,hrow,hB⟩ := hrel
  by_cases hlt : q < K
  ·have hlt2 : q < l.length := by rw [HK.out]; exact hlt
   obtain ⟨x,hx⟩ : ∃ x,l[q]? = some x := ⟨_,List.getElem?_eq_getElem hlt2⟩
   have hlen : q < (lowAt l q).length := by rw [lowAt_len]; exact hlt2
   have hcell : wr.cell? ⟨B,q,none⟩ = some (.int .u8 (x.toNat : Int)) := hrow.out.cell (by rw [List.getElem?_append_left (by simpa using hlen),List.getElem?_map,lowAt_at hx]; rfl)
   have hfr : wr.frozen? ⟨B,q,none⟩ = false := hrow.out.frozen (by rw [List.length_append,List.length_map]; omega)
   by_cases h : 65 ≤ x.toNat ∧ x.toNat ≤ 90
   ·obtain ⟨h1,h2⟩ := h
    have k1 : (65 : Int) ≤ (x.toNat : Int) := by omega
    have k2 : (x.toNat : Int) ≤ 90 := by omega
    have hsm : (small x).toNat = x.toNat + 32 := by rw [small_nat,if_pos ⟨h1,h2⟩]
    have hset := hrow.out.set q (bv (small x))
    rw [row_set_map (lowAt_set hx) hlen] at hset
    have hbv : bv (small x) = .int .u8 ((x.toNat : Int) + 97 - 65) := by unfold bv; rw [hsm]; congr 1; omega
    rw [hbv] at hset
    have HSET := Lib.hid hset
    clear hset hbv hsm hx hlen hlt2 h1 h2 hrow
    go_wp2_with fail
    go_roundw
    case rel => exact ⟨q + 1,by go_num,by omega,HSET,hB.setCell (Nat.le_refl _) _⟩
    case measure => simp [intOf]; omega
   ·have hsm : small x = x := by unfold small; rw [if_neg h]
    have hst := hrow.out
    rw [lowAt_same hx hsm] at hst
    have HST := Lib.hid hst
    have k : ¬ (65 : Int) ≤ (x.toNat : Int) ∨ ((65 : Int) ≤ (x.toNat : Int) ∧ ¬ (x.toNat : Int) ≤ 90) := by omega
    clear hst hsm h hx hlen hlt2 hrow
    rcases k with k1 | ⟨k1,k2⟩
    all_goals
     go_wp2_with fail
     go_roundw
     case rel => exact ⟨q + 1,by go_num,by omega,HST,hB⟩
     case measure => simp [intOf]; omega
  ·have hqK : q = l.length := by rw [HK.out]; omega
   have hrow2 := hrow.out
   rw [hqK,lowAt_end] at hrow2
   have hRb : Rb wr (some ⟨B,0,none⟩) (l.map small) := fun _ => ⟨B,0,rfl,fun j v hj => by
    rw [Nat.zero_add]
    exact hrow2.cell (by rw [List.getElem?_append_left (by have := lt_of_get hj; simpa using this)]; exact hj)⟩
   have hcs := fun c => conv_str (P := Tryz.prog) (src := 22) (dst := 9) (c := c) (n := K) Tryz.underlying22 Tryz.underlying5 Tryz.underlying9 hRb (by rw [List.length_map]; exact HK.out)
   clear hRb hrow hrow2 hqK
   go_wp2_with fail
   go_ret
   exact ⟨rfl,hB⟩
end
end
section
open Go.RowKit
def codeT (fs : List (List UInt8 × List UInt8)) : List UInt8 := (Tk.trimB (((Fd.valsN cteN fs).head?).getD [])).map small
def LfOut (o : Except Nat (Int × List UInt8)) (base : Nat) (w' : World) (e : Ending) : Prop := match o with
 | .error k => ∃ (z : Int),e = .returned (.tuple #[.int .i64 z,.slice none 0 0,.int .i64 (k : Int)])
 | .ok (z,b) => ∃ A c,e = .returned (.tuple #[.int .i64 z,.slice A b.length c,.int .i64 0]) ∧ b.length ≤ c ∧ Rb w' A b ∧ ∀ x o,A = some ⟨x,o,none⟩ → base ≤ x ∧ x < w'.heap.size
theorem get_form {nm : List UInt8} {fs : List (List UInt8 × List UInt8)} {e : Ending} (h : Fd.GetOut nm fs e) : ∃ b,e = .returned (.tuple #[.string (bs (((Fd.valsN nm fs).head?).getD [])),.bool b]) := by
 unfold Fd.GetOut at h
 cases hv : (Fd.valsN nm fs).head? with
 | none => rw [hv] at h; exact ⟨false,h⟩
 | some v => rw [hv] at h; exact ⟨true,h⟩
theorem leaf64_any (A A2 : Option Addr) (fs : List (List UInt8 × List UInt8)) (l b : List UInt8) (n c n2 c2 : Nat) (w : World) (hn : fs.length = n) (hA : Fd.Rf w A fs) (hn2 : l.length = n2) (hA2 : Rb w A2 l) (h2c : n2 ≤ c2) (hG : Gm w) (hb : n ≤ 1000000) (hb2 : n2 ≤ 1000000)
 (hvl : (((Fd.valsN cteN fs).head?).getD []).length ≤ 1000000) (hv : codeT fs = [98,97,115,101,54,52]) (hlb : Ar.enc b = Ar.nob l) :
 Calls Tryz.prog 71 #[.agg #[.slice A n c,.slice A2 n2 c2]] w fun e w' => LfOut (.ok (1,b)) w.heap.size w' e ∧ Below w.heap.size w w' := by
 have HN := Lib.hid hn
 have HN2 := Lib.hid hn2
 have HLB := Lib.hid hlb
 obtain ⟨v,hvv⟩ : ∃ v,((Fd.valsN cteN fs).head?).getD [] = v := ⟨_,rfl⟩
 unfold codeT at hv
 rw [hvv] at hv hvl
 have HVV := Lib.hid hvv
 have HV := Lib.hid hv
 clear hn hn2 hv hlb hvv
 have hB0 : Below w.heap.size w (w.alloc (.cells #[.slice A n c,.slice A2 n2 c2] 39)) := (Below.refl _ _).alloc (Nat.le_refl _) _
 have c00 : (w.alloc (.cells #[.slice A n c,.slice A2 n2 c2] 39)).cell? ⟨w.heap.size,0,none⟩ = some (.slice A n c) := by simp
 have c01 : (w.alloc (.cells #[.slice A n c,.slice A2 n2 c2] 39)).cell? ⟨w.heap.size,1,none⟩ = some (.slice A2 n2 c2) := by simp
 go_enter Tryz.func71,Tryz.ntmps71
 go_wp2_with fail
 generalize (w.alloc (.cells #[.slice A n c,.slice A2 n2 c2] 39)) = W0 at *
 have hg := Fd.get_any A A2 fs cteN n c n2 c2 W0 HN.out (hA.below hB0) (tabs_below hG.tabs hB0) (by simp) hb
 refine hg.mono ?_
 rintro e w1 ⟨hgo,hb1⟩
 obtain ⟨bo,hgo⟩ := get_form hgo
 rw [HVV.out] at hgo
 subst hgo
 clear hg
 have hB1 := hB0.trans (hb1.mono hB0.size)
 have c11 := (hb1.cell (p := ⟨w.heap.size,1,none⟩) (cell_lt c01)).trans c01
 go_wp2_with fail
 refine (Tk.trim_any v w1 (by omega)).mono ?_
 rintro e w2 ⟨rfl,hb2'⟩
 have hB2 := hB1.trans (hb2'.mono hB1.size)
 have c21 := (hb2'.cell (p := ⟨w.heap.size,1,none⟩) (cell_lt c11)).trans c11
 have htl : (Tk.trimB v).length ≤ v.length := Tk.trimB_len v
 go_wp2_with fail
 have hsm := small_any (Tk.trimB v) w2 (by omega)
 rw [HV.out] at hsm
 refine hsm.mono ?_
 rintro e w3 ⟨rfl,hb3⟩
 have hB3 := hB2.trans (hb3.mono hB2.size)
 have c31 := (hb3.cell (p := ⟨w.heap.size,1,none⟩) (cell_lt c21)).trans c21
 have hC3 := (hG.below hB3).c1
 clear hsm
 go_wp2_with fail
 refine (Ar.read_own A2 l n2 c2 w3 (tabs_below hG.tabs hB3) HN2.out (hA2.below hB3) h2c (by omega)).mono ?_
 rintro e w4 ⟨h | ⟨rfl,hno⟩,hb4⟩
 ·obtain ⟨A4,m,c4,a,rfl,hm,hmc,_,hR4,hen,hfr⟩ := h
  rw [← HLB.out] at hen
  obtain rfl : a = b := Ar.enc_inj _ _ hen
  subst hm
  have HF := Lib.hid hfr
  go_wp2_with fail
  go_ret3
  exact ⟨⟨A4,c4,rfl,hmc,hR4,fun x o e => ⟨Nat.le_trans hB3.size (HF.out x o e).1,(HF.out x o e).2⟩⟩,hB3.trans (hb4.mono hB3.size)⟩
 ·exact absurd HLB.out (hno b)
end
section
open Go.RowKit
theorem rleaf64_any (A A2 : Option Addr) (fs : List (List UInt8 × List UInt8)) (body b : List UInt8) (n c n2 c2 : Nat) (deep : Int) (w : World) (hn : fs.length = n) (hA : Fd.Rf w A fs) (hn2 : body.length = n2) (hA2 : Rb w A2 body) (h2c : n2 ≤ c2) (hG : Gm w)
 (hb : n ≤ 1000000) (hb2 : n2 ≤ 1000000) {v kind : List UInt8} {ms : List (List UInt8 × List UInt8)} (hv : (Fd.valsN ctN fs).head? = some v) (hvl : v.length ≤ 1000000) (hpm : Tk.parmP v = .ok (kind,ms)) (hmul : Lib.hasPrefix kind mulN = false) (hml : ms.length ≤ 1000000)
 (hvl2 : (((Fd.valsN cteN fs).head?).getD []).length ≤ 1000000) (hc64 : codeT fs = [98,97,115,101,54,52]) (hlb : Ar.enc b = Ar.nob body) :
 Calls Tryz.prog 32 #[.agg #[.slice A n c,.slice A2 n2 c2],.int .i64 deep] w fun e w' => ROut (.ok (leafR kind ms 1 b)) w.heap.size w' e ∧ Below w.heap.size w w' := by
 have HN := Lib.hid hn
 have HN2 := Lib.hid hn2
 have HV := Lib.hid hv
 have HPM := Lib.hid hpm
 have hpre := prefM kind
 rw [hmul] at hpre
 obtain ⟨nm,hnm⟩ : ∃ x,ms.length = x := ⟨_,rfl⟩
 have HNM := Lib.hid hnm
 rw [hnm] at hml
 have hleaf := fun (W : World) (hW : Below w.heap.size w W) => leaf64_any A A2 fs body b n c n2 c2 W hn (hA.below hW) hn2 (hA2.below hW) h2c (hG.below hW) hb hb2 hvl2 hc64 hlb
 clear hn hn2 hv hpm hnm hc64 hlb
 have hB0 : Below w.heap.size w (w.alloc (.cells #[.slice A n c,.slice A2 n2 c2] 39)) := (Below.refl _ _).alloc (Nat.le_refl _) _
 have hB1 : Below w.heap.size w ((w.alloc (.cells #[.slice A n c,.slice A2 n2 c2] 39)).alloc (.cells #[.string (bs [116,101,120,116,47,112,108,97,105,110]),.slice none 0 0,.int .i64 0,.slice none 0 0,.slice none 0 0] 34)) := hB0.trans (((Below.refl _ _).alloc (Nat.le_refl _) _).mono hB0.size)
 have r1 := Row.new (w.alloc (.cells #[.slice A n c,.slice A2 n2 c2] 39)) #[.string (bs [116,101,120,116,47,112,108,97,105,110]),.slice none 0 0,.int .i64 0,.slice none 0 0,.slice none 0 0] 34
 have r0 := (Row.new w #[.slice A n c,.slice A2 n2 c2] 39).below ((Below.refl (w.alloc (.cells #[.slice A n c,.slice A2 n2 c2] 39)).heap.size (w.alloc (.cells #[.slice A n c,.slice A2 n2 c2] 39))).alloc (Nat.le_refl _) (.cells #[.string (bs [116,101,120,116,47,112,108,97,105,110]),.slice none 0 0,.int .i64 0,.slice none 0 0,.slice none 0 0] 34))
 rw [World.size_alloc] at r1
 have hg := Fd.get_any A A2 fs ctN n c n2 c2 ((w.alloc (.cells #[.slice A n c,.slice A2 n2 c2] 39)).alloc (.cells #[.string (bs [116,101,120,116,47,112,108,97,105,110]),.slice none 0 0,.int .i64 0,.slice none 0 0,.slice none 0 0] 34)) HN.out (hA.below hB1) (tabs_below hG.tabs hB1) (by simp) hb
 have hz1 : w.heap.size + 2 ≤ ((w.alloc (.cells #[.slice A n c,.slice A2 n2 c2] 39)).alloc (.cells #[.string (bs [116,101,120,116,47,112,108,97,105,110]),.slice none 0 0,.int .i64 0,.slice none 0 0,.slice none 0 0] 34)).heap.size := by simp
 go_enter Tryz.func32,Tryz.ntmps32
 go_wp2_with fail
 refine hg.mono ?_
 rintro e w2 ⟨hgo,hbb⟩
 obtain rfl := get_some' HV.out hgo
 clear hgo
 have hB2 := hB1.trans (hbb.mono hB1.size)
 have r12 := r1.below hbb
 have r02 := r0.below hbb
 have hz2 : w.heap.size + 2 ≤ w2.heap.size := Nat.le_trans hz1 hbb.size
 clear hbb r1 r0 hg hB1 hB0 hz1
 go_wp2_with fail
 refine (Tk.params_any v w2 (hG.below hB2).mx hvl).mono ?_
 rintro e w3 ⟨hpo,hb3⟩
 unfold Tk.PrmOut at hpo
 rw [HPM.out] at hpo
 obtain ⟨pv,rfl,hown⟩ := hpo
 rw [HNM.out] at hown
 obtain ⟨A5,c5,hv5,_⟩ := own_form hown
 obtain rfl : pv = .slice A5 nm c5 := hv5
 have hB3 := hB2.trans (hb3.mono hB2.size)
 have r13 := r12.below hb3
 have r03 := r02.below hb3
 have hz3 : w2.heap.size ≤ w3.heap.size := hb3.size
 clear r02 r12 hb3
 have l0 := r03.cell (j := 0) rfl
 have l1 := r03.cell (j := 1) rfl
 have k0 := r13.cell (j := 0) rfl
 have k1 := r13.cell (j := 1) rfl
 have k2 := r13.cell (j := 2) rfl
 have k3 := r13.cell (j := 3) rfl
 have k4 := r13.cell (j := 4) rfl
 have f0 := r13.frozen 0
 have f1 := r13.frozen 1
 go_upto_region 7 with fail
 have rG := ((r13.set 0 (.string (bs kind))).set 1 (.slice A5 nm c5))
 have hBG := ((hB3.setCell (p := ⟨w.heap.size + 1,0,none⟩) (by simp) (.string (bs kind))).setCell (p := ⟨w.heap.size + 1,1,none⟩) (by simp) (.slice A5 nm c5))
 have m1 : ((w3.setCell ⟨w.heap.size + 1,0,none⟩ (.string (bs kind))).setCell ⟨w.heap.size + 1,1,none⟩ (.slice A5 nm c5)).cell? ⟨w.heap.size,1,none⟩ = some (.slice A2 n2 c2) := by rw [cell_ne' _ (by simp),cell_ne' _ (by simp)]; exact l1
 have m0 : ((w3.setCell ⟨w.heap.size + 1,0,none⟩ (.string (bs kind))).setCell ⟨w.heap.size + 1,1,none⟩ (.slice A5 nm c5)).cell? ⟨w.heap.size,0,none⟩ = some (.slice A n c) := by rw [cell_ne' _ (by simp),cell_ne' _ (by simp)]; exact l0
 have hoG := ownsRow_setCell_below (ownsRow_setCell_below hown (a := ⟨w.heap.size + 1,0,none⟩) (by simp; omega) (.string (bs kind))) (a := ⟨w.heap.size + 1,1,none⟩) (by simp; omega) (.slice A5 nm c5)
 have hzG : w2.heap.size ≤ ((w3.setCell ⟨w.heap.size + 1,0,none⟩ (.string (bs kind))).setCell ⟨w.heap.size + 1,1,none⟩ (.slice A5 nm c5)).heap.size := by simpa using hz3
 obtain ⟨WG,hWG⟩ : ∃ WG,((w3.setCell ⟨w.heap.size + 1,0,none⟩ (.string (bs kind))).setCell ⟨w.heap.size + 1,1,none⟩ (.slice A5 nm c5)) = WG := ⟨_,rfl⟩
 rw [hWG] at rG hBG m0 m1 hoG hzG ⊢
 clear hWG r13 r03 l0 l1 k0 k1 k2 k3 k4 f0 f1 hown hz3 hB3
 have k0 := rG.cell (j := 0) rfl
 go_wp2_with fail
 refine (Tryz.strings_HasPrefix _ _ _).mono ?_
 rintro e w' ⟨rfl,hw⟩
 rw [hw,hpre]
 clear hw hpre
 go_wp2_with fail
 refine (hleaf WG hBG).mono ?_
 rintro e w4 ⟨hlo,hb4⟩
 obtain ⟨A4,c4,rfl,h4c,hR4,hfr⟩ := hlo
 have HFR := Lib.hid hfr
 have hB4 := hBG.trans (hb4.mono hBG.size)
 have r4 := rG.below hb4
 have hzx : WG.heap.size ≤ w4.heap.size := hb4.size
 have ho4 := (OwnM.of hoG).below hb4
 have hRV : Rv w4 A4 (b.map bv) := hR4
 clear rG k0 m0 m1 hBG hoG hleaf hfr hR4
 have k0 := r4.cell (j := 0) rfl
 have k1 := r4.cell (j := 1) rfl
 have k2 := r4.cell (j := 2) rfl
 have k3 := r4.cell (j := 3) rfl
 have k4 := r4.cell (j := 4) rfl
 have f0 := r4.frozen 0
 have f1 := r4.frozen 1
 have f2 := r4.frozen 2
 have f3 := r4.frozen 3
 have f4 := r4.frozen 4
 go_wp2_with fail
 have rF := (((((((r4.set 2 (.int .i64 1)).set 3 (.slice A4 b.length c4)).set 0 (.string (bs kind))).set 1 (.slice A5 nm c5)).set 2 (.int .i64 1)).set 3 (.slice A4 b.length c4)).set 4 (.slice none 0 0))
 have hBF := (((((((hB4.setCell (p := ⟨w.heap.size + 1,2,none⟩) (by simp) (.int .i64 1)).setCell (p := ⟨w.heap.size + 1,3,none⟩) (by simp) (.slice A4 b.length c4)).setCell (p := ⟨w.heap.size + 1,0,none⟩) (by simp) (.string (bs kind))).setCell (p := ⟨w.heap.size + 1,1,none⟩) (by simp) (.slice A5 nm c5)).setCell (p := ⟨w.heap.size + 1,2,none⟩) (by simp) (.int .i64 1)).setCell (p := ⟨w.heap.size + 1,3,none⟩) (by simp) (.slice A4 b.length c4)).setCell (p := ⟨w.heap.size + 1,4,none⟩) (by simp) (.slice none 0 0))
 have hkeep : ∀ k,(w2.heap.size ≤ k ∧ k < w4.heap.size) → (((((((w4.setCell ⟨w.heap.size + 1,2,none⟩ (.int .i64 1)).setCell ⟨w.heap.size + 1,3,none⟩ (.slice A4 b.length c4)).setCell ⟨w.heap.size + 1,0,none⟩ (.string (bs kind))).setCell ⟨w.heap.size + 1,1,none⟩ (.slice A5 nm c5)).setCell ⟨w.heap.size + 1,2,none⟩ (.int .i64 1)).setCell ⟨w.heap.size + 1,3,none⟩ (.slice A4 b.length c4)).setCell ⟨w.heap.size + 1,4,none⟩ (.slice none 0 0)).heap[k]? = w4.heap[k]? := fun k hk => by
  have hne : k ≠ w.heap.size + 1 := by omega
  rw [Below.heap_setCell _ _ _ k hne,Below.heap_setCell _ _ _ k hne,Below.heap_setCell _ _ _ k hne,Below.heap_setCell _ _ _ k hne,Below.heap_setCell _ _ _ k hne,Below.heap_setCell _ _ _ k hne,Below.heap_setCell _ _ _ k hne]
 have hsz : (((((((w4.setCell ⟨w.heap.size + 1,2,none⟩ (.int .i64 1)).setCell ⟨w.heap.size + 1,3,none⟩ (.slice A4 b.length c4)).setCell ⟨w.heap.size + 1,0,none⟩ (.string (bs kind))).setCell ⟨w.heap.size + 1,1,none⟩ (.slice A5 nm c5)).setCell ⟨w.heap.size + 1,2,none⟩ (.int .i64 1)).setCell ⟨w.heap.size + 1,3,none⟩ (.slice A4 b.length c4)).setCell ⟨w.heap.size + 1,4,none⟩ (.slice none 0 0)).heap.size = w4.heap.size := by simp
 have e0 := rF.cell (j := 0) rfl
 have e1 := rF.cell (j := 1) rfl
 have e2 := rF.cell (j := 2) rfl
 have e3 := rF.cell (j := 3) rfl
 have e4 := rF.cell (j := 4) rfl
 refine bodyPost_ret (v := .tuple #[.agg #[.string (bs kind),.slice A5 nm c5,.int .i64 1,.slice A4 b.length c4,.slice none 0 0],.int .i64 0]) (by simp [results,Tryz.results32,go_sem,e0,e1,e2,e3,e4]) rfl ⟨?_,hBF⟩
 refine ⟨⟨kind,A5,nm,c5,1,A4,b.length,c4,none,0,0⟩,(fun k => w2.heap.size ≤ k ∧ k < w4.heap.size),rfl,⟨rfl,HNM.out.symm,rfl,rfl,h4c,?_,?_,rfl⟩,fun k hk => ⟨by omega,by rw [hsz]; exact hk.2⟩⟩
 ·exact (RvF.of_own ho4).keep hkeep fun k h => h
 ·have h : RvF w4 (fun k => w2.heap.size ≤ k ∧ k < w4.heap.size) A4 (b.map bv) := ⟨hRV,fun x o e _ => ⟨Nat.le_trans hzG (HFR.out x o e).1,(HFR.out x o e).2⟩⟩
  exact h.keep hkeep fun k h => h
end
section
def okB (bd p : List UInt8) : Prop := ∀ t ∈ lns p,mk bd t.1 = 0
theorem mk_nil {bd : List UInt8} : mk bd [] = 0 := mk_zero.2 ⟨fun e => by rw [show trimE [] = [] from rfl] at e; simp at e,fun e => by rw [show trimE [] = [] from rfl] at e; simp at e⟩
theorem okB_lnB {bd p : List UInt8} (h : okB bd p) : (∀ t ∈ (lnB [] p).1,mk bd t.1 = 0) ∧ mk bd (lnB [] p).2 = 0 := by
 have e := lnA_app p [] []
 rw [List.append_nil] at e
 unfold okB lns at h
 rw [e] at h
 refine ⟨fun t ht => h t (List.mem_append_left _ ht),?_⟩
 by_cases h0 : (lnB [] p).2 = []
 ·rw [h0]
  exact mk_nil
 ·refine h ((lnB [] p).2,[]) (List.mem_append_right _ ?_)
  rw [lnA,if_neg h0]
  simp
theorem body_runB {bd : List UInt8} : ∀ (L R : List (List UInt8 × List UInt8)) (part pend : List UInt8) (out : List (List UInt8)),(∀ t ∈ L,mk bd t.1 = 0) →
 ∃ p1 p2,p1 ++ p2 = part ++ pend ++ flat L ∧ bodyP bd (L ++ R) part pend out = bodyP bd R p1 p2 out
 | [],R,part,pend,out,_ => ⟨part,pend,by simp [flat],rfl⟩
 | t :: L,R,part,pend,out,h => by
   obtain ⟨p1,p2,h1,h2⟩ := body_runB (bd := bd) L R (part ++ pend ++ t.1) t.2 out fun u hu => h u (by simp [hu])
   refine ⟨p1,p2,?_,?_⟩
   ·rw [h1,flat_cons]
    simp
   ·rw [List.cons_append,bodyP,if_pos (h t (by simp)),h2]
theorem part_stepB {bd p rest : List UInt8} {out : List (List UInt8)} (h : okB bd p) : bodyP bd (lnA [] (p ++ ([13,10] ++ rest))) [] [] out = bodyP bd (lnA [] rest) p [13,10] out := by
 obtain ⟨h1,h2⟩ := okB_lnB h
 rw [lnA_app,lnA_crlf]
 obtain ⟨p1,p2,e1,e2⟩ := body_runB (bd := bd) (lnB [] p).1 (((lnB [] p).2,[13,10]) :: lnA [] rest) [] [] out h1
 rw [e2,bodyP,if_pos h2,e1]
 have := lnB_flat p []
 simp only [List.nil_append] at this ⊢
 rw [this]
theorem body_partsB {bd : List UInt8} (h : bdOk bd = true) (lb : List UInt8) : ∀ (ps : List (List UInt8)) (part : List UInt8) (out : List (List UInt8)),(∀ p ∈ ps,okB bd p) →
 bodyP bd (lnA [] (bld bd ps ++ ([45,45] ++ bd ++ ([45,45,13,10] ++ lb)))) part [13,10] out = some (out ++ [part] ++ ps)
 | [],part,out,_ => by
   show bodyP bd (lnA [] ([] ++ ([45,45] ++ bd ++ ([45,45,13,10] ++ lb)))) part [13,10] out = _
   rw [List.nil_append,line_end h,bodyP,if_neg (by rw [mk_end]; decide),if_neg (by rw [mk_end]; decide)]
   simp
 | p :: r,part,out,hp => by
   have e : bld bd (p :: r) ++ ([45,45] ++ bd ++ ([45,45,13,10] ++ lb)) = [45,45] ++ bd ++ ([13,10] ++ (p ++ ([13,10] ++ (bld bd r ++ ([45,45] ++ bd ++ ([45,45,13,10] ++ lb)))))) := by
    rw [bld]
    simp
   rw [e,line_first h,bodyP,if_neg (by rw [mk_first h]; decide),if_pos (mk_first h),part_stepB (hp p (by simp)),body_partsB h lb r p (out ++ [part]) fun q hq => hp q (by simp [hq])]
   simp
theorem split_bodyJ {bd : List UInt8} {ps : List (List UInt8)} (h : bdOk bd = true) (h0 : ps ≠ []) (hp : ∀ p ∈ ps,okB bd p) : splitS (bodyJ bd ps) bd = (ps,0) := by
 have e : splitP bd (lns (bodyJ bd ps)) = some ps := by
  cases ps with
  | nil => exact absurd rfl h0
  | cons p r =>
    have e2 : bodyJ bd (p :: r) = [45,45] ++ bd ++ ([13,10] ++ (p ++ ([13,10] ++ (bld bd r ++ ([45,45] ++ bd ++ ([45,45,13,10] ++ [])))))) := by
     unfold bodyJ
     rw [bld]
     simp
    unfold lns
    rw [e2,line_first h,splitP,if_pos (mk_first h),part_stepB (hp p (by simp)),body_partsB h [] r p [] fun q hq => hp q (by simp [hq])]
    rfl
 unfold splitS
 rw [if_pos h,e]
theorem okB_nil (bd : List UInt8) : okB bd [] := by
 intro t ht
 simp [lns,lnA] at ht
end
section
theorem gsign_sg (ys : List UInt8) (i : Nat) : Ar.gsign ys i ≠ 10 ∧ Ar.gsign ys i ≠ 13 ∧ Ar.gsign ys i ≠ 45 := by
 unfold Ar.gsign
 split
 ·decide
 ·have hT : Ar.gnum ys 3 / 2 ^ (18 - 6 * i) % 64 < 64 := Nat.mod_lt _ (by omega)
  generalize Ar.gnum ys 3 / 2 ^ (18 - 6 * i) % 64 = T at *
  have hl : T < Ar.sgs.length := hT
  have key : ∀ c ∈ Ar.sgs,c ≠ 10 ∧ c ≠ 13 ∧ c ≠ 45 := by decide
  rw [List.getD_eq_getElem?_getD,List.getElem?_eq_getElem hl]
  exact key _ (List.getElem_mem hl)
theorem enc_sg (xs : List UInt8) : ∀ c ∈ Ar.enc xs,c ≠ 10 ∧ c ≠ 13 ∧ c ≠ 45 := by
 intro c hc
 unfold Ar.enc at hc
 obtain ⟨j,_,h⟩ := List.mem_flatMap.1 hc
 unfold Ar.enc3 at h
 split at h
 ·simp at h
 ·obtain ⟨i,_,rfl⟩ := List.mem_map.1 h
  exact gsign_sg _ _
theorem okB_app {bd m p : List UInt8} (hm : okB bd m) (hp : okB bd p) : okB bd (m ++ ([13,10] ++ p)) := by
 obtain ⟨h1,h2⟩ := okB_lnB hm
 intro t ht
 unfold lns at ht
 rw [lnA_app,lnA_crlf] at ht
 rcases List.mem_append.1 ht with ht | ht
 ·exact h1 t ht
 ·rcases List.mem_cons.1 ht with rfl | ht
  ·exact h2
  ·exact hp t ht
theorem okB_one {bd a : List UInt8} (ha : ∀ x ∈ a,x ≠ 10) (hm : mk bd a = 0) : okB bd a := by
 intro t ht
 unfold lns at ht
 rw [lnA_end a [] ha] at ht
 split at ht
 ·simp at ht
 ·simp at ht
  rw [ht]
  exact hm
theorem okB_lines {bd : List UInt8} : ∀ (cs : List (List UInt8)),(∀ c ∈ cs,∀ x ∈ c,x ≠ 10 ∧ x ≠ 13 ∧ x ≠ 45) → okB bd (cs.flatMap fun c => c ++ [13,10])
 | [],_ => okB_nil bd
 | c :: r,h => by
   have e : (c :: r).flatMap (fun c => c ++ [13,10]) = c ++ ([13,10] ++ r.flatMap fun c => c ++ [13,10]) := by simp
   rw [e]
   refine okB_app (okB_one (fun x hx => (h c (by simp) x hx).1) (mk_no ?_)) (okB_lines r fun q hq => h q (by simp [hq]))
   intro hd
   unfold dd at hd
   have : (45 : UInt8) ∈ c.take 2 := by rw [hd]; simp
   exact (h c (by simp) 45 (List.mem_of_mem_take this)).2.2 rfl
theorem okB_lin (bd b : List UInt8) : okB bd (Ar.lin (Ar.enc b)) := by
 have e : Ar.lin (Ar.enc b) = ((List.range (((Ar.enc b).length + 75) / 76)).map fun j => Ar.chk (Ar.enc b) 76 j).flatMap fun c => c ++ [13,10] := by
  unfold Ar.lin
  rw [List.flatMap_map]
 rw [e]
 refine okB_lines _ fun c hc x hx => ?_
 obtain ⟨j,_,rfl⟩ := List.mem_map.1 hc
 unfold Ar.chk at hx
 exact enc_sg b x (List.mem_of_mem_drop (List.mem_of_mem_take hx))
def bn (i : Nat) : List UInt8 := [98,UInt8.ofNat (48 + i)]
abbrev abN : List UInt8 := [97,47,98]
abbrev mixN : List UInt8 := [109,117,108,116,105,112,97,114,116,47,109,105,120,101,100]
def hdL : Nat → List UInt8
 | 0 => ctN ++ [58,32] ++ abN ++ ([13,10] ++ (cteN ++ [58,32,98,97,115,101,54,52] ++ ([13,10] ++ ([] ++ ([13,10] ++ [])))))
 | i + 1 => ctN ++ [58,32] ++ mixN ++ [59,32] ++ bdN ++ [61] ++ bn i ++ ([13,10] ++ ([] ++ ([13,10] ++ [])))
theorem hd0 : Fd.foldAll [(ctN,Tk.writeB abN []),(cteN,codeN 1)] ++ [13,10] = hdL 0 ∧ Fd.rightF [(ctN,Tk.writeB abN []),(cteN,codeN 1)] = true := by decide +kernel
theorem mb_of {m : Mail} {b : List UInt8} (h : Fd.writeP m.1 m.2 = .ok b) : mb m = b := by unfold mb; rw [h]
end
section
open Go.RowKit
end
section
open Go.RowKit
namespace Ar
theorem gsign_nob (ys : List UInt8) (i : Nat) : isb (gsign ys i).toNat = false := by
 unfold gsign
 split
 ·rfl
 ·have : ∀ T,T < 64 → isb (sgs.getD T 0).toNat = false := by decide
  exact this _ (Nat.mod_lt _ (by omega))
theorem enc_nob (xs : List UInt8) : ∀ c ∈ enc xs,isb c.toNat = false := by
 intro c hc
 unfold enc at hc
 rw [List.mem_flatMap] at hc
 obtain ⟨j,_,hc⟩ := hc
 unfold enc3 at hc
 split at hc
 ·simp at hc
 ·rw [List.mem_map] at hc
  obtain ⟨i,_,rfl⟩ := hc
  exact gsign_nob _ _
theorem chk_flat (l : List UInt8) (k : Nat) (hk : 1 ≤ k) (m : Nat) : (List.range m).flatMap (fun j => chk l k j) = l.take (m * k) := by
 induction m with
 | zero => simp
 | succ m ih =>
   rw [List.range_succ,List.flatMap_append,ih,Nat.succ_mul,List.take_add]
   simp [chk]
theorem nob_flatMap {α : Type} (f : α → List UInt8) (xs : List α) : nob (xs.flatMap f) = xs.flatMap fun x => nob (f x) := by
 induction xs with
 | nil => rfl
 | cons x xs ih => rw [List.flatMap_cons,nob_append,ih,List.flatMap_cons]
theorem lin_nob (l : List UInt8) (h : ∀ c ∈ l,isb c.toNat = false) : nob (lin l) = l := by
 unfold lin
 rw [nob_flatMap]
 have e : ∀ j,nob (chk l 76 j ++ [13,10]) = chk l 76 j := fun j => by
  rw [nob_append,nob_all (l := chk l 76 j) (fun c hc => h c (List.mem_of_mem_drop (List.mem_of_mem_take hc)))]
  simp [nob,isb]
 simp only [e]
 rw [chk_flat l 76 (by omega)]
 exact List.take_of_length_le (by omega)
end Ar
end
end Go.Proofs.YtkllecicddfjpaaGreatDoor
