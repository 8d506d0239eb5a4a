/- The walk of the law, part 14. -/
import Derived.Test.YtkllecicddfjpaaGreatDoorJ12
import Derived.Test.YtkllecicddfjpaaGreatDoorJ13
import Derived.Deep.RegionLaw
import Derived.Deep.RegionHeld
set_option maxRecDepth 100000
set_option maxHeartbeats 16000000
set_option linter.unusedVariables false
set_option linter.unusedSimpArgs false
namespace Go.Proofs.YtkllecicddfjpaaGreatDoor
section
namespace Fd
open Go.RowKit
def strv (p : List UInt8) : Value := .string (bs p)
theorem infoStr : (Tryz.prog.info? 9).map (fun i => (i.zero,i.size,i.bytes)) = some (some (.string ⟨#[]⟩),1,16) := by kernel_rfl
theorem TStr : ElT Tryz.prog 65 9 1 16 := ElT.mk' (z := .string ⟨#[]⟩) Tryz.underlying65 (by omega) (by omega) rfl infoStr
theorem cur_snoc {l : List UInt8} {f q : Nat} {c : UInt8} (hf : f ≤ q) (hc : l[q]? = some c) : (l.drop f).take (q + 1 - f) = (l.drop f).take (q - f) ++ [c] := by
 rw [show q + 1 - f = q - f + 1 by omega]
 exact take_succ_of (by rw [List.getElem?_drop,show f + (q - f) = q by omega]; exact hc)
theorem cur_last {l : List UInt8} {f q : Nat} {p : UInt8} (hf : f < q) (hp : l[q - 1]? = some p) : ((l.drop f).take (q - f)).getLast? = some p := by
 obtain ⟨m,rfl⟩ : ∃ m,q = m + 1 := ⟨q - 1,by omega⟩
 rw [cur_snoc (q := m) (by omega) (by simpa using hp)]
 simp
theorem cur_one {l : List UInt8} {q : Nat} {c : UInt8} (hc : l[q]? = some c) : (l.drop q).take (q + 1 - q) = [c] := by
 rw [cur_snoc (Nat.le_refl _) hc]
 simp
theorem drop_cons {l : List UInt8} {q : Nat} {c : UInt8} (hc : l[q]? = some c) : l.drop q = c :: l.drop (q + 1) := by
 have h := lt_of_get hc
 rw [List.drop_eq_getElem_cons h]
 rw [List.getElem?_eq_getElem h] at hc
 rw [Option.some.inj hc]
theorem pcs_start (l : List UInt8) : pcs l = [] ++ pcsGo ((l.drop 0).take (1 - 0)) (l.drop 1) := by
 match l with
 | [] => rfl
 | c :: r =>
  unfold pcs
  rw [pcsGo]
  have : turnAt [] c = false := by unfold turnAt; simp
  rw [this]
  rfl
theorem pieces_any (l : List UInt8) (w : World) (hl : l.length ≤ 1000000) :
  Calls Tryz.prog 108 #[.string (bs l)] w fun e w' => (∃ v,e = .returned v ∧ w'.ownsRow w.heap.size 9 1 v (pcs l).length ((pcs l).map strv)) ∧ Below w.heap.size w w' := by
 go_enter Tryz.func108,Tryz.ntmps108
 go_wp2_with fail
 go_loopw [2,3,4] (fun v a i wr => ∃ (q f k : Nat) (out : List (List UInt8)),a = .int .i64 f ∧ i = .int .i64 q ∧ 1 ≤ q ∧ f < q ∧ (q ≤ l.length ∨ q = 1) ∧ k ≤ f ∧ Hid (pcs l = out ++ pcsGo ((l.drop f).take (q - f)) (l.drop q)) ∧ wr.ownsRow w.heap.size 9 1 v k (out.map strv) ∧ Below w.heap.size w wr) (fun _ _ i _ => l.length + 1 - (intOf i).toNat)
 case atStart => exact ⟨1,0,0,[],rfl,rfl,by omega,by omega,by omega,by omega,Lib.hid (pcs_start l),World.ownsRow_nil _ _ _ _,Below.refl _ _⟩
 case round =>
  obtain ⟨q,f,k,out,rfl,rfl,hq1,hf,hq,hk,hp,hown,hB⟩ := hrel
  have hs1 := hB.size
  by_cases hlt : q < l.length
  ·obtain ⟨c,hc⟩ : ∃ c,l[q]? = some c := ⟨_,List.getElem?_eq_getElem hlt⟩
   obtain ⟨p,hpv⟩ : ∃ c,l[q - 1]? = some c := ⟨_,List.getElem?_eq_getElem (by omega)⟩
   have hi := str_index (P := Tryz.prog) Tryz.underlying9 hc .i64
   have hj : ∀ W,(Instr.index 9 (.string (bs l)) (.int .i64 ((q : Int) - 1))).run Tryz.prog W = .ok (.int .u8 (p.toNat : Int)) W := by
    rw [show ((q : Int) - 1) = ((q - 1 : Nat) : Int) by omega]
    exact str_index (P := Tryz.prog) Tryz.underlying9 hpv .i64
   have ht : turnAt ((l.drop f).take (q - f)) c = (blk c && !blk p) := by unfold turnAt; rw [cur_last hf hpv]
   have hgo : pcsGo ((l.drop f).take (q - f)) (l.drop q) = if turnAt ((l.drop f).take (q - f)) c then (l.drop f).take (q - f) :: pcsGo ((l.drop q).take (q + 1 - q)) (l.drop (q + 1)) else pcsGo ((l.drop f).take (q + 1 - f)) (l.drop (q + 1)) := by
    rw [cur_one hc,cur_snoc (by omega) hc,drop_cons hc,pcsGo]
   rw [ht] at hgo
   have HGO := Lib.hid hgo
   have HP := hp
   clear hc hpv ht hgo hp
   rcases Bool.eq_false_or_eq_true (blk c) with hbc | hbc
   ·rcases Bool.eq_false_or_eq_true (blk p) with hbp | hbp
    ·go_wp2_with (go_at_call 171; refine (fblank_any _ _).mono ?_; rintro e w2 ⟨rfl,rfl⟩)
     go_roundw
     case rel => exact ⟨q + 1,f,k,out,rfl,by go_num,by omega,by omega,by omega,hk,Lib.hid (by rw [HP.out,HGO.out,hbc,hbp]; rfl),hown,hB⟩
     case measure => simp [intOf]; omega
    ·go_wp2_with (first
      | (go_at_call 171; refine (fblank_any _ _).mono ?_; rintro e w2 ⟨rfl,rfl⟩)
      | (at_builtin; refine wpList_app rfl (.tmp 23) (.tmp 28) _ _ rfl TStr (hown.alloc (.cells #[strv ((l.drop f).take (q - f))] 9)) rfl (Src_rv (news := [strv ((l.drop f).take (q - f))]) Tryz.underlying65 rfl (Rv_new wr _ _ _ rfl) (by simp [Value.oneCell',strv]) (by omega)) rfl (by omega) (by simp; omega) ?_; intro v2 w2 hown2 hgr2 hat2; have hB2 := below_app (hB.alloc hs1 (.cells #[strv ((l.drop f).take (q - f))] 9)) (hown.alloc _) hgr2 (by simp; omega) (Nat.le_refl _)))
     go_roundw
     case rel => exact ⟨q + 1,q,k + 1,out ++ [(l.drop f).take (q - f)],rfl,by go_num,by omega,by omega,by omega,by omega,Lib.hid (by rw [HP.out,HGO.out,hbc,hbp]; simp),by rw [List.map_append]; exact hown2,hB2⟩
     case measure => simp [intOf]; omega
   ·go_wp2_with (go_at_call 171; refine (fblank_any _ _).mono ?_; rintro e w2 ⟨rfl,rfl⟩)
    go_roundw
    case rel => exact ⟨q + 1,f,k,out,rfl,by go_num,by omega,by omega,by omega,hk,Lib.hid (by rw [HP.out,HGO.out,hbc]; rfl),hown,hB⟩
    case measure => simp [intOf]; omega
  ·have hlast : pcs l = out ++ [(l.drop f).take (l.length - f)] := by
    have h1 : l.drop q = [] := List.drop_eq_nil_of_le (by omega)
    have h2 : (l.drop f).take (q - f) = (l.drop f).take (l.length - f) := by
     rw [List.take_of_length_le (by simp; omega),List.take_of_length_le (by simp)]
    rw [hp.out,h1,h2]
    rfl
   have HL := Lib.hid hlast
   clear hlast hp
   go_wp2_with (at_builtin; refine wpList_app rfl (.tmp 31) (.tmp 35) _ _ rfl TStr (hown.alloc (.cells #[strv ((l.drop f).take (l.length - f))] 9)) rfl (Src_rv (news := [strv ((l.drop f).take (l.length - f))]) Tryz.underlying65 rfl (Rv_new wr _ _ _ rfl) (by simp [Value.oneCell',strv]) (by omega)) rfl (by omega) (by simp; omega) ?_; intro v2 w2 hown2 hgr2 hat2; have hB2 := below_app (hB.alloc hs1 (.cells #[strv ((l.drop f).take (l.length - f))] 9)) (hown.alloc _) hgr2 (by simp; omega) (Nat.le_refl _))
   go_ret
   refine ⟨⟨_,rfl,?_⟩,hB2⟩
   have hk2 : (out.map strv).length = k * 1 := hown.1
   rw [HL.out,List.map_append,List.length_append,show out.length = k by simpa using hk2]
   exact hown2
theorem pcsGo_count : ∀ (r cur : List UInt8),(pcsGo cur r).length ≤ r.length + 1
 | [],cur => by simp [pcsGo]
 | c :: r,cur => by
  unfold pcsGo
  split
  ·have := pcsGo_count r [c]
   simp
   omega
  ·have := pcsGo_count r (cur ++ [c])
   simp
   omega
theorem wrapGo_len : ∀ (ps : List (List UInt8)) (line : Nat) (first : Bool),(wrapGo line first ps).length ≤ ps.flatten.length + 2 * ps.length + 2
 | [],_,_ => by simp [wrapGo]
 | p :: ps,line,first => by
  unfold wrapGo
  split
  ·have := wrapGo_len ps p.length false
   simp at this ⊢
   omega
  ·have := wrapGo_len ps (line + p.length) false
   simp at this ⊢
   omega
theorem foldF_len (n v : List UInt8) : (foldF n v).length ≤ n.length + 3 * v.length + 6 := by
 have h1 := wrapGo_len (pcs v) (n.length + 2) true
 have h2 := pcsGo_count v []
 rw [pcs_flat] at h1
 have h3 : (foldF n v).length = n.length + 2 + (wrapGo (n.length + 2) true (pcs v)).length := by unfold foldF; simp; omega
 have h4 : (pcs v).length ≤ v.length + 1 := h2
 omega
theorem blk_step {lo hi s : Nat} {x y : Value} (h : ∀ g,x.ownBlock = some g → g < lo ∨ hi ≤ g) (hat : y.ownBlock = x.ownBlock ∨ y.ownBlock = some s) (hs : hi ≤ s) : ∀ g,y.ownBlock = some g → g < lo ∨ hi ≤ g := by
 intro g hg
 rcases hat with e | e
 ·exact h g (e ▸ hg)
 ·have : s = g := by rw [hg] at e; exact (Option.some.inj e).symm
  omega
theorem own_eq {w : World} {b e N M : Nat} {x : Value} {xs ys : List Value} (h : OwnM w b e 1 x N xs) (hN : N = M) (hx : xs = ys) : OwnM w b e 1 x M ys := by subst hN; subst hx; exact h
theorem piece_len {v p : List UInt8} {k : Nat} (h : (pcs v)[k]? = some p) : p.length ≤ v.length := by
 have h1 := pcs_flat v
 have h2 : p.Sublist (pcs v).flatten := List.sublist_flatten_of_mem (List.mem_of_getElem? h)
 rw [h1] at h2
 exact h2.length_le
theorem fold_any (n v : List UInt8) (w : World) (hn : n.length ≤ 9223372036854775807) (hv : v.length ≤ 9223372036854775807) :
  Calls Tryz.prog 55 #[.agg #[strv n,strv v]] w fun e w' => ((nmOk n = true ∧ vlOk v = true ∧ ∃ x,e = .returned (.tuple #[x,.int .i64 0]) ∧ OwnM w' w.heap.size 5 1 x (foldF n v).length ((foldF n v).map bv)) ∨
   ((nmOk n && vlOk v) = false ∧ e = .returned (.tuple #[.slice none 0 0,.int .i64 3]))) ∧ Below w.heap.size w w' := by
 unfold strv
 go_enter Tryz.func55,Tryz.ntmps55
 go_wp2_with fail
 have hA0 : Below w.heap.size w (w.alloc (.cells #[.string (bs n),.string (bs v)] 73)) := (Below.refl _ _).alloc (Nat.le_refl _) _
 refine (fname_any n _ (by omega)).mono ?_
 rintro e w1 ⟨rfl,hb1⟩
 have hB1 := hA0.trans (hb1.mono hA0.size)
 have c10 : w1.cell? ⟨w.heap.size,0,none⟩ = some (.string (bs n)) := (hb1.cell (p := ⟨w.heap.size,0,none⟩) (by simp)).trans (by simp)
 have c11 : w1.cell? ⟨w.heap.size,1,none⟩ = some (.string (bs v)) := (hb1.cell (p := ⟨w.heap.size,1,none⟩) (by simp)).trans (by simp)
 rcases Bool.eq_false_or_eq_true (nmOk n) with hnm | hnm
 ·rw [hnm]
  go_wp2_with fail
  refine (value_any v _ (by omega)).mono ?_
  rintro e w2 ⟨rfl,hb2⟩
  have hB2 := hB1.trans (hb2.mono hB1.size)
  have c20 : w2.cell? ⟨w.heap.size,0,none⟩ = some (.string (bs n)) := (hb2.cell (p := ⟨w.heap.size,0,none⟩) (cell_lt c10)).trans c10
  have c21 : w2.cell? ⟨w.heap.size,1,none⟩ = some (.string (bs v)) := (hb2.cell (p := ⟨w.heap.size,1,none⟩) (cell_lt c11)).trans c11
  rcases Bool.eq_false_or_eq_true (vlOk v) with hvl | hvl
  ·rw [hvl]
   have hn := (nmOk_len hnm).2
   have hv := vlOk_len hvl
   obtain ⟨c,w3,hcv,hown,hb3,hz3⟩ := conv_bs (P := Tryz.prog) (src := 9) (dst := 22) Tryz.underlying9 Tryz.underlying22 Tryz.underlying5 w2 (n ++ [58,32]) (by unfold maxLen; simp; omega)
   have hadd : bs n ++ ⟨#[58,32]⟩ = bs (n ++ [58,32]) := bs_add n [58,32]
   have hl2 : (n ++ [58,32]).length = n.length + 2 := by simp
   rw [hl2] at hcv hown
   have hB3 := hB2.trans (hb3.mono hB2.size)
   have c31 : w3.cell? ⟨w.heap.size,1,none⟩ = some (.string (bs v)) := (hb3.cell (p := ⟨w.heap.size,1,none⟩) (cell_lt c21)).trans c21
   go_wp2_with fail
   refine (pieces_any v _ (by omega)).mono ?_
   rintro e w4 ⟨⟨ps,rfl,hps⟩,hb4⟩
   have hB4 := hB3.trans (hb4.mono hB3.size)
   obtain ⟨PA,pc,rfl,_,_,hPR,hPl⟩ := own_form hps
   have hown4 := (hown.below hb4).rebase hB2.size
   have hfl := foldF_len n v
   have hblk := hps.lt
   have hpk : (pcs v).length ≤ v.length + 1 := pcsGo_count v []
   have hstart : (n ++ [58,32]) ++ wrapGo (n.length + 2) (decide ((0 : Nat) = 0)) ((pcs v).drop 0) = foldF n v := rfl
   have HS := Lib.hid hstart
   have HBL := Lib.hid hblk
   have h43 : w3.heap.size ≤ w4.heap.size := hb4.size
   have h23 : w2.heap.size < w3.heap.size := by omega
   clear hstart hown hps hPl hblk hcv hadd c20 c21 c31 c10 c11 hz3
   go_wp2_with fail
   go_loopw [4,5,28] (fun x ln i wr => ∃ (k N L : Nat) (o : List UInt8),ln = .int .i64 L ∧ i = .int .i64 k ∧ k ≤ (pcs v).length ∧ L ≤ N ∧ N ≤ (foldF n v).length ∧ Hid (o ++ wrapGo L (decide (k = 0)) ((pcs v).drop k) = foldF n v) ∧ OwnM wr w.heap.size 5 1 x N (o.map bv) ∧ Hid (∀ g,x.ownBlock = some g → g < w3.heap.size ∨ w4.heap.size ≤ g) ∧ Kept w3.heap.size w4.heap.size w4 wr ∧ w4.heap.size ≤ wr.heap.size ∧ Below w.heap.size w wr) (fun _ _ i _ => (pcs v).length - (intOf i).toNat)
   case atStart =>
    have hfb : n.length + 2 ≤ (foldF n v).length := by rw [← HS.out]; simp
    exact ⟨0,n.length + 2,n.length + 2,n ++ [58,32],by go_num,rfl,by omega,by omega,hfb,HS,hown4,Lib.hid (fun g hg => by
     have : g = w2.heap.size := by simpa [Value.ownBlock] using hg.symm
     omega),Kept.refl _ _ _,Nat.le_refl _,hB4⟩
   case round =>
    obtain ⟨k,N,L,o,rfl,rfl,hk,hLN,hN,heq,hown,hgb,hK,hsz,hB⟩ := hrel
    have hs1 := hB.size
    have hol : o.length = N := by simpa using hown.1
    clear hown4
    by_cases hlt : k < (pcs v).length
    ·obtain ⟨b,oo,y,hPA,hy,hc4⟩ := hPR.one (k := k) (by simpa using hlt)
     subst hPA
     obtain ⟨pp,hpp,rfl⟩ : ∃ pp,(pcs v)[k]? = some pp ∧ y = strv pp := by
      have := hy.out
      simp only [List.getElem?_map,Option.map_eq_some_iff] at this
      obtain ⟨g,h1,h2⟩ := this
      exact ⟨g,h1,h2.symm⟩
     have hbb := HBL.out b rfl
     have hc := (hK.cell (o := oo + k) hbb.1 hbb.2).trans hc4
     unfold strv at hc
     have hpl := piece_len hpp
     have hd : (pcs v).drop k = pp :: (pcs v).drop (k + 1) := by
      rw [List.drop_eq_getElem_cons hlt]
      rw [List.getElem?_eq_getElem hlt] at hpp
      rw [Option.some.inj hpp]
     by_cases hturn : 0 < k ∧ 76 < L + pp.length
     ·obtain ⟨ht1,ht2⟩ := hturn
      have hw : wrapGo L (decide (k = 0)) ((pcs v).drop k) = [13,10] ++ pp ++ wrapGo pp.length false ((pcs v).drop (k + 1)) := by
       rw [hd,decide_eq_false (by omega : ¬ k = 0),wrapGo_turn ht2]
      have heq2 : (o ++ [13,10] ++ pp) ++ wrapGo pp.length (decide (k + 1 = 0)) ((pcs v).drop (k + 1)) = foldF n v := by
       rw [← heq.out,hw]
       simp
      have hN2 : N + 2 + pp.length ≤ (foldF n v).length := by rw [← heq2,← hol]; simp; omega
      have hb2 : (76 : Int) < (L : Int) + (pp.length : Int) := by omega
      have HE := Lib.hid heq2
      clear hw heq2 hd hpp heq ht2
      go_wp2_with (first
       | (at_builtin; refine wpList_appM rfl (.tmp 42) (.const (.string ⟨#[13,10]⟩)) _ _ rfl TU8 hown rfl (Src_str Tryz.underlying9 [13,10]) rfl (by simp; omega) hs1 ?_; intro v2 wx hown2 hgr2 hat2; have hBx := below_appM hB hown hgr2 hs1 (Nat.le_refl _); have hsx := hBx.size; have hKx := hK.trans (Kept.grown hgr2 hsz (fun g hg => hgb.out g hg)); have hsz2 := Nat.le_trans hsz hgr2.size)
       | (at_builtin; refine wpList_appM rfl (.tmp 44) (.tmp 45) _ _ rfl TU8 hown2 rfl (Src_str Tryz.underlying9 pp) rfl (by simp; omega) hsx ?_; intro v3 wy hown3 hgr3 hat3; have hBy := below_appM hBx hown2 hgr3 hsx (Nat.le_refl _)))
      have hg2 := blk_step hgb.out hat2 hsz
      have hg3 := blk_step hg2 hat3 hsz2
      go_roundw
      case rel => exact ⟨k + 1,N + 2 + pp.length,pp.length,o ++ [13,10] ++ pp,rfl,by go_num,by omega,by omega,hN2,HE,own_eq hown3 rfl (by simp),Lib.hid hg3,hKx.trans (Kept.grown hgr3 hsz2 hg2),Nat.le_trans hsz2 hgr3.size,hBy⟩
      case measure => simp [intOf]; omega
     ·have hw : wrapGo L (decide (k = 0)) ((pcs v).drop k) = pp ++ wrapGo (L + pp.length) false ((pcs v).drop (k + 1)) := by
       rw [hd,wrapGo_go (fun h => hturn ⟨by have := h.1; simp at this; omega,h.2⟩)]
      have heq2 : (o ++ pp) ++ wrapGo (L + pp.length) (decide (k + 1 = 0)) ((pcs v).drop (k + 1)) = foldF n v := by
       rw [← heq.out,hw]
       simp
      have hN2 : N + pp.length ≤ (foldF n v).length := by rw [← heq2,← hol]; simp only [List.length_append]; omega
      have HE := Lib.hid heq2
      clear hw heq2 hd hpp heq
      rcases (by omega : ¬ 0 < k ∨ (0 < k ∧ ¬ 76 < L + pp.length)) with ht | ⟨ht,ht2⟩
      ·clear hturn
       go_wp2_with (at_builtin; refine wpList_appM rfl (.tmp 44) (.tmp 45) _ _ rfl TU8 hown rfl (Src_str Tryz.underlying9 pp) rfl (by simp; omega) hs1 ?_; intro v2 wx hown2 hgr2 hat2; have hBx := below_appM hB hown hgr2 hs1 (Nat.le_refl _); have hKx := hK.trans (Kept.grown hgr2 hsz (fun g hg => hgb.out g hg)); have hsz2 := Nat.le_trans hsz hgr2.size)
       have hg2 := blk_step hgb.out hat2 hsz
       go_roundw
       case rel => exact ⟨k + 1,N + pp.length,L + pp.length,o ++ pp,by go_num,by go_num,by omega,by omega,hN2,HE,own_eq hown2 rfl (by simp),Lib.hid hg2,hKx,hsz2,hBx⟩
       case measure => simp [intOf]; omega
      ·have hb2 : ¬ (76 : Int) < (L : Int) + (pp.length : Int) := by omega
       clear ht2 hturn
       go_wp2_with (at_builtin; refine wpList_appM rfl (.tmp 44) (.tmp 45) _ _ rfl TU8 hown rfl (Src_str Tryz.underlying9 pp) rfl (by simp; omega) hs1 ?_; intro v2 wx hown2 hgr2 hat2; have hBx := below_appM hB hown hgr2 hs1 (Nat.le_refl _); have hKx := hK.trans (Kept.grown hgr2 hsz (fun g hg => hgb.out g hg)); have hsz2 := Nat.le_trans hsz hgr2.size)
       have hg2 := blk_step hgb.out hat2 hsz
       go_roundw
       case rel => exact ⟨k + 1,N + pp.length,L + pp.length,o ++ pp,by go_num,by go_num,by omega,by omega,hN2,HE,own_eq hown2 rfl (by simp),Lib.hid hg2,hKx,hsz2,hBx⟩
       case measure => simp [intOf]; omega
    ·obtain rfl : k = (pcs v).length := by omega
     have hend : o ++ [13,10] = foldF n v := by
      rw [← heq.out,List.drop_length]
      rfl
     have hN2 : N + 2 = (foldF n v).length := by rw [← hend,← hol]; simp
     have HE := Lib.hid hend
     clear hend heq
     go_wp2_with (at_builtin; refine wpList_appM rfl (.tmp 52) (.const (.string ⟨#[13,10]⟩)) _ _ rfl TU8 hown rfl (Src_str Tryz.underlying9 [13,10]) rfl (by simp; omega) hs1 ?_; intro v2 wx hown2 hgr2 hat2; have hBx := below_appM hB hown hgr2 hs1 (Nat.le_refl _))
     go_ret2
     exact ⟨.inl ⟨hnm,hvl,_,rfl,own_eq hown2 hN2 (by rw [← HE.out,List.map_append])⟩,hBx⟩
  ·rw [hvl]
   go_wp2_with fail
   go_ret2
   exact ⟨.inr ⟨by rw [hnm,hvl]; rfl,rfl⟩,hB2⟩
 ·rw [hnm]
  go_wp2_with fail
  go_ret2
  exact ⟨.inr ⟨by rw [hnm]; rfl,rfl⟩,hB1⟩
end Fd
end
section
namespace Fd
open Go.RowKit
def fcells (fs : List (List UInt8 × List UInt8)) : List Value := fs.flatMap fun p => [strv p.1,strv p.2]
theorem fcells_len (fs : List (List UInt8 × List UInt8)) : (fcells fs).length = fs.length * 2 := by
 induction fs with
 | nil => rfl
 | cons p fs ih =>
  have : fcells (p :: fs) = strv p.1 :: strv p.2 :: fcells fs := rfl
  rw [this]
  simp [ih]
  omega
theorem fcells_snoc (fs : List (List UInt8 × List UInt8)) (p : List UInt8 × List UInt8) : fcells (fs ++ [p]) = fcells fs ++ [strv p.1,strv p.2] := by simp [fcells]
theorem infoField : (Tryz.prog.info? 73).map (fun i => (i.zero,i.size,i.bytes)) = some (some (.agg #[.string ⟨#[]⟩,.string ⟨#[]⟩]),2,32) := by kernel_rfl
theorem TField : ElT Tryz.prog 37 73 2 32 := ElT.mk' (z := .agg #[.string ⟨#[]⟩,.string ⟨#[]⟩]) Tryz.underlying37 (by omega) (by omega) rfl infoField
theorem grown_set (w : World) (a : Addr) (v : Value) : w.grownBy (w.setCell a v) (some a.block) :=
 ⟨rfl,rfl,rfl,by simp,fun j _ hne => Below.heap_setCell w a v j (fun e => hne (by rw [e]))⟩
theorem rdfield_end {w : World} {N0 g t k : Nat} {r f x : Value} {cs : List Value} (hR : Rd w g r f) (hx : w.ownsRow N0 t 2 x k cs) (hg : x.ownBlock ≠ some g) : Rd (w.setCell ⟨g,1,none⟩ x) g r x ∧ (w.setCell ⟨g,1,none⟩ x).ownsRow N0 t 2 x k cs :=
 ⟨hR.set 1 x,hx.kept (grown_set w ⟨g,1,none⟩ x) (.inr hg)⟩
theorem _root_.Go.Proofs.YtkllecicddfjpaaGreatDoor.Rb.belowIn {w w1 : World} {N g : Nat} {A : Option Addr} {l : List UInt8} (hA : Rb w A l) (hb : Below N w w1) (hi : In N g A l) : Rb w1 A l := fun hp => by
 obtain ⟨b,o,rfl,hc⟩ := hA hp
 obtain ⟨b',o',e,h1,h2⟩ := hi (by simpa using hp)
 cases e
 exact ⟨b,o,rfl,fun j v hj => (hb.cell (p := ⟨b,o + j,none⟩) h1).trans (hc j v hj)⟩
def FieldOut (N0 g k : Nat) (A : Option Addr) (l line : List UInt8) (fs : List (List UInt8 × List UInt8)) (e : Ending) (w' : World) : Prop :=
 match fieldP k line l with
 | .error x => e = .returned (.int .i64 (x : Int))
 | .ok (f,b) => e = .returned (.int .i64 0) ∧ ∃ B c' fv',Rd w' g (.slice B b.length c') fv' ∧ Rb w' B b ∧ b.length ≤ c' ∧ Pl B c' ∧ SB A B ∧ w'.ownsRow N0 73 2 fv' (k + 1) (fcells (fs ++ [f])) ∧ fv'.ownBlock ≠ some g
theorem rdfield_any (N0 g : Nat) (A F : Option Addr) (l line : List UInt8) (fs : List (List UInt8 × List UInt8)) (n c m d k : Nat) (fv : Value) (w : World) (hn : l.length = n) (hm : line.length = m) (hR : Rd w g (.slice A n c) fv)
  (hfv : w.ownsRow N0 73 2 fv k (fcells fs)) (hfg : fv.ownBlock ≠ some g) (hg : N0 ≤ g) (hN : N0 ≤ w.heap.size) (hA : Rb w A l) (hnc : n ≤ c) (hpl : Pl A c)
  (hI : In N0 g A l) (hF : Rb w F line) (hIF : In N0 g F line) (hmd : m ≤ d) (hpf : Pl F d) (hk : k ≤ 200) (hb : n ≤ 1000000) (hbm : m ≤ 1000000) :
  Calls Tryz.prog 85 #[.pointer (some ⟨g,0,none⟩),.slice F m d] w fun e w' => FieldOut N0 g k A l line fs e w' ∧ Below N0 w w' := by
 have HM := Lib.hid hm
 have HN := Lib.hid hn
 have HR := Lib.hid hR
 have hgl := hR.lt
 have kc := fun (w : World) (C : Array Value) (n c : Nat) => Lib.run_convert_bytes_const (P := Tryz.prog) w 22 5 C n c Tryz.underlying22 Tryz.underlying5
 clear hn hm hR
 go_enter Tryz.func85,Tryz.ntmps85
 go_wp2_with fail
 have hb1 : Below w.heap.size w (w.alloc (.cells #[.int .u8 58] 5 (1,2))) := (Below.refl _ _).alloc (Nat.le_refl _) _
 refine (cut_any F line m d w.heap.size 0 1 58 _ HM.out (hF.below hb1) hmd hpf (mark_cell _ _ _) (by omega)).mono ?_
 rintro e w2 ⟨hcut,hd⟩
 have hb2 := hb1.trans ((hd.below _).mono hb1.size)
 have hB2 : Below N0 w w2 := hb2.mono hN
 unfold CutOut at hcut
 have hfo : FieldOut N0 g k A l line fs = fun e w' => FieldOut N0 g k A l line fs e w' := rfl
 clear hfo
 cases hc : cutAt 58 line with
 | none =>
  rw [hc] at hcut
  subst hcut
  have hp : fieldP k line l = .error 3 := by unfold fieldP; rw [hc]
  have HP := Lib.hid hp
  clear hp hc
  go_wp2_with fail
  go_ret
  exact ⟨by unfold FieldOut; rw [HP.out]; rfl,hB2⟩
 | some p =>
  obtain ⟨nm,first⟩ := p
  rw [hc] at hcut
  obtain ⟨B,d2,rfl,hRa,hRb,hbd,hplB,hac,hsb⟩ := hcut
  have hnl := cutAt_lt hc
  rw [HM.out] at hnl
  have hcv := conv_str (P := Tryz.prog) (src := 22) (dst := 9) (e := 5) Tryz.underlying22 Tryz.underlying5 Tryz.underlying9 (n := nm.length) (c := d) hRa rfl
  go_wp2_with fail
  refine (fname_any nm _ (by omega)).mono ?_
  rintro e w3 ⟨rfl,hb3⟩
  have hB3 : Below N0 w w3 := hB2.trans (hb3.mono (Nat.le_trans hN hb2.size))
  have hb23 := hb2.trans (hb3.mono hb2.size)
  cases hnm : nmOk nm with
  | false =>
   have hp : fieldP k line l = .error 3 := by unfold fieldP; rw [hc]; simp [hnm]
   have HP := Lib.hid hp
   clear hp hc
   go_wp2_with fail
   go_ret
   exact ⟨by unfold FieldOut; rw [HP.out]; rfl,hB3⟩
  | true =>
   obtain ⟨fA,fc,rfl,hfc,hfm,hfR,hfl⟩ := own_form hfv
   have hR3 : Rd w3 g (.slice A n c) (.slice fA k fc) := HR.out.below hb23
   have c31 : w3.cell? ⟨g,1,none⟩ = some (.slice fA k fc) := hR3.cell rfl
   have hfv3 := own_below hfv hb23
   by_cases hk2 : k = 200
   ·have hp : fieldP k line l = .error 4 := by unfold fieldP; rw [hc]; simp [hnm,hk2]
    have hkb : ((k : Int) == 200) = true := by rw [beq_iff_eq]; omega
    have HP := Lib.hid hp
    clear hp hc
    go_wp2_with fail
    go_ret
    exact ⟨by unfold FieldOut; rw [HP.out]; rfl,hB3⟩
   ·have hkb : ((k : Int) == 200) = false := by rw [beq_eq_false_iff_ne]; omega
    have hC := Lib.hid hc
    clear hc hcv
    go_wp2_with fail
    have hs3 := hb23.size
    have hI3 : In w3.heap.size g A l := fun h => by
     obtain ⟨b,o,e,h1,h2⟩ := hI h
     exact ⟨b,o,e,by omega,h2⟩
    refine (rdval_any g A B l first n c first.length d2 (.slice fA k fc) w3 HN.out rfl hR3 (fun _ _ h => by cases h) (hA.below hb23) hnc hpl hI3 (hRb.below hb3) hbd hplB hb (by omega)).mono ?_
    rintro e w4 ⟨hv4,hg4⟩
    have hB4 : Below N0 w w4 := hB3.trans (below_grown hg4 hg (by omega))
    rcases hv4 with ⟨v,b,C,c',hval,rfl,hR4,hRb4,hbc,hplC,hsbC⟩ | ⟨hval,rfl⟩
    ·have hvl := valGo_len _ _ _ _ _ (Nat.le_refl _) hval
     have htl := trimB_len v
     have hbl := valGo_rest hval
     have hfv4 := hfv3.kept hg4 (.inr hfg)
     have hRn4 : Rb w4 F nm := (hRa.below hb3).grownIn hg4 (N := N0) (In.sub (m := nm) hIF (SB.refl F) (fun h => by rw [HM.out]; omega) (fun h => hRa.plain h)) (fun j h => .inr (Option.some.inj h).symm)
     have hp : fieldP k line l = if 8192 < (trimB v).length then .error 4 else if (trimB v).all sgc then .ok ((nm,trimB v),b) else .error 3 := by
      unfold fieldP
      rw [hC.out]
      simp only [hnm,if_true,hk2,if_false,hval]
     rw [HN.out] at hvl
     have hvn : (trimB v).length ≤ 2000000 := by omega
     generalize trimB v = tv at *
     clear hval
     by_cases h8 : 8192 < tv.length
     ·rw [if_pos h8] at hp
      have HP := Lib.hid hp
      clear hp
      go_wp2_with fail
      go_ret
      exact ⟨by unfold FieldOut; rw [HP.out]; rfl,hB4⟩
     ·rw [if_neg h8] at hp
      have h8i : ¬ (8192 : Int) < (tv.length : Int) := by omega
      have HP := Lib.hid hp
      clear hp
      go_wp2_with fail
      refine (signs_any tv _ (by omega)).mono ?_
      rintro e w5 ⟨rfl,hb5⟩
      have hs4 : N0 ≤ w4.heap.size := by have := hg4.size; omega
      have hB5 := hB4.trans (hb5.mono hs4)
      cases hsg : tv.all sgc with
      | false =>
       have hp : fieldP k line l = .error 3 := by rw [HP.out]; simp [hsg]
       have HP2 := Lib.hid hp
       clear hp
       go_wp2_with fail
       go_ret
       exact ⟨by unfold FieldOut; rw [HP2.out]; rfl,hB5⟩
      | true =>
       have hp : fieldP k line l = .ok ((nm,tv),b) := by rw [HP.out]; simp [hsg]
       have HP2 := Lib.hid hp
       have hR5 := hR4.below hb5
       have hfv5 := own_below hfv4 hb5
       have c50 : w5.cell? ⟨g,0,none⟩ = some (.slice C b.length c') := hR5.cell rfl
       have c51 : w5.cell? ⟨g,1,none⟩ = some (.slice fA k fc) := hR5.cell rfl
       have z51 : w5.frozen? ⟨g,1,none⟩ = false := hR5.frozen 1
       have hcv5 := conv_str (P := Tryz.prog) (src := 22) (dst := 9) (e := 5) Tryz.underlying22 Tryz.underlying5 Tryz.underlying9 (n := nm.length) (c := d) (hRn4.below hb5) rfl
       have hcvd : (convert 22 9 (.slice F nm.length d)).run Tryz.prog w5.drew = .ok (.string (bs nm)) w5.drew := conv_str (P := Tryz.prog) (src := 22) (dst := 9) (e := 5) Tryz.underlying22 Tryz.underlying5 Tryz.underlying9 (n := nm.length) (c := d) ((hRn4.below hb5).drewN 1) rfl
       have c51a : (w5.alloc (.cells #[.string (bs nm),.string (bs tv)] 73)).cell? ⟨g,1,none⟩ = some (.slice fA k fc) := (((Below.refl _ w5).alloc (Nat.le_refl _) _).cell (p := ⟨g,1,none⟩) (cell_lt c51)).trans c51
       have hs5 : N0 ≤ w5.heap.size := by have := hb5.size; omega
       have hk5 : (k + 1) * 32 ≤ 140737488355328 := by omega
       have hown5 : (w5.alloc (.cells #[strv nm,strv tv] 73)).drew.ownsRow N0 73 2 (.slice fA k fc) k (fcells fs) := hfv5.alloc _
       have hsrc5 : Src Tryz.prog 2 37 (.slice (some ⟨w5.heap.size,0,none⟩) 1 1) 1 [strv nm,strv tv] (w5.alloc (.cells #[strv nm,strv tv] 73)).drew := Src_rv (news := [strv nm,strv tv]) Tryz.underlying37 rfl (Rv_new w5 _ _ _ rfl) (by simp [Value.oneCell',strv]) (by omega)
       have hsz5 : N0 ≤ (w5.alloc (.cells #[strv nm,strv tv] 73)).drew.heap.size := by simp; omega
       have HOWN := Lib.hid hown5
       have HSRC := Lib.hid hsrc5
       clear hp c31 hown5 hsrc5
       go_wp2_with fail
       go_region_law (refine step_app rfl (.tmp 53) (.tmp 58) _ _ rfl TField HOWN.out (by simp [Act.eval,Act.put]) HSRC.out (by simp [Act.eval,Act.put,strv]) hk5 hsz5 ?_; intro v6 w6 hown6 hgr6 hat6; have hown7 := hown6; obtain ⟨A6,c6,rfl,_,_,_,_⟩ := own_form hown6; have hR6 := Rd.grown (g := g) (r := .slice C b.length c') (f := .slice fA k fc) (show Rd (w5.alloc (.cells #[strv nm,strv tv] 73)).drew g _ _ from (hR5.alloc _)) hgr6 hfg; have c61 : w6.cell? ⟨g,1,none⟩ = some (.slice fA k fc) := hR6.cell rfl; have z61 : w6.frozen? ⟨g,1,none⟩ = false := hR6.frozen 1)
       all_goals
        have hxg : (Value.slice A6 (k + 1) c6).ownBlock ≠ some g := by
         rcases hat6 with h | h
         ·rw [h]; exact hfg
         ·rw [h]
          intro e
          have e1 : w5.heap.size + 1 = g := by
           have := Option.some.inj e
           simpa using this
          have e2 : g < w5.heap.size := cell_lt c51
          omega
        obtain ⟨hR8,hown8⟩ := rdfield_end hR6 hown7 hxg
        have hB6 : Below N0 w w6 := ((hB5.alloc hs5 (.cells #[strv nm,strv tv] 73)).drew).grown hgr6 hsz5 (fun j hj => (hfv5.lt j hj).1)
        have hB7 : Below N0 w (w6.setCell ⟨g,1,none⟩ (.slice A6 (k + 1) c6)) := hB6.grown (grown_set _ _ _) (Nat.le_trans hN hB6.size) (fun j hj => by have e : g = j := Option.some.inj hj; omega)
        have hIC : In N0 g C b := hI.sub (m := b) hsbC (fun h => by omega) (fun h => hRb4.plain h)
        have hRb7 : Rb (w6.setCell ⟨g,1,none⟩ (.slice A6 (k + 1) c6)) C b := by
         have h1 : Below N0 w4 (w6.setCell ⟨g,1,none⟩ (.slice A6 (k + 1) c6)) := by
          have h45 : Below N0 w4 w5 := hb5.mono hs4
          have h46 : Below N0 w4 w6 := ((h45.alloc hs5 (.cells #[strv nm,strv tv] 73)).drew).grown hgr6 hsz5 (fun j hj => (hfv5.lt j hj).1)
          exact h46.grown (grown_set _ _ _) (Nat.le_trans hs4 h46.size) (fun j hj => by have e : g = j := Option.some.inj hj; omega)
         exact hRb4.belowIn h1 hIC
        clear hR6 hown7 hB6 hIC hbl hat6 hgr6
        go_wp2_with fail
        go_ret
        exact ⟨by unfold FieldOut; rw [HP2.out]; exact ⟨rfl,C,c',_,hR8,hRb7,hbc,hplC,hsbC,by rw [fcells_snoc]; exact hown8,hxg⟩,hB7⟩
    ·have hp : fieldP k line l = .error 3 := by
      unfold fieldP
      rw [hC.out]
      simp only [hnm,if_true,hk2,if_false,hval]
     have HP := Lib.hid hp
     clear hp hval
     go_wp2_with fail
     go_ret
     exact ⟨by unfold FieldOut; rw [HP.out]; rfl,hB4⟩
end Fd
end
section
namespace Fd
open Go.RowKit
def rightF (fs : List (List UInt8 × List UInt8)) : Bool := fs.all fun p => nmOk p.1 && vlOk p.2
def Rf (w : World) (A : Option Addr) (fs : List (List UInt8 × List UInt8)) : Prop := Rv w A (fcells fs)
theorem fcells_get {fs : List (List UInt8 × List UInt8)} {k : Nat} {p : List UInt8 × List UInt8} (h : fs[k]? = some p) : (fcells fs)[2 * k]? = some (strv p.1) ∧ (fcells fs)[2 * k + 1]? = some (strv p.2) := by
 induction fs generalizing k with
 | nil => simp at h
 | cons q fs ih =>
  have e : fcells (q :: fs) = strv q.1 :: strv q.2 :: fcells fs := rfl
  match k,h with
  | 0,h =>
   simp at h
   subst h
   exact ⟨rfl,rfl⟩
  | k + 1,h =>
   have := ih (k := k) (by simpa using h)
   rw [e,show 2 * (k + 1) = 2 * k + 1 + 1 by omega]
   exact this
theorem Rf.one {w : World} {A : Option Addr} {fs : List (List UInt8 × List UInt8)} (h : Rf w A fs) {k : Nat} (hk : k < fs.length) :
  ∃ b o p,A = some ⟨b,o,none⟩ ∧ Hid (fs[k]? = some p) ∧ w.cell? ⟨b,o + k * 2,none⟩ = some (.string (bs p.1)) ∧ w.cell? ⟨b,o + k * 2 + 1,none⟩ = some (.string (bs p.2)) := by
 obtain ⟨b,o,rfl,hc⟩ := h (by rw [fcells_len]; omega)
 obtain ⟨p,hp⟩ : ∃ p,fs[k]? = some p := ⟨_,List.getElem?_eq_getElem hk⟩
 obtain ⟨h1,h2⟩ := fcells_get hp
 refine ⟨b,o,p,rfl,Lib.hid hp,?_,?_⟩
 ·have := hc _ _ h1
  rwa [show o + 2 * k = o + k * 2 by omega] at this
 ·have := hc _ _ h2
  rwa [show o + (2 * k + 1) = o + k * 2 + 1 by omega] at this
theorem Rf.below {w w1 : World} {A : Option Addr} {fs : List (List UInt8 × List UInt8)} (h : Rf w A fs) (hb : Below w.heap.size w w1) : Rf w1 A fs := Rv.below h hb
theorem samef_any (A B : Option Addr) (fs : List (List UInt8 × List UInt8)) (n c d : Nat) (w : World) (hn : fs.length = n) (hA : Rf w A fs) (hB : Rf w B fs) (hb : n ≤ 1000000) :
  Calls Tryz.prog 21 #[.slice A n c,.slice B n d] w fun e w' => e = .returned (.bool true) ∧ Dn w w' := by
 have HN := Lib.hid hn
 clear hn
 go_enter Tryz.func21,Tryz.ntmps21
 go_wp2_with fail
 go_loopw [5] (fun i wr => ∃ k : Nat,i = .int .i64 k ∧ k ≤ n ∧ Dn w wr) (fun i _ => n - (intOf i).toNat)
 case atStart => exact ⟨0,rfl,by omega,Dn.refl _⟩
 case round =>
  obtain ⟨k,rfl,hk,hd⟩ := hrel
  by_cases hlt : k < n
  ·obtain ⟨b,o,p,rfl,hp,h0,h1⟩ := (hA.below (hd.below _)).one (k := k) (by rw [HN.out]; exact hlt)
   obtain ⟨b',o',p',rfl,hp',h0',h1'⟩ := (hB.below (hd.below _)).one (k := k) (by rw [HN.out]; exact hlt)
   obtain rfl : p' = p := Option.some.inj (hp'.out.symm.trans hp.out)
   go_wp2_with fail
   go_quiet (fail)
   go_wp2_with fail
   go_roundw
   case rel => exact ⟨k + 1,by go_num,by omega,by first | exact hd.drewN _ | exact hd.drew | exact hd⟩
   case measure => simp [intOf]; omega
  ·go_wp2_with fail
   go_ret
   exact ⟨rfl,hd⟩
end Fd
end
end Go.Proofs.YtkllecicddfjpaaGreatDoor
