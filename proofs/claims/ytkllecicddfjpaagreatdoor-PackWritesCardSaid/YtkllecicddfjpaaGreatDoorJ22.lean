/- The walk of the law, part 22. -/
import Derived.Test.YtkllecicddfjpaaGreatDoorJ14
import Derived.Test.YtkllecicddfjpaaGreatDoorJ12
import Derived.Test.YtkllecicddfjpaaGreatDoorJ15
import Derived.Test.YtkllecicddfjpaaGreatDoorJ16
set_option maxRecDepth 100000
set_option maxHeartbeats 16000000
set_option linter.unusedVariables false
set_option linter.unusedSimpArgs false
namespace Go.Proofs.YtkllecicddfjpaaGreatDoor
section
namespace Fd
open Go.RowKit
def refTail (v : List UInt8) (line : Nat) : Nat → List UInt8
 | 0 => (match v with
  | [] => [13,10]
  | c :: r => c :: refGo (line + 1) c r)
 | q + 1 => refGo line (v.getD q 0) (v.drop (q + 1))
theorem refTail_start (n v : List UInt8) : n ++ [58,32] ++ refTail v (n.length + 2) 0 = foldF n v := (foldF_ref n v).symm
theorem refTail_end {v : List UInt8} {line q : Nat} (h : q = v.length) : refTail v line q = [13,10] := by
 subst h
 match v with
 | [] => rfl
 | c :: r =>
  show refGo line ((c :: r).getD r.length 0) ((c :: r).drop (r.length + 1)) = _
  rw [List.drop_of_length_le (by simp)]
  rfl
theorem getD_of {v : List UInt8} {q : Nat} {c : UInt8} (h : v[q]? = some c) : v.getD q 0 = c := by simp [List.getD,h]
theorem refTail_on {v : List UInt8} {line q : Nat} {c : UInt8} (hc : v[q]? = some c) (h : q = 0 ∨ ¬ (blk c = true ∧ (∃ p,v[q - 1]? = some p ∧ blk p = false) ∧ 76 < line + ((pcsGo [c] (v.drop (q + 1))).headD []).length)) : refTail v line q = c :: refTail v (line + 1) (q + 1) := by
 match q with
 | 0 =>
  match v,hc with
  | x :: r,hc =>
   simp at hc
   subst hc
   rfl
 | q + 1 =>
  obtain ⟨p,hp⟩ : ∃ p,v[q]? = some p := ⟨_,List.getElem?_eq_getElem (by have := lt_of_get hc; omega)⟩
  show refGo line (v.getD q 0) (v.drop (q + 1)) = c :: refGo (line + 1) (v.getD (q + 1) 0) (v.drop (q + 1 + 1))
  rw [drop_cons hc,getD_of hp,getD_of hc]
  refine refGo_on (fun k => ?_)
  rcases h with h | h
  ·omega
  ·exact h ⟨k.1,⟨p,by simpa using hp,k.2.1⟩,k.2.2⟩
theorem refTail_turn {v : List UInt8} {line q : Nat} {c p : UInt8} (hc : v[q]? = some c) (hq : 0 < q) (hp : v[q - 1]? = some p) (h1 : blk c = true) (h2 : blk p = false) (h3 : 76 < line + ((pcsGo [c] (v.drop (q + 1))).headD []).length) : refTail v line q = [13,10,c] ++ refTail v 1 (q + 1) := by
 obtain ⟨m,rfl⟩ : ∃ m,q = m + 1 := ⟨q - 1,by omega⟩
 have hp' : v[m]? = some p := by simpa using hp
 show refGo line (v.getD m 0) (v.drop (m + 1)) = [13,10,c] ++ refGo 1 (v.getD (m + 1) 0) (v.drop (m + 1 + 1))
 rw [drop_cons hc,getD_of hp',getD_of hc]
 exact refGo_turn ⟨h1,h2,h3⟩
theorem piece_step {v : List UInt8} {i t : Nat} {x p : UInt8} (hi : i < t) (hx : v[t]? = some x) (hp : v[t - 1]? = some p) (h : ¬ (blk x = true ∧ blk p = false)) :
  pcsGo ((v.drop i).take (t - i)) (v.drop t) = pcsGo ((v.drop i).take (t + 1 - i)) (v.drop (t + 1)) := by
 rw [drop_cons hx,pcsGo,cur_snoc (by omega) hx]
 have : turnAt ((v.drop i).take (t - i)) x = false := by
  unfold turnAt
  rw [cur_last hi hp]
  simp only [Bool.and_eq_false_iff,Bool.not_eq_false']
  by_cases hb : blk x = true
  ·right
   by_cases hb2 : blk p = false
   ·exact absurd ⟨hb,hb2⟩ h
   ·simpa using hb2
  ·left
   simpa using hb
 rw [this]
 rfl
theorem piece_turn {v : List UInt8} {i t : Nat} {x p : UInt8} (hi : i < t) (hx : v[t]? = some x) (hp : v[t - 1]? = some p) (h1 : blk x = true) (h2 : blk p = false) :
  ((pcsGo ((v.drop i).take (t - i)) (v.drop t)).headD []).length = t - i := by
 have hl := lt_of_get hx
 rw [drop_cons hx,pcsGo]
 have : turnAt ((v.drop i).take (t - i)) x = true := by
  unfold turnAt
  rw [cur_last hi hp,h1]
  simp [h2]
 rw [this]
 simp
 omega
theorem piece_end {v : List UInt8} {i t : Nat} (ht : t = v.length) : ((pcsGo ((v.drop i).take (t - i)) (v.drop t)).headD []).length = t - i := by
 subst ht
 rw [List.drop_length]
 simp [pcsGo]
theorem rfold_any (n v : List UInt8) (w : World) (hn : n.length ≤ 1000000) (hv : v.length ≤ 1000000) :
  Calls Tryz.prog 38 #[.agg #[strv n,strv v]] w fun e w' => (∃ x,e = .returned x ∧ OwnM w' w.heap.size 5 1 x (foldF n v).length ((foldF n v).map bv)) ∧ Below w.heap.size w w' := by
 have hA0 : Below w.heap.size w (w.alloc (.cells #[.string (bs n),.string (bs v)] 73)) := (Below.refl _ _).alloc (Nat.le_refl _) _
 obtain ⟨c,w3,hcv,hown,hb3,hz3⟩ := conv_bs (P := Tryz.prog) (src := 9) (dst := 22) Tryz.underlying9 Tryz.underlying22 Tryz.underlying5 (w.alloc (.cells #[.string (bs n),.string (bs v)] 73)) n (by unfold maxLen; omega)
 have hsz : (w.alloc (.cells #[.string (bs n),.string (bs v)] 73)).heap.size = w.heap.size + 1 := by simp
 have hB3 := hA0.trans (hb3.mono hA0.size)
 have hs3 := hB3.size
 rw [hsz] at hcv hown hz3
 have hown3 := hown.rebase (b' := w.heap.size) (by omega)
 have hfl := foldF_len n v
 have c0 : w3.cell? ⟨w.heap.size,1,none⟩ = some (.string (bs v)) := (hb3.cell (p := ⟨w.heap.size,1,none⟩) (by simp)).trans (by simp)
 have HST := Lib.hid (refTail_start n v)
 clear hown hsz
 unfold strv
 go_enter Tryz.func38,Tryz.ntmps38
 go_wp2_with (at_builtin; refine wpList_appM rfl (.tmp 13) (.const (.string ⟨#[58,32]⟩)) _ _ rfl TU8 hown3 rfl (Src_str Tryz.underlying9 [58,32]) rfl (by simp; omega) hs3 ?_; intro v2 wx hown2 hgr2 hat2; have hBx := below_appM hB3 hown3 hgr2 hs3 (Nat.le_refl _); have hsx := hBx.size; have hown4 := hown2; obtain ⟨A2,c2,rfl,hc2,hc2m,_,_⟩ := hown2.form)
 have hfb : n.length + 2 ≤ (foldF n v).length := by rw [← HST.out]; simp
 clear hcv hown3 hown2 hgr2 hat2 hz3 c0 hb3 hA0 hB3 hs3
 go_loopw [4,5,6] (fun x ln i wr => ∃ (q N L : Nat) (o : List UInt8),ln = .int .i64 L ∧ i = .int .i64 q ∧ q ≤ v.length ∧ L ≤ N ∧ N ≤ (foldF n v).length ∧ Hid (o ++ refTail v L q = foldF n v) ∧ OwnM wr w.heap.size 5 1 x N (o.map bv) ∧ Below w.heap.size w wr) (fun _ _ i _ => v.length - (intOf i).toNat)
 case atStart => exact ⟨0,n.length + 2,n.length + 2,n ++ [58,32],by go_num,rfl,by omega,by omega,hfb,HST,own_eq hown4 rfl (by simp),hBx⟩
 case round =>
  obtain ⟨q,N,L,o,rfl,rfl,hq,hLN,hN,heq,hown,hB⟩ := hrel
  obtain ⟨wo,rfl⟩ : ∃ wo : World,wo = wr := ⟨_,rfl⟩
  have hs1 := hB.size
  have hol : o.length = N := by simpa using hown.1
  have HOL := Lib.hid hol
  clear hown4 hol
  by_cases hlt : q < v.length
  ·obtain ⟨c,hc⟩ : ∃ c,v[q]? = some c := ⟨_,List.getElem?_eq_getElem hlt⟩
   have hi := str_index (P := Tryz.prog) Tryz.underlying9 hc .i64
   have HC := Lib.hid hc
   clear hc
   by_cases hT : 0 < q ∧ blk c = true ∧ ∃ p,v[q - 1]? = some p ∧ blk p = false
   ·obtain ⟨hq0,hbc,p,hp,hbp⟩ := hT
    have hj : ∀ W,(Instr.index 9 (.string (bs v)) (.int .i64 ((q : Int) - 1))).run Tryz.prog W = .ok (.int .u8 (p.toNat : Int)) W := by
     rw [show ((q : Int) - 1) = ((q - 1 : Nat) : Int) by omega]
     exact str_index (P := Tryz.prog) Tryz.underlying9 hp .i64
    have HP := Lib.hid hp
    have HBC := Lib.hid hbc
    have HBP := Lib.hid hbp
    clear hp hbc hbp
    have hp0 : pcsGo [c] (v.drop (q + 1)) = pcsGo ((v.drop q).take (q + 1 - q)) (v.drop (q + 1)) := by rw [cur_one HC.out]
    have HP0 := Lib.hid hp0
    clear hp0
    go_wp2_with (go_at_call 80; refine (rblank_any _ _).mono ?_; rintro e wz ⟨rfl,rfl⟩; first | rw [HBC.out] | rw [HBP.out])
    go_loopw [7] (fun t wr => ∃ t' : Nat,t = .int .i64 t' ∧ q < t' ∧ t' ≤ v.length ∧ Hid (pcsGo [c] (v.drop (q + 1)) = pcsGo ((v.drop q).take (t' - q)) (v.drop t')) ∧ wr = wo) (fun t _ => v.length - (intOf t).toNat)
    case atStart => exact ⟨q + 1,by go_num,by omega,by omega,HP0,rfl⟩
    case round =>
     obtain ⟨t,rfl,hqt,htl,HPT,rfl⟩ := hrel
     by_cases hte : t < v.length
     ·obtain ⟨x,hx⟩ : ∃ c,v[t]? = some c := ⟨_,List.getElem?_eq_getElem hte⟩
      obtain ⟨y,hy⟩ : ∃ c,v[t - 1]? = some c := ⟨_,List.getElem?_eq_getElem (by omega)⟩
      have hix := str_index (P := Tryz.prog) Tryz.underlying9 hx .i64
      have hiy : ∀ W,(Instr.index 9 (.string (bs v)) (.int .i64 ((t : Int) - 1))).run Tryz.prog W = .ok (.int .u8 (y.toNat : Int)) W := by
       rw [show ((t : Int) - 1) = ((t - 1 : Nat) : Int) by omega]
       exact str_index (P := Tryz.prog) Tryz.underlying9 hy .i64
      have hcs : (blk x = true ∧ blk y = false) ∨ (blk x = false ∧ ¬ (blk x = true ∧ blk y = false)) ∨ ((blk x = true ∧ blk y = true) ∧ ¬ (blk x = true ∧ blk y = false)) := by
       cases blk x <;> cases blk y <;> simp
      have HX := Lib.hid hx
      have HY := Lib.hid hy
      clear hx hy
      rcases hcs with ⟨hbx,hby⟩ | ⟨hbx,hno⟩ | ⟨⟨hbx,hby⟩,hno⟩
      ·have hE : ((pcsGo [c] (v.drop (q + 1))).headD []).length = t - q := by rw [HPT.out]; exact piece_turn hqt HX.out HY.out hbx hby
       have HBX := Lib.hid hbx
       have HBQ := Lib.hid hby
       clear hbx hby
       by_cases hw : 76 < L + (t - q)
       ·have ht := refTail_turn (line := L) HC.out hq0 HP.out HBC.out HBP.out (by rw [hE]; exact hw)
        have heq2 : (o ++ [13,10,c]) ++ refTail v 1 (q + 1) = foldF n v := by rw [← heq.out,ht]; simp
        have hN2 : N + 3 ≤ (foldF n v).length := by rw [← heq2,← HOL.out]; simp only [List.length_append,List.length_cons,List.length_nil]; omega
        have hwi : (76 : Int) < (L : Int) + (t : Int) - (q : Int) := by omega
        have HQ := Lib.hid heq2
        clear ht heq2 hE hw
        go_wp2_with (first
         | (go_at_call 80; refine (rblank_any _ _).mono ?_; rintro e wz ⟨rfl,rfl⟩; first | rw [HBX.out] | rw [HBQ.out])
                 | (at_builtin; refine wpList_appM rfl (.tmp 68) (.tmp 69) _ _ rfl TU8 (hown.alloc (.cells #[bv 13,bv 10] 5)) rfl (Src_rv (news := [bv 13,bv 10]) Tryz.underlying22 rfl (Rv_new wr _ _ _ rfl) (by simp [Value.oneCell',bv]) (by omega)) rfl (by omega) (by simp; omega) ?_; intro v3 wb hownb hgr3 hat3; have hBb := below_appM (hB.alloc hs1 (.cells #[bv 13,bv 10] 5)) (hown.alloc _) hgr3 (by simp; omega) (Nat.le_refl _); have hs3 := hBb.size)
         | (at_builtin; refine wpList_appM rfl (.tmp 71) (.tmp 75) _ _ rfl TU8 (hownb.alloc (.cells #[bv c] 5)) rfl (Src_rv (news := [bv c]) Tryz.underlying22 rfl (Rv_new wb _ _ _ rfl) (by simp [Value.oneCell',bv]) (by omega)) rfl (by omega) (by simp; omega) ?_; intro v4 wc hownc hgr4 hat4; have hBc := below_appM (hBb.alloc hs3 (.cells #[bv c] 5)) (hownb.alloc _) hgr4 (by simp; omega) (Nat.le_refl _); have hs4 := hBc.size))
        go_roundw
        case rel => exact ⟨q + 1,N + 3,1,o ++ [13,10,c],by go_num,by go_num,by omega,by omega,hN2,HQ,own_eq hownc rfl (by simp),hBc⟩
        case measure => simp [intOf]; omega
       ·have ht := refTail_on (line := L) HC.out (.inr (fun k => hw (by have := k.2.2; rwa [hE] at this)))
        have heq2 : (o ++ [c]) ++ refTail v (L + 1) (q + 1) = foldF n v := by rw [← heq.out,ht]; simp
        have hN2 : N + 1 ≤ (foldF n v).length := by rw [← heq2,← HOL.out]; simp only [List.length_append,List.length_cons,List.length_nil]; omega
        have hwi : ¬ (76 : Int) < (L : Int) + (t : Int) - (q : Int) := by omega
        have HQ := Lib.hid heq2
        clear ht heq2 hE hw
        go_wp2_with (first
         | (go_at_call 80; refine (rblank_any _ _).mono ?_; rintro e wz ⟨rfl,rfl⟩; first | rw [HBX.out] | rw [HBQ.out])
                 | (at_builtin; refine wpList_appM rfl (.tmp 71) (.tmp 75) _ _ rfl TU8 (hown.alloc (.cells #[bv c] 5)) rfl (Src_rv (news := [bv c]) Tryz.underlying22 rfl (Rv_new wr _ _ _ rfl) (by simp [Value.oneCell',bv]) (by omega)) rfl (by omega) (by simp; omega) ?_; intro v3 wb hownb hgr3 hat3; have hBb := below_appM (hB.alloc hs1 (.cells #[bv c] 5)) (hown.alloc _) hgr3 (by simp; omega) (Nat.le_refl _); have hs3 := hBb.size))
        go_roundw
        case rel => exact ⟨q + 1,N + 1,L + 1,o ++ [c],by go_num,by go_num,by omega,by omega,hN2,HQ,own_eq hownb rfl (by simp),hBb⟩
        case measure => simp [intOf]; omega
      ·have hst := HPT.out.trans (piece_step hqt HX.out HY.out hno)
       have HST2 := Lib.hid hst
       have HBX := Lib.hid hbx
       have HBQ := HBX
       clear hbx hno hst
       go_wp2_with (go_at_call 80; refine (rblank_any _ _).mono ?_; rintro e wz ⟨rfl,rfl⟩; first | rw [HBX.out] | rw [HBQ.out])
       go_roundw
       case rel => exact ⟨t + 1,by go_num,by omega,by omega,HST2,by first | trivial | rfl⟩
       case measure => simp [intOf]; omega
      ·have hst := HPT.out.trans (piece_step hqt HX.out HY.out hno)
       have HST2 := Lib.hid hst
       have HBX := Lib.hid hbx
       have HBQ := Lib.hid hby
       clear hbx hby hno hst
       go_wp2_with (go_at_call 80; refine (rblank_any _ _).mono ?_; rintro e wz ⟨rfl,rfl⟩; first | rw [HBX.out] | rw [HBQ.out])
       go_roundw
       case rel => exact ⟨t + 1,by go_num,by omega,by omega,HST2,by first | trivial | rfl⟩
       case measure => simp [intOf]; omega
     ·obtain rfl : t = v.length := by omega
      have hE : ((pcsGo [c] (v.drop (q + 1))).headD []).length = v.length - q := by rw [HPT.out]; exact piece_end rfl
      by_cases hw : 76 < L + (v.length - q)
      ·have ht := refTail_turn (line := L) HC.out hq0 HP.out HBC.out HBP.out (by rw [hE]; exact hw)
       have heq2 : (o ++ [13,10,c]) ++ refTail v 1 (q + 1) = foldF n v := by rw [← heq.out,ht]; simp
       have hN2 : N + 3 ≤ (foldF n v).length := by rw [← heq2,← HOL.out]; simp only [List.length_append,List.length_cons,List.length_nil]; omega
       have hwi : (76 : Int) < (L : Int) + (v.length : Int) - (q : Int) := by omega
       have HQ := Lib.hid heq2
       clear ht heq2 hE hw
       go_wp2_with (first
        | (at_builtin; refine wpList_appM rfl (.tmp 68) (.tmp 69) _ _ rfl TU8 (hown.alloc (.cells #[bv 13,bv 10] 5)) rfl (Src_rv (news := [bv 13,bv 10]) Tryz.underlying22 rfl (Rv_new wr _ _ _ rfl) (by simp [Value.oneCell',bv]) (by omega)) rfl (by omega) (by simp; omega) ?_; intro v3 wb hownb hgr3 hat3; have hBb := below_appM (hB.alloc hs1 (.cells #[bv 13,bv 10] 5)) (hown.alloc _) hgr3 (by simp; omega) (Nat.le_refl _); have hs3 := hBb.size)
        | (at_builtin; refine wpList_appM rfl (.tmp 71) (.tmp 75) _ _ rfl TU8 (hownb.alloc (.cells #[bv c] 5)) rfl (Src_rv (news := [bv c]) Tryz.underlying22 rfl (Rv_new wb _ _ _ rfl) (by simp [Value.oneCell',bv]) (by omega)) rfl (by omega) (by simp; omega) ?_; intro v4 wc hownc hgr4 hat4; have hBc := below_appM (hBb.alloc hs3 (.cells #[bv c] 5)) (hownb.alloc _) hgr4 (by simp; omega) (Nat.le_refl _); have hs4 := hBc.size))
       go_roundw
       case rel => exact ⟨q + 1,N + 3,1,o ++ [13,10,c],by go_num,by go_num,by omega,by omega,hN2,HQ,own_eq hownc rfl (by simp),hBc⟩
       case measure => simp [intOf]; omega
      ·have ht := refTail_on (line := L) HC.out (.inr (fun k => hw (by have := k.2.2; rwa [hE] at this)))
       have heq2 : (o ++ [c]) ++ refTail v (L + 1) (q + 1) = foldF n v := by rw [← heq.out,ht]; simp
       have hN2 : N + 1 ≤ (foldF n v).length := by rw [← heq2,← HOL.out]; simp only [List.length_append,List.length_cons,List.length_nil]; omega
       have hwi : ¬ (76 : Int) < (L : Int) + (v.length : Int) - (q : Int) := by omega
       have HQ := Lib.hid heq2
       clear ht heq2 hE hw
       go_wp2_with (first
        | (at_builtin; refine wpList_appM rfl (.tmp 71) (.tmp 75) _ _ rfl TU8 (hown.alloc (.cells #[bv c] 5)) rfl (Src_rv (news := [bv c]) Tryz.underlying22 rfl (Rv_new wr _ _ _ rfl) (by simp [Value.oneCell',bv]) (by omega)) rfl (by omega) (by simp; omega) ?_; intro v3 wb hownb hgr3 hat3; have hBb := below_appM (hB.alloc hs1 (.cells #[bv c] 5)) (hown.alloc _) hgr3 (by simp; omega) (Nat.le_refl _); have hs3 := hBb.size))
       go_roundw
       case rel => exact ⟨q + 1,N + 1,L + 1,o ++ [c],by go_num,by go_num,by omega,by omega,hN2,HQ,own_eq hownb rfl (by simp),hBb⟩
       case measure => simp [intOf]; omega
   ·have ht := refTail_on (line := L) HC.out (by
     by_cases h0 : q = 0
     ·exact .inl h0
     ·exact .inr (fun k => hT ⟨by omega,k.1,k.2.1⟩))
    have heq2 : (o ++ [c]) ++ refTail v (L + 1) (q + 1) = foldF n v := by rw [← heq.out,ht]; simp
    have hN2 : N + 1 ≤ (foldF n v).length := by rw [← heq2,← HOL.out]; simp only [List.length_append,List.length_cons,List.length_nil]; omega
    have HQ := Lib.hid heq2
    clear ht heq2
    by_cases hq0 : 0 < q
    ·obtain ⟨p,hp⟩ : ∃ c,v[q - 1]? = some c := ⟨_,List.getElem?_eq_getElem (by omega)⟩
     have hj : ∀ W,(Instr.index 9 (.string (bs v)) (.int .i64 ((q : Int) - 1))).run Tryz.prog W = .ok (.int .u8 (p.toNat : Int)) W := by
      rw [show ((q : Int) - 1) = ((q - 1 : Nat) : Int) by omega]
      exact str_index (P := Tryz.prog) Tryz.underlying9 hp .i64
     have hcs : blk c = false ∨ (blk c = true ∧ blk p = true) := by
      cases hbc : blk c with
      | false => exact .inl rfl
      | true => cases hbp : blk p with
       | true => exact .inr ⟨rfl,rfl⟩
       | false => exact absurd ⟨hq0,hbc,p,hp,hbp⟩ hT
     clear hp hT
     rcases hcs with hbx | ⟨hbx,hby⟩
     ·have HBX := Lib.hid hbx
      have HBQ := HBX
      clear hbx
      go_wp2_with (first
       | (go_at_call 80; refine (rblank_any _ _).mono ?_; rintro e wz ⟨rfl,rfl⟩; first | rw [HBX.out] | rw [HBQ.out])
       | (at_builtin; refine wpList_appM rfl (.tmp 71) (.tmp 75) _ _ rfl TU8 (hown.alloc (.cells #[bv c] 5)) rfl (Src_rv (news := [bv c]) Tryz.underlying22 rfl (Rv_new wo _ _ _ rfl) (by simp [Value.oneCell',bv]) (by omega)) rfl (by omega) (by simp; omega) ?_; intro v3 wb hownb hgr3 hat3; have hBb := below_appM (hB.alloc hs1 (.cells #[bv c] 5)) (hown.alloc _) hgr3 (by simp; omega) (Nat.le_refl _); have hs3 := hBb.size))
      go_roundw
      case rel => exact ⟨q + 1,N + 1,L + 1,o ++ [c],by go_num,by go_num,by omega,by omega,hN2,HQ,own_eq hownb rfl (by simp),hBb⟩
      case measure => simp [intOf]; omega
     ·have HBX := Lib.hid hbx
      have HBQ := Lib.hid hby
      clear hbx hby
      go_wp2_with (first
       | (go_at_call 80; refine (rblank_any _ _).mono ?_; rintro e wz ⟨rfl,rfl⟩; first | rw [HBX.out] | rw [HBQ.out])
       | (at_builtin; refine wpList_appM rfl (.tmp 71) (.tmp 75) _ _ rfl TU8 (hown.alloc (.cells #[bv c] 5)) rfl (Src_rv (news := [bv c]) Tryz.underlying22 rfl (Rv_new wo _ _ _ rfl) (by simp [Value.oneCell',bv]) (by omega)) rfl (by omega) (by simp; omega) ?_; intro v3 wb hownb hgr3 hat3; have hBb := below_appM (hB.alloc hs1 (.cells #[bv c] 5)) (hown.alloc _) hgr3 (by simp; omega) (Nat.le_refl _); have hs3 := hBb.size))
      go_roundw
      case rel => exact ⟨q + 1,N + 1,L + 1,o ++ [c],by go_num,by go_num,by omega,by omega,hN2,HQ,own_eq hownb rfl (by simp),hBb⟩
      case measure => simp [intOf]; omega
    ·clear hT
     go_wp2_with (at_builtin; refine wpList_appM rfl (.tmp 71) (.tmp 75) _ _ rfl TU8 (hown.alloc (.cells #[bv c] 5)) rfl (Src_rv (news := [bv c]) Tryz.underlying22 rfl (Rv_new wo _ _ _ rfl) (by simp [Value.oneCell',bv]) (by omega)) rfl (by omega) (by simp; omega) ?_; intro v3 wb hownb hgr3 hat3; have hBb := below_appM (hB.alloc hs1 (.cells #[bv c] 5)) (hown.alloc _) hgr3 (by simp; omega) (Nat.le_refl _); have hs3 := hBb.size)
     go_roundw
     case rel => exact ⟨q + 1,N + 1,L + 1,o ++ [c],by go_num,by go_num,by omega,by omega,hN2,HQ,own_eq hownb rfl (by simp),hBb⟩
     case measure => simp [intOf]; omega
  ·obtain rfl : q = v.length := by omega
   have hend : o ++ [13,10] = foldF n v := by rw [← heq.out,refTail_end rfl]
   have hN2 : N + 2 = (foldF n v).length := by rw [← hend,← HOL.out]; simp
   have HQ := Lib.hid hend
   clear hend
   go_wp2_with (at_builtin; refine wpList_appM rfl (.tmp 79) (.tmp 80) _ _ rfl TU8 (hown.alloc (.cells #[bv 13,bv 10] 5)) rfl (Src_rv (news := [bv 13,bv 10]) Tryz.underlying22 rfl (Rv_new wo _ _ _ rfl) (by simp [Value.oneCell',bv]) (by omega)) rfl (by omega) (by simp; omega) ?_; intro v3 wb hownb hgr3 hat3; have hBb := below_appM (hB.alloc hs1 (.cells #[bv 13,bv 10] 5)) (hown.alloc _) hgr3 (by simp; omega) (Nat.le_refl _))
   go_ret
   exact ⟨⟨_,rfl,own_eq hownb hN2 (by rw [← HQ.out,List.map_append]; rfl)⟩,hBb⟩
end Fd
end
section
open Go.RowKit
namespace Fd
theorem foldAll_sn (fs : List (List UInt8 × List UInt8)) (p : List UInt8 × List UInt8) : foldAll (fs ++ [p]) = foldAll fs ++ foldF p.1 p.2 := by
 unfold foldAll
 simp
theorem foldAll_take (fs : List (List UInt8 × List UInt8)) (k : Nat) : (foldAll (fs.take k)).length ≤ (foldAll fs).length := by
 have h : foldAll fs = foldAll (fs.take k) ++ foldAll (fs.drop k) := by
  unfold foldAll
  rw [← List.flatMap_append,List.take_append_drop]
 rw [h,List.length_append]
 omega
theorem right_at2 {fs : List (List UInt8 × List UInt8)} {k : Nat} {p : List UInt8 × List UInt8} (h : rightF fs = true) (hp : fs[k]? = some p) : nmOk p.1 = true ∧ vlOk p.2 = true := by
 unfold rightF at h
 rw [List.all_eq_true] at h
 have := h p (List.mem_of_getElem? hp)
 rw [Bool.and_eq_true] at this
 exact this
theorem rlw_any (A A2 : Option Addr) (fs : List (List UInt8 × List UInt8)) (bd : List UInt8) (n c n2 c2 : Nat) (w : World) (hn : fs.length = n) (hn2 : bd.length = n2) (hA : Rf w A fs) (hA2 : Rb w A2 bd)
  (hr : rightF fs = true) (hl : (foldAll fs).length ≤ 60000) (hb : n ≤ 200) (hb2 : n2 ≤ 1000000) :
  Calls Tryz.prog 18 #[.agg #[.slice A n c,.slice A2 n2 c2]] w fun e w' =>
   (∃ x,e = .returned (.tuple #[x,.int .i64 0]) ∧ w'.ownsRow w.heap.size 5 1 x (foldAll fs ++ [13,10] ++ bd).length ((foldAll fs ++ [13,10] ++ bd).map bv)) ∧ Below w.heap.size w w' := by
 have HN := Lib.hid hn
 have HN2 := Lib.hid hn2
 have HRT := Lib.hid hr
 have HLT := Lib.hid (fun k => foldAll_take fs k)
 obtain ⟨LL,hLL⟩ : ∃ LL,foldAll fs ++ [13,10] ++ bd = LL := ⟨_,rfl⟩
 have HLL := Lib.hid hLL
 rw [hLL]
 clear hn hn2 hr hLL
 have hB0 : Below w.heap.size w (w.alloc (.cells #[.slice A n c,.slice A2 n2 c2] 39)) := (Below.refl _ _).alloc (Nat.le_refl _) _
 have c00 : (w.alloc (.cells #[.slice A n c,.slice A2 n2 c2] 39)).cell? ⟨w.heap.size,0,none⟩ = some (.slice A n c) := by simp
 have c01 : (w.alloc (.cells #[.slice A n c,.slice A2 n2 c2] 39)).cell? ⟨w.heap.size,1,none⟩ = some (.slice A2 n2 c2) := by simp
 have hpu : ∀ W,Sem.run Tryz.prog (pure #[] : Sem (Array Value)) W = .ok #[] W := fun _ => rfl
 have hst : ∀ a W,Sem.run Tryz.prog (storeCells a []) W = .ok () W := fun _ _ => rfl
 go_enter Tryz.func18,Tryz.ntmps18
 go_wp2_with fail
 have hW0 : (w.alloc (.cells #[.slice A n c,.slice A2 n2 c2] 39)).heap.size = w.heap.size + 1 := by simp
 generalize w.alloc (.cells #[.slice A n c,.slice A2 n2 c2] 39) = W0 at *
 have hown0 := World.ownsRow_made (base := W0.heap.size) (e := 5) (size := 1) W0 #[] 0 (Nat.le_refl _) (by unfold maxLen; omega) rfl
 have hC0 : Below W0.heap.size W0 (W0.alloc (.cells #[] 5)) := (Below.refl _ _).alloc (Nat.le_refl _) _
 rw [hW0] at hown0 hC0
 obtain ⟨N1,hN1⟩ : ∃ N1,w.heap.size + 1 = N1 := ⟨_,rfl⟩
 rw [hN1] at hown0 hC0 ⊢
 have hs0 : w.heap.size ≤ N1 := by omega
 have hlt0 : w.heap.size < N1 := by omega
 have hNW : N1 ≤ W0.heap.size := by omega
 clear hW0 hN1
 go_loopw [4,5] (fun v i wr => ∃ k M : Nat,i = .int .i64 k ∧ k ≤ n ∧ M ≤ (foldAll fs).length ∧ Hid ((foldAll (fs.take k)).length = M) ∧ Hid (wr.ownsRow N1 5 1 v M ((foldAll (fs.take k)).map bv)) ∧ Below N1 W0 wr) (fun _ i _ => n - (intOf i).toNat)
 case atStart => exact ⟨0,0,rfl,by omega,by omega,Lib.hid rfl,Lib.hid hown0,hC0⟩
 case round =>
  rename_i s4
  obtain ⟨k,M,rfl,hk,hM,HL,HO,hC⟩ := hrel
  have hB : Below w.heap.size w wr := hB0.trans (hC.mono hs0)
  have hsC : N1 ≤ wr.heap.size := Nat.le_trans hNW hC.size
  obtain ⟨Ao,co,hov,_,_,_,_⟩ := own_form HO.out
  subst hov
  have hcr0 : wr.cell? ⟨w.heap.size,0,none⟩ = some (.slice A n c) := (hC.cell (p := ⟨w.heap.size,0,none⟩) hlt0).trans c00
  have hcr1 : wr.cell? ⟨w.heap.size,1,none⟩ = some (.slice A2 n2 c2) := (hC.cell (p := ⟨w.heap.size,1,none⟩) hlt0).trans c01
  by_cases hlt : k < n
  ·obtain ⟨b,o,p,rfl,hp,g0,g1⟩ := (hA.below hB).one (k := k) (by rw [HN.out]; exact hlt)
   obtain ⟨hq1,hq2⟩ := right_at2 HRT.out hp.out
   have l1 : p.1.length ≤ 9223372036854775807 := by
    unfold nmOk at hq1
    rw [Bool.and_eq_true,decide_eq_true_iff] at hq1
    omega
   have l2 : p.2.length ≤ 8192 := by
    unfold vlOk at hq2
    simp only [Bool.and_eq_true,decide_eq_true_iff] at hq2
    exact hq2.1.2
   have hrn := rname_any p.1 wr l1
   rw [hq1] at hrn
   have HQ1 := Lib.hid hq1
   clear hq1
   go_wp2_with fail
   refine hrn.mono ?_
   rintro e w2 ⟨rfl,hd2⟩
   have hD2 : Below wr.heap.size wr w2 := hd2.below _
   have j0 := (hD2.cell (cell_lt hcr0)).trans hcr0
   have j1 := (hD2.cell (cell_lt g0)).trans g0
   have j2 := (hD2.cell (cell_lt g1)).trans g1
   have hrv := rvalue_any p.2 w2 (by omega)
   rw [hq2] at hrv
   clear hq2
   have hnl : p.1.length ≤ 64 := by
    have h := HQ1.out
    unfold nmOk at h
    rw [Bool.and_eq_true,decide_eq_true_iff] at h
    exact h.2.2
   have hfo := Fd.foldF_len p.1 p.2
   have HST := Lib.hid (show foldAll (fs.take (k + 1)) = foldAll (fs.take k) ++ foldF p.1 p.2 by rw [take_succ_of hp.out,foldAll_sn])
   go_wp2_with fail
   refine hrv.mono ?_
   rintro e w3 ⟨rfl,hd3⟩
   have hD3 : Below wr.heap.size wr w3 := (hd2.below _).trans (hd3.below _)
   have i0 := (hD3.cell (cell_lt hcr0)).trans hcr0
   have i1 := (hD3.cell (cell_lt g0)).trans g0
   have i2 := (hD3.cell (cell_lt g1)).trans g1
   have hO3 := own_below HO.out hD3
   have hC3 : Below N1 W0 w3 := hC.trans (hD3.mono hsC)
   have hrf := Fd.rfold_any p.1 p.2 w3 (by omega) (by omega)
   unfold Fd.strv at hrf
   go_wp2_with fail
   refine hrf.mono ?_
   rintro e w4 ⟨⟨x,rfl,hx⟩,hb4⟩
   obtain ⟨XA,xc,rfl,hxc,_,hXR,_⟩ := hx.form
   have hXRb : Rb w4 XA (foldF p.1 p.2) := hXR
   have hC4 := hC3.trans (hb4.mono (Nat.le_trans hsC hD3.size))
   have hs4 : N1 ≤ w4.heap.size := Nat.le_trans hNW hC4.size
   have hO4 := own_below hO3 hb4
   obtain ⟨ff,hff⟩ : ∃ ff,foldF p.1 p.2 = ff := ⟨_,rfl⟩
   rw [hff] at hXRb hfo ⊢
   have HFF := Lib.hid hff
   obtain ⟨fn,hfn⟩ : ∃ fn,ff.length = fn := ⟨_,rfl⟩
   have HFN := Lib.hid hfn
   rw [hfn] at hfo ⊢
   clear hx hXR hff hfn hrf hO3
   go_wp2_with (at_builtin; refine wpList_app rfl (.tmp 32) (.tmp 38) _ _ rfl TU8 hO4 rfl (Src_rb Tryz.underlying22 HFN.out hXRb) rfl (by omega) hs4 ?_; intro v6 w6 hown6 hgr6 hat6; have hB6 := below_app hC4 hO4 hgr6 hs4 (Nat.le_refl _))
   go_roundw
   case rel => exact ⟨k + 1,M + fn,by go_num,by omega,by have h := HLT.out (k + 1); rw [HST.out,List.length_append,HL.out,HFF.out,HFN.out] at h; exact h,Lib.hid (by rw [HST.out,List.length_append,HL.out,HFF.out,HFN.out]),Lib.hid (by rw [HST.out,List.map_append,HFF.out]; exact hown6),hB6⟩
   case measure => simp [intOf]; omega
  ·obtain rfl : k = n := by omega
   have hfa : fs.take k = fs := List.take_of_length_le (by rw [HN.out]; exact Nat.le_refl _)
   rw [hfa] at HL HO
   clear hfa
   have hMb : M ≤ 60000 := by omega
   have hOA := HO.out.alloc (.cells #[.int .u8 13,.int .u8 10] 5)
   have hCA : Below N1 W0 (wr.alloc (.cells #[.int .u8 13,.int .u8 10] 5)) := hC.alloc hsC _
   have hsA : N1 ≤ (wr.alloc (.cells #[.int .u8 13,.int .u8 10] 5)).heap.size := by simp; omega
   have hsrc : Src Tryz.prog 1 22 (.slice (some ⟨wr.heap.size,0,none⟩) 2 2) 2 ([13,10].map bv) (wr.alloc (.cells #[.int .u8 13,.int .u8 10] 5)) := Src_rb Tryz.underlying22 rfl (by have h := Rb_new wr [13,10] 5 #[.int .u8 13,.int .u8 10] rfl 2; exact h)
   have hk20 : k ≤ 200 := hb
   have h200 : ¬ (200 : Int) < (k : Int) := by omega
   have h65 : ¬ (65536 : Int) < (M : Int) + 2 := by omega
   have h20 : ¬ (2097152 : Int) < (M : Int) + 2 + (n2 : Int) := by omega
   go_wp2_with (first
    | (at_builtin; refine wpList_app rfl (.tmp 40) (.tmp 41) _ _ rfl TU8 hOA rfl hsrc rfl (by omega) hsA ?_; intro v6 w6 hown6 hgr6 hat6; have hB6 := below_app hCA hOA hgr6 hsA (Nat.le_refl _); obtain ⟨A6,c6,hv6,_,_,_,_⟩ := own_form hown6; subst hv6; have hs6 : N1 ≤ w6.heap.size := Nat.le_trans hNW hB6.size; have hcr6 : w6.cell? ⟨w.heap.size,0,none⟩ = some (.slice A k c) := (hB6.cell (p := ⟨w.heap.size,0,none⟩) hlt0).trans c00; have hcr7 : w6.cell? ⟨w.heap.size,1,none⟩ = some (.slice A2 n2 c2) := (hB6.cell (p := ⟨w.heap.size,1,none⟩) hlt0).trans c01; have hsr2 : Src Tryz.prog 1 22 (.slice A2 n2 c2) n2 (bd.map bv) w6 := Src_rb Tryz.underlying22 HN2.out (hA2.below (hB0.trans (hB6.mono hs0))))
    | (at_builtin; refine wpList_app rfl (.tmp 61) (.tmp 63) _ _ rfl TU8 hown6 rfl hsr2 rfl (by omega) hs6 ?_; intro v7 w7 hown7 hgr7 hat7; have hB7 := below_app hB6 hown6 hgr7 hs6 (Nat.le_refl _)))
   go_ret2
   refine ⟨⟨_,rfl,?_⟩,hB0.trans (hB7.mono hs0)⟩
   have e1 : LL.length = M + 2 + n2 := by rw [← HLL.out,List.length_append,List.length_append,HL.out,HN2.out]; rfl
   have e2 : LL.map bv = (foldAll fs).map bv ++ [13,10].map bv ++ bd.map bv := by rw [← HLL.out,List.map_append,List.map_append]
   rw [e1,e2]
   exact own_base hown7 hs0
end Fd
end
end Go.Proofs.YtkllecicddfjpaaGreatDoor
