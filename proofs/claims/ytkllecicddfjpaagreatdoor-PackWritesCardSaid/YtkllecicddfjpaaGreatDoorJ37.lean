/- The walk of the law, part 37. -/
import Derived.Test.YtkllecicddfjpaaGreatDoorJ23
import Derived.Test.YtkllecicddfjpaaGreatDoorJ02
import Derived.Test.YtkllecicddfjpaaGreatDoorJ18
import Derived.Test.YtkllecicddfjpaaGreatDoorJ33
set_option maxRecDepth 100000
set_option maxHeartbeats 16000000
set_option linter.unusedVariables false
set_option linter.unusedSimpArgs false
namespace Go.Proofs.YtkllecicddfjpaaGreatDoor
section
namespace Ar
open Go.RowKit
def spc (sp : List (Nat × Nat)) : List Value := sp.flatMap fun p => [.int .i64 (p.1 : Int),.int .i64 (p.2 : Int)]
def pcs (l : List UInt8) (p : Nat × Nat) : List UInt8 := (l.drop p.1).take (p.2 - p.1)
def opn (l : List UInt8) (st : Int) (q : Nat) : List UInt8 := if st < 0 then [] else (l.drop st.toNat).take (q - st.toNat)
theorem take_mid (l : List UInt8) (a q K : Nat) (h : a ≤ q) : (l.drop a).take (q + K - a) = (l.drop a).take (q - a) ++ (l.drop q).take K := by
 have e : q + K - a = (q - a) + K := by omega
 rw [e,List.take_add,List.drop_drop]
 congr 3
 omega
theorem TSp : ElT Tryz.prog 184 188 2 16 := ElT.mk' (z := .agg #[.int .i64 0,.int .i64 0]) Tryz.underlying184 (by omega) (by omega) rfl (by kernel_rfl)
def pcv (A : Option Addr) (p : Nat × Nat) : Value := match A with
 | some ⟨b,o,_⟩ => .slice (some ⟨b,o + p.1,none⟩) (p.2 - p.1 : Nat) (p.2 - p.1 : Nat)
 | none => .slice none 0 0
theorem spc_at {sp : List (Nat × Nat)} {k : Nat} {p : Nat × Nat} (h : sp[k]? = some p) : (spc sp)[k * 2]? = some (.int .i64 (p.1 : Int)) ∧ (spc sp)[k * 2 + 1]? = some (.int .i64 (p.2 : Int)) := by
 induction sp generalizing k with
 | nil => simp at h
 | cons a sp ih =>
   have e : spc (a :: sp) = [.int .i64 (a.1 : Int),.int .i64 (a.2 : Int)] ++ spc sp := rfl
   rcases k with _ | k
   ·simp at h
    subst h
    simp [e]
   ·simp at h
    have := ih h
    have e2 : (k + 1) * 2 = k * 2 + 1 + 1 := by omega
    rw [e2]
    simpa [e] using this
theorem parts_of {w : World} {g e : Nat} {A : Option Addr} {l : List UInt8} {n : Nat} {sp : List (Nat × Nat)} (hn : l.length = n) (hr : Row w g e (sp.map (pcv A))) (hA : Rb w A l) (ha : ∀ p ∈ sp,p.1 < p.2 ∧ p.2 ≤ n) :
 Lib.PartsAt w ⟨g,0,none⟩ (sp.map (pcv A)) (sp.map (pcs l)) := by
 have pl : ∀ (b o j : Nat),(⟨b,o,none⟩ : Addr).add j = ⟨b,o + j,none⟩ := fun b o j => by unfold Addr.add; split <;> simp_all
 refine ⟨by simp,fun i v hv => ?_,fun i v x hv hx => ?_⟩
 ·rw [pl,Nat.zero_add]
  exact hr.cell hv
 ·simp only [List.getElem?_map,Option.map_eq_some_iff] at hv hx
  obtain ⟨p,hp,rfl⟩ := hv
  obtain ⟨p',hp',rfl⟩ := hx
  obtain rfl : p = p' := by rw [hp] at hp'; exact Option.some.inj hp'
  have hpm := ha p (List.mem_of_getElem? hp)
  obtain ⟨b,o,e,hc⟩ := hA (by simp; omega)
  subst e
  have hlen : (pcs l p).length = p.2 - p.1 := by simp [pcs]; omega
  refine ⟨some ⟨b,o + p.1,none⟩,p.2 - p.1,by rw [hlen]; rfl,by simp,?_⟩
  rintro a' ea j x hj
  cases ea
  rw [pl,Nat.add_assoc]
  refine hc (p.1 + j) (bv x) ?_
  rw [pcs,List.getElem?_take] at hj
  split at hj
  ·rw [List.getElem?_drop] at hj
   rw [List.getElem?_map,hj]
   rfl
  ·simp at hj
theorem TSB : ElT Tryz.prog 66 22 1 24 := ElT.mk' (z := .slice none 0 0) Tryz.underlying66 (by omega) (by omega) rfl (by kernel_rfl)
theorem fields_any (A : Option Addr) (l : List UInt8) (n c : Nat) (w : World) (hT : Lib.Utf8Tabs 2 3 w) (hn : l.length = n) (hA : Rb w A l) (hnc : n ≤ c) (hb : n ≤ 1000000000) :
 Calls Tryz.prog 92 #[.slice A n c,.func (.func 93) #[] #[]] w fun e w' => (∃ g vs ls c',e = .returned (.slice (some ⟨g,0,none⟩) ls.length c') ∧ ls.length ≤ c' ∧ ls.length ≤ n + 1 ∧ Lib.PartsAt w' ⟨g,0,none⟩ vs ls ∧ ls.flatten = nob l) ∧ Below w.heap.size w w' := by
 have HN := Lib.hid hn
 clear hn
 obtain ⟨X,hX,hmk⟩ := make0 (P := Tryz.prog) (t := 184) (e := 188) TSp.und (TSp.ex.choose_spec.choose_spec.1) (TSp.ex.choose_spec.choose_spec.2.1) (TSp.ex.choose_spec.choose_spec.2.2.1) (TSp.ex.choose_spec.choose_spec.2.2.2.1) (TSp.ex.choose_spec.choose_spec.2.2.2.2) .i64 .i64 32 32 rfl (by omega) (by omega)
 have HX := Lib.hid hX
 clear hX
 go_enter Tryz.func92,Tryz.ntmps92
 have hown0 := World.ownsRow_made (base := w.heap.size) (e := 188) (size := 2) w X 32 (Nat.le_refl _) (by unfold maxLen; omega) HX.out
 go_wp2_with fail
 go_loopw [5,6,7] (fun v s i wr => ∃ (q : Nat) (st : Int) (sp : List (Nat × Nat)),i = .int .i64 q ∧ s = .int .i64 st ∧ q ≤ n ∧ -1 ≤ st ∧ st < q ∧ wr.ownsRow w.heap.size 188 2 v sp.length (spc sp) ∧ Below w.heap.size w wr ∧
  (∀ p ∈ sp,p.1 < p.2 ∧ p.2 ≤ n) ∧ (sp.map (pcs l)).flatten ++ opn l st q = nob (l.take q) ∧ sp.length ≤ q) (fun _ _ i _ => n - (intOf i).toNat)
 case atStart => exact ⟨0,-1,[],rfl,rfl,by omega,by omega,by omega,hown0,(Below.refl _ _).alloc (Nat.le_refl _) _,by simp,rfl,by simp⟩
 case round =>
  obtain ⟨q,st,sp,rfl,rfl,hqn,hst1,hst2,hown,hB,hall,hpc,hspl⟩ := hrel
  have HALL := Lib.hid hall
  have HPC := Lib.hid hpc
  clear hall hpc hown0
  obtain ⟨wo,rfl⟩ : ∃ wo : World,wo = wr := ⟨_,rfl⟩
  by_cases hlt : q < n
  ·obtain ⟨b,o,x,rfl,_,_⟩ := hA.one (k := q) (by rw [HN.out]; exact hlt)
   have hAq : Rb wo (some ⟨b,o + q,none⟩) (l.drop q) := (hA.below hB).drop q
   have hdl : (l.drop q).length = n - q := by rw [List.length_drop,HN.out]
   have HDL := Lib.hid hdl
   clear hdl
   go_wp2_with fail
   refine (rune_any _ _ _ (l.drop q) _ _ (tabs_below hT hB) HDL.out (by omega) hAq).mono ?_
   rintro e w1 ⟨⟨R,K,rfl,hK1,hK2,hR,hbl,hnbl⟩,hb1⟩
   have HBL := Lib.hid hbl
   have HNBL := Lib.hid hnbl
   clear hbl hnbl
   have hown1 := own_below hown hb1
   have hB1 := hB.trans (hb1.mono hB.size)
   have hs1 := hB1.size
   have hblank := blank_any R w1 hR
   have hcut : l.take (q + K) = l.take q ++ (l.drop q).take K := List.take_add
   have HCUT := Lib.hid hcut
   clear hcut
   rcases Bool.eq_false_or_eq_true (isb R) with hi | hi
   ·rw [hi] at hblank
    have HI := Lib.hid hi
    have HB := Lib.hid hblank
    clear hi hblank
    have e1 : nob (l.take (q + K)) = nob (l.take q) := by rw [HCUT.out,nob_append,HBL.out HI.out,List.append_nil]
    have E1 := Lib.hid e1
    clear e1
    rcases (by omega : st = -1 ∨ 0 ≤ st) with rfl | h0
    ·go_wp2_with fail
     refine HB.out.mono ?_
     rintro e w' ⟨rfl,rfl⟩
     go_wp2
     go_roundw
     case rel => exact ⟨q + K,-1,sp,by go_num,rfl,by omega,by omega,by omega,hown1,hB1,HALL.out,by rw [E1.out,← HPC.out]; rfl,by omega⟩
     case measure => simp [intOf]; omega
    ·obtain ⟨a,rfl⟩ := Int.eq_ofNat_of_zero_le h0
     go_wp2_with fail
     refine HB.out.mono ?_
     rintro e w' ⟨rfl,rfl⟩
     have hsrc : Src Tryz.prog 2 184 (.slice (some ⟨w1.heap.size,0,none⟩) 1 1) 1 [.int .i64 (a : Int),.int .i64 (q : Int)] (w1.alloc (.cells #[.int .i64 (a : Int),.int .i64 (q : Int)] 188)) :=
      Src_rv TSp.und rfl (Rv_new w1 _ _ _ rfl) (by simp [Value.oneCell']) (by omega)
     go_wp2_with (at_builtin; refine wpList_app rfl (.tmp 30) (.tmp 34) _ _ rfl TSp (hown1.alloc _) rfl hsrc rfl (by omega) (by simp; omega) ?_; intro v2 w2 hown2 hgr2 hat2)
     have hB2 := below_app (hB1.alloc hs1 (.cells #[.int .i64 (a : Int),.int .i64 (q : Int)] 188)) (hown1.alloc _) hgr2 (by simp; omega) (Nat.le_refl _)
     have hown3 : w2.ownsRow w.heap.size 188 2 v2 (sp ++ [(a,q)]).length (spc (sp ++ [(a,q)])) := by
      have e : spc (sp ++ [(a,q)]) = spc sp ++ [.int .i64 (a : Int),.int .i64 (q : Int)] := by simp [spc]
      rw [e,List.length_append]
      exact hown2
     go_roundw
     case rel =>
      refine ⟨q + K,-1,sp ++ [(a,q)],by go_num,rfl,by omega,by omega,by omega,hown3,hB2,fun p hp => ?_,?_,by simp; omega⟩
      ·rcases List.mem_append.1 hp with h | h
       ·exact HALL.out p h
       ·simp at h
        subst h
        exact ⟨by simp; omega,by simp; omega⟩
      ·rw [E1.out,← HPC.out]
       simp [opn,pcs,show ¬ ((a : Int) < 0) from by omega]
     case measure => simp [intOf]; omega
   ·rw [hi] at hblank
    have HI := Lib.hid hi
    have HB := Lib.hid hblank
    clear hi hblank
    have e1 : nob (l.take (q + K)) = nob (l.take q) ++ (l.drop q).take K := by rw [HCUT.out,nob_append,HNBL.out HI.out]
    have E1 := Lib.hid e1
    clear e1
    rcases (by omega : st = -1 ∨ 0 ≤ st) with rfl | h0
    ·go_wp2_with fail
     refine HB.out.mono ?_
     rintro e w' ⟨rfl,rfl⟩
     go_wp2
     go_roundw
     case rel => exact ⟨q + K,q,sp,by go_num,rfl,by omega,by omega,by omega,hown1,hB1,HALL.out,by rw [E1.out,← HPC.out]; simp [opn,show ¬ ((q : Int) < 0) from by omega],by omega⟩
     case measure => simp [intOf]; omega
    ·obtain ⟨a,rfl⟩ := Int.eq_ofNat_of_zero_le h0
     go_wp2_with fail
     refine HB.out.mono ?_
     rintro e w' ⟨rfl,rfl⟩
     go_wp2
     go_roundw
     case rel => exact ⟨q + K,a,sp,by go_num,rfl,by omega,by omega,by omega,hown1,hB1,HALL.out,by
      rw [E1.out,← HPC.out]
      simp only [opn,show ¬ ((a : Int) < 0) from by omega,if_false,Int.toNat_natCast]
      rw [take_mid l a q K (by omega),List.append_assoc],by omega⟩
     case measure => simp [intOf]; omega
  ·have hqe : q = n := by omega
   subst hqe
   clear hlt
   have htn : l.take q = l := take_all l (by rw [HN.out]; omega)
   have HTN := Lib.hid htn
   clear htn
   rcases (by omega : st = -1 ∨ 0 ≤ st) with rfl | h0
   ·have hpf : (sp.map (pcs l)).flatten = nob l := by rw [← HTN.out,← HPC.out]; simp [opn,HTN.out]
    have HPF := Lib.hid hpf
    clear hpf
    obtain ⟨A5,c5,rfl,hc5,hc5m,hR5,hl5⟩ := own_form hown
    obtain ⟨w4,rfl⟩ : ∃ w4 : World,w4 = wo := ⟨_,rfl⟩
    have hsq : sp.length ≤ 2 * q + 2 := by omega
    obtain ⟨XM,hXM,hmk2⟩ := makeN (P := Tryz.prog) (t := 66) (e := 22) (by first | rfl | exact Tryz.underlying66) (TSB.ex.choose_spec.choose_spec.1) (TSB.ex.choose_spec.choose_spec.2.1) (TSB.ex.choose_spec.choose_spec.2.2.1) (TSB.ex.choose_spec.choose_spec.2.2.2.1) .i64 .i64 sp.length (by omega) (by omega)
    have HXM := Lib.hid hXM
    clear hXM
    go_wp2_with fail
    have hrow0 := Row.new w4 XM 22
    have hb40 : Below w4.heap.size w4 (w4.alloc (.cells XM 22)) := (Below.refl _ _).alloc (Nat.le_refl _) _
    go_loopw [56] (fun i wr => ∃ k : Nat,i = .int .i64 k ∧ k ≤ sp.length ∧ Row wr w4.heap.size 22 ((sp.take k).map (pcv A) ++ XM.toList.drop k) ∧ Below w4.heap.size w4 wr) (fun i _ => sp.length - (intOf i).toNat)
    case atStart => exact ⟨0,rfl,by omega,by simpa using hrow0,hb40⟩
    case round =>
     obtain ⟨k,rfl,hk,hrow,hbr⟩ := hrel
     by_cases hlt : k < sp.length
     ·obtain ⟨p,hp⟩ : ∃ p,sp[k]? = some p := ⟨_,List.getElem?_eq_getElem hlt⟩
      have hpm := HALL.out p (List.mem_of_getElem? hp)
      have hs := spc_at hp
      have hR5k := hR5
      obtain ⟨b5,o5,rfl,h5⟩ := hR5 (by rw [hl5]; omega)
      have h51 := h5 _ _ hs.1
      have h52 := h5 _ _ hs.2
      have hc1 := (hbr.cell (p := ⟨b5,o5 + k * 2,none⟩) (cell_lt h51)).trans h51
      have hc2 := (hbr.cell (p := ⟨b5,o5 + (k * 2 + 1),none⟩) (cell_lt h52)).trans h52
      obtain ⟨b,o,x,rfl,_,_⟩ := hA.one (k := p.1) (by rw [HN.out]; omega)
      have HP := Lib.hid hp
      clear hp hs h5 h51 h52
      obtain ⟨p1,p2⟩ := p
      simp only at hpm hc1 hc2
      rw [← Nat.add_assoc] at hc2
      have hcg : ∃ u,((sp.take k).map (pcv (some ⟨b,o,none⟩)) ++ XM.toList.drop k)[k]? = some u := by
       refine ⟨_,List.getElem?_eq_getElem ?_⟩
       simp [HXM.out]; omega
      obtain ⟨u,hcg⟩ := hcg
      have HCG := Lib.hid hcg
      clear hcg
      have hra := hrow.alloc (.cells #[.int .i64 (p1 : Int),.int .i64 (p2 : Int)] 188)
      have hcell := hra.cell HCG.out
      have hfr := hra.frozen k
      have hne : wr.heap.size ≠ w4.heap.size := by have := hrow.lt; omega
      go_wp2_with fail
      go_roundw
      case rel =>
       refine ⟨k + 1,by go_num,by omega,?_,?_⟩
       ·rw [← set_step (pcv (some ⟨b,o,none⟩)) HP.out (by simpa using HXM.out)]
        exact hra.set k _
       ·exact (hbr.alloc hbr.size _).setCell (p := ⟨w4.heap.size,k,none⟩) (Nat.le_refl _) _
      case measure => simp [intOf]; omega
     ·have hke : k = sp.length := by omega
      subst hke
      go_wp2_with fail
      go_ret
      rw [List.take_length,List.drop_eq_nil_of_le (by simp [HXM.out]),List.append_nil] at hrow
      have hl : (sp.map (pcs l)).length = sp.length := by simp
      refine ⟨⟨w4.heap.size,sp.map (pcv A),sp.map (pcs l),sp.length,by rw [hl]; rfl,by rw [hl]; omega,by rw [hl]; omega,parts_of HN.out hrow (hA.below (hB.trans (hbr.mono hB.size))) HALL.out,HPF.out⟩,hB.trans (hbr.mono hB.size)⟩
   ·obtain ⟨a,rfl⟩ := Int.eq_ofNat_of_zero_le h0
    have hown5 := hown
    obtain ⟨w4,rfl⟩ : ∃ w4 : World,w4 = wo := ⟨_,rfl⟩
    have hsrc : Src Tryz.prog 2 184 (.slice (some ⟨w4.heap.size,0,none⟩) 1 1) 1 [.int .i64 (a : Int),.int .i64 (q : Int)] (w4.alloc (.cells #[.int .i64 (a : Int),.int .i64 (q : Int)] 188)) :=
     Src_rv TSp.und rfl (Rv_new w4 _ _ _ rfl) (by simp [Value.oneCell']) (by omega)
    have hs4 := hB.size
    obtain ⟨sq,hsq⟩ : ∃ sq,sp ++ [(a,q)] = sq := ⟨_,rfl⟩
    have hql : sq.length = sp.length + 1 := by rw [← hsq]; simp
    have hall2 : ∀ p ∈ sq,p.1 < p.2 ∧ p.2 ≤ q := by
     rw [← hsq]
     intro p hp
     rcases List.mem_append.1 hp with h | h
     ·exact HALL.out p h
     ·simp at h
      subst h
      exact ⟨by simp; omega,by simp⟩
    have hpf : (sq.map (pcs l)).flatten = nob l := by
     rw [← hsq]
     have := HPC.out
     rw [HTN.out] at this
     rw [← this]
     simp [opn,pcs,show ¬ ((a : Int) < 0) from by omega]
    have hcs : spc sq = spc sp ++ [.int .i64 (a : Int),.int .i64 (q : Int)] := by rw [← hsq]; simp [spc]
    have HALL2 := Lib.hid hall2
    have HPF := Lib.hid hpf
    have HCS := Lib.hid hcs
    have HQL := Lib.hid hql
    have hql1 : sq.length ≤ q + 1 := by omega
    clear hall2 hpf hcs hsq hql
    go_wp2_with (at_builtin; refine wpList_app rfl (.tmp 44) (.tmp 49) _ _ rfl TSp (hown.alloc _) rfl hsrc rfl (by omega) (by simp; omega) ?_; intro v2 w2 hown2 hgr2 hat2; have hB2 := below_app (hB.alloc hs4 (.cells #[.int .i64 (a : Int),.int .i64 (q : Int)] 188)) (hown.alloc _) hgr2 (by simp; omega) (Nat.le_refl _); rw [← HCS.out,← HQL.out] at hown2; obtain ⟨A5,c5,rfl,hc5,hc5m,hR6,hl6⟩ := own_form hown2; obtain ⟨XM,hXM,hmk2⟩ := makeN (P := Tryz.prog) (t := 66) (e := 22) (by first | rfl | exact Tryz.underlying66) (TSB.ex.choose_spec.choose_spec.1) (TSB.ex.choose_spec.choose_spec.2.1) (TSB.ex.choose_spec.choose_spec.2.2.1) (TSB.ex.choose_spec.choose_spec.2.2.2.1) .i64 .i64 sq.length (by omega) (by omega); have HXM := Lib.hid hXM; clear hXM)
    have hrow0 := Row.new w2 XM 22
    have hb20 : Below w2.heap.size w2 (w2.alloc (.cells XM 22)) := (Below.refl _ _).alloc (Nat.le_refl _) _
    go_loopw [56] (fun i wr => ∃ k : Nat,i = .int .i64 k ∧ k ≤ sq.length ∧ Row wr w2.heap.size 22 ((sq.take k).map (pcv A) ++ XM.toList.drop k) ∧ Below w2.heap.size w2 wr) (fun i _ => sq.length - (intOf i).toNat)
    case atStart => exact ⟨0,rfl,by omega,by simpa using hrow0,hb20⟩
    case round =>
     obtain ⟨k,rfl,hk,hrow,hbr⟩ := hrel
     by_cases hlt : k < sq.length
     ·obtain ⟨p,hp⟩ : ∃ p,sq[k]? = some p := ⟨_,List.getElem?_eq_getElem hlt⟩
      have hpm := HALL2.out p (List.mem_of_getElem? hp)
      have hs := spc_at hp
      have hR6k := hR6
      obtain ⟨b5,o5,rfl,h5⟩ := hR6 (by rw [hl6]; omega)
      have h51 := h5 _ _ hs.1
      have h52 := h5 _ _ hs.2
      have hc1 := (hbr.cell (p := ⟨b5,o5 + k * 2,none⟩) (cell_lt h51)).trans h51
      have hc2 := (hbr.cell (p := ⟨b5,o5 + (k * 2 + 1),none⟩) (cell_lt h52)).trans h52
      obtain ⟨b,o,x,rfl,_,_⟩ := hA.one (k := p.1) (by rw [HN.out]; omega)
      have HP := Lib.hid hp
      clear hp hs h5 h51 h52
      obtain ⟨p1,p2⟩ := p
      simp only at hpm hc1 hc2
      rw [← Nat.add_assoc] at hc2
      have hcg : ∃ u,((sq.take k).map (pcv (some ⟨b,o,none⟩)) ++ XM.toList.drop k)[k]? = some u := by
       refine ⟨_,List.getElem?_eq_getElem ?_⟩
       simp [HXM.out]; omega
      obtain ⟨u,hcg⟩ := hcg
      have HCG := Lib.hid hcg
      clear hcg
      have hra := hrow.alloc (.cells #[.int .i64 (p1 : Int),.int .i64 (p2 : Int)] 188)
      have hcell := hra.cell HCG.out
      have hfr := hra.frozen k
      have hne : wr.heap.size ≠ w2.heap.size := by have := hrow.lt; omega
      go_wp2_with fail
      go_roundw
      case rel =>
       refine ⟨k + 1,by go_num,by omega,?_,?_⟩
       ·rw [← set_step (pcv (some ⟨b,o,none⟩)) HP.out (by simpa using HXM.out)]
        exact hra.set k _
       ·exact (hbr.alloc hbr.size _).setCell (p := ⟨w2.heap.size,k,none⟩) (Nat.le_refl _) _
      case measure => simp [intOf]; omega
     ·have hke : k = sq.length := by omega
      subst hke
      go_wp2_with fail
      go_ret
      rw [List.take_length,List.drop_eq_nil_of_le (by simp [HXM.out]),List.append_nil] at hrow
      have hl : (sq.map (pcs l)).length = sq.length := by simp
      refine ⟨⟨w2.heap.size,sq.map (pcv A),sq.map (pcs l),sq.length,by rw [hl]; rfl,by rw [hl]; omega,by rw [hl]; omega,parts_of HN.out hrow (hA.below (hB2.trans (hbr.mono hB2.size))) HALL2.out,HPF.out⟩,hB2.trans (hbr.mono hB2.size)⟩
end Ar
end
section
namespace Ar
open Go.RowKit
theorem Rb_fresh {B : Nat} {w : World} {v : Value} {l : List UInt8} (h : Lib.FreshBytes B w v l) : ∃ A c,v = .slice A l.length c ∧ l.length ≤ c ∧ Rb w A l := by
 obtain ⟨g,cap,zs,rfl,hg,hlc,hcm,hz,hzb,hl,hc,hf⟩ := h
 refine ⟨_,cap,rfl,hlc,fun hp => ⟨g,0,rfl,fun j v hj => ?_⟩⟩
 have hlt := lt_of_get hj
 simp only [List.length_map] at hlt
 rw [Nat.zero_add,hc j (by omega),← hj]
 have hjz : j < (zs.take l.length).length := by simp; omega
 have hb := hzb (zs.getD j 0) (by rw [List.getD_eq_getElem?_getD,List.getElem?_eq_getElem (by omega : j < zs.length)]; exact List.getElem_mem _)
 have hz' : zs.getD j 0 = zs[j]'(by omega) := by rw [List.getD_eq_getElem?_getD,List.getElem?_eq_getElem (by omega : j < zs.length)]; rfl
 have e : l[j]? = some (UInt8.ofNat (zs.getD j 0).toNat) := by
  rw [hz']
  have h1 : (Lib.bytesOf (zs.take l.length))[j]? = l[j]? := by rw [hl]
  rw [← h1]
  simp [Lib.bytesOf,hlt,List.getElem?_eq_getElem (by omega : j < zs.length)]
 rw [List.getElem?_map,e]
 simp only [Option.map_some,bv]
 rw [UInt8.toNat_ofNat']
 congr 2
 omega
theorem join_flat (ls : List (List UInt8)) : Lib.join ls [] = ls.flatten := by
 rcases ls with _ | ⟨x,r⟩
 ·rfl
 ·rw [Lib.join_cons,Lib.joinTail]
  simp
theorem join_any (g c : Nat) (vs : List Value) (ls : List (List UInt8)) (n : Nat) (w : World) (hn : ls.length = n) (hP : Lib.PartsAt w ⟨g,0,none⟩ vs ls) (hc : n ≤ c) (h47 : n ≤ 140737488355328) (hlen : ls.flatten.length ≤ 140737488355328) :
 Calls Tryz.prog 91 #[.slice (some ⟨g,0,none⟩) n c,.slice none 0 0] w fun e w' => (∃ A c',e = .returned (.slice A ls.flatten.length c') ∧ ls.flatten.length ≤ c' ∧ Rb w' A ls.flatten) ∧ Below w.heap.size w w' := by
 have pl : ∀ (b o j : Nat),(⟨b,o,none⟩ : Addr).add j = ⟨b,o + j,none⟩ := fun b o j => by unfold Addr.add; split <;> simp_all
 rcases (by omega : n = 0 ∨ n = 1 ∨ 2 ≤ n) with rfl | rfl | h2
 ·obtain rfl : ls = [] := List.eq_nil_of_length_eq_zero hn
  refine (Tryz.bytes_Join_none _ _ _ _).mono ?_
  rintro e w' ⟨rfl,rfl⟩
  exact ⟨⟨_,_,rfl,Nat.le_refl _,Rb.nil _ _⟩,(Below.refl _ _).alloc (Nat.le_refl _) _⟩
 ·obtain ⟨l0,rfl⟩ : ∃ l0,ls = [l0] := List.length_eq_one_iff.1 hn
  obtain ⟨p,cap,l,hl,hcell,hp0,hbs⟩ := hP.get 0 (by simp)
  simp at hl
  subst hl
  simp only [List.flatten_cons,List.flatten_nil,List.append_nil] at hlen ⊢
  rw [pl] at hcell
  rcases Nat.eq_zero_or_pos l0.length with h0 | h0
  ·obtain rfl : l0 = [] := List.eq_nil_of_length_eq_zero h0
   refine (Tryz.bytes_Join_one_empty g 0 c p cap _ w hcell).mono ?_
   rintro e w' ⟨rfl,rfl⟩
   exact ⟨⟨_,_,rfl,Nat.le_refl _,Rb.nil _ _⟩,Below.refl _ _⟩
  ·rcases p with _ | a
   ·rw [hp0 rfl] at h0
    simp at h0
   refine (Tryz.bytes_Join_one g 0 c a cap l0 _ w hcell (hbs a rfl) h0 hlen).mono ?_
   rintro e w' ⟨v,rfl,hv,hb⟩
   obtain ⟨A,c',rfl,h1,h2⟩ := Rb_fresh hv
   exact ⟨⟨_,_,rfl,h1,h2⟩,hb⟩
 ·have hS : Lib.HoldsBytes w (.slice none 0 0) [] := ⟨none,0,rfl,fun _ => rfl,by simp⟩
  refine (Tryz.bytes_Join_many g 0 n c vs ls _ [] w hn h2 hP hc hS h47 (by simpa [Lib.lens,List.length_flatten] using hlen)).mono ?_
  rintro e w' ⟨v,rfl,hv,hb⟩
  rw [join_flat] at hv
  obtain ⟨A,c',rfl,h1,h2⟩ := Rb_fresh hv
  exact ⟨⟨_,_,rfl,h1,h2⟩,hb⟩
theorem nob_length (l : List UInt8) : (nob l).length ≤ l.length := List.length_filter_le _ _
end Ar
end
section
open Go.RowKit
namespace Ar
def DecOwn (l : List UInt8) (w : World) (e : Ending) (w' : World) : Prop :=
 ((∃ A n c a,e = .returned (.tuple #[.slice A n c,.int .i64 0]) ∧ a.length = n ∧ n ≤ c ∧ n ≤ l.length ∧ Rb w' A a ∧ enc a = l ∧ ∀ b o,A = some ⟨b,o,none⟩ → w.heap.size ≤ b ∧ b < w'.heap.size) ∨
   (e = .returned (.tuple #[.slice none 0 0,.int .i64 3]) ∧ ∀ a,enc a ≠ l)) ∧ Below w.heap.size w w'
theorem dec_own (l : List UInt8) (w : World) (hl : l.length ≤ 100000000) :
 Calls Tryz.prog 90 #[.string (bs l)] w (DecOwn l w) := by
 go_enter Tryz.func90,Tryz.ntmps90
 by_cases h4 : l.length % 4 = 0
 ·have hb : (((l.length : Int) % 4) != 0) = false := by
   have : (l.length : Int) % 4 = 0 := by omega
   simp [this]
  have H4 := Lib.hid h4
  clear h4
  go_wp2_with fail
  go_loopw [4,5] (fun v i wr => ∃ (k q : Nat) (os : List UInt8),i = .int .i64 q ∧ q ≤ 4 * k ∧ 4 * k ≤ q ∧ q ≤ l.length ∧ wr.ownsRow w.heap.size 5 1 v os.length (os.map bv) ∧ Below w.heap.size w wr ∧ enc os = l.take q ∧ (q < l.length → os.length = 3 * k) ∧ os.length ≤ 3 * k) (fun _ i _ => l.length - (intOf i).toNat)
  case atStart => exact ⟨0,0,[],rfl,by omega,by omega,by omega,World.ownsRow_nil _ _ _ _,Below.refl _ _,rfl,fun _ => rfl,by simp⟩
  case round =>
   obtain ⟨k,q,os,rfl,hq1,hq2,hql,hown,hB,henc,hos,hos2⟩ := hrel
   have HE := Lib.hid henc
   have HO := Lib.hid hos
   clear henc hos
   obtain ⟨wo,rfl⟩ : ∃ wo : World,wo = wr := ⟨_,rfl⟩
   by_cases hlt : q < l.length
   ·have hq4 : q + 4 ≤ l.length := by have := H4.out; omega
    have hg : ((l.drop q).take 4).length = 4 := by simp; omega
    have hos := HO.out hlt
    go_wp2_with fail
    refine (part_any _ _ hg).mono ?_
    rintro e w1 ⟨A,n,c,ok,ys,rfl,hn,hnc,hc,hrb,hyes,hno,hb1⟩
    have HN := Lib.hid hn
    have HNO := Lib.hid hno
    have HY := Lib.hid hyes
    clear hn hno hyes hg hos
    rcases ok with _ | _
    ·go_wp2
     go_ret2
     refine ⟨.inr ⟨rfl,fun a ha => ?_⟩,hB.trans (hb1.mono hB.size)⟩
     obtain ⟨d1,d2,d3,_⟩ := dec_group (k := k) ha (by omega) hlt
     exact HNO.out (by trivial) _ d1 d2 d3
    ·obtain ⟨hn1,hey⟩ := HY.out rfl
     have HEY := Lib.hid hey
     clear hey
     by_cases hbad : n < 3 ∧ q + 4 < l.length
     ·obtain ⟨hb3,hb4⟩ := hbad
      go_wp2
      go_ret2
      refine ⟨.inr ⟨rfl,fun a ha => ?_⟩,hB.trans (hb1.mono hB.size)⟩
      obtain ⟨d1,d2,d3,d4⟩ := dec_group (k := k) ha (by omega) hlt
      have h3 := d4 hb4
      have hy3 : ys.length ≤ 3 := by rw [HN.out]; omega
      have e2 : enc3 ys = enc3 (chk a 3 k) := by rw [← enc_one _ (by rw [HN.out]; omega) hy3,← enc_one _ d1 d2,d3,HEY.out]
      have e3 := enc3_inj (by rw [HN.out]; omega) hy3 d1 d2 e2
      have := HN.out
      rw [e3,h3] at this
      omega
     ·have hown1 := own_below hown hb1
      have hos3 := hos2
      by_cases hn3 : n < 3
      ·have hq4' : ¬ q + 4 < l.length := fun h => hbad ⟨hn3,h⟩
       clear hbad
       go_wp2_with (at_builtin; refine wpList_app rfl _ _ _ _ rfl TU8 hown1 rfl (Src_rb Tryz.underlying22 HN.out hrb) rfl (by omega) (by have := hB.size; have := hb1.size; omega) ?_; intro v2 w2 hown2 hgr2 _)
       have hl2 : os.length + n = (os ++ ys).length := by rw [List.length_append,HN.out]
       have hB2 : Below w.heap.size w w2 := below_app (hB.trans (hb1.mono hB.size)) hown1 hgr2 (by have := hB.size; have := hb1.size; omega) (Nat.le_refl _)
       have he2 : enc (os ++ ys) = l.take (q + 4) := by
        rw [enc_append _ _ (by have := HO.out hlt; omega),HE.out,HEY.out]
        exact take_add4.symm
       have hown3 : w2.ownsRow w.heap.size 5 1 v2 (os ++ ys).length ((os ++ ys).map bv) := by rw [← hl2,List.map_append]; exact hown2
       have hlos : (os ++ ys).length ≤ 3 * (k + 1) := by have := HO.out hlt; omega
       have hl3 : q + 4 < l.length → (os ++ ys).length = 3 * (k + 1) := fun h => absurd h hq4'
       go_roundw
       case rel => exact ⟨k + 1,q + 4,os ++ ys,by go_num,by omega,by omega,by omega,hown3,hB2,he2,hl3,hlos⟩
       case measure => simp [intOf]; omega
      ·clear hbad
       go_wp2_with (at_builtin; refine wpList_app rfl _ _ _ _ rfl TU8 hown1 rfl (Src_rb Tryz.underlying22 HN.out hrb) rfl (by omega) (by have := hB.size; have := hb1.size; omega) ?_; intro v2 w2 hown2 hgr2 _)
       have hl2 : os.length + n = (os ++ ys).length := by rw [List.length_append,HN.out]
       have hB2 : Below w.heap.size w w2 := below_app (hB.trans (hb1.mono hB.size)) hown1 hgr2 (by have := hB.size; have := hb1.size; omega) (Nat.le_refl _)
       have he2 : enc (os ++ ys) = l.take (q + 4) := by
        rw [enc_append _ _ (by have := HO.out hlt; omega),HE.out,HEY.out]
        exact take_add4.symm
       have hown3 : w2.ownsRow w.heap.size 5 1 v2 (os ++ ys).length ((os ++ ys).map bv) := by rw [← hl2,List.map_append]; exact hown2
       have hlos : (os ++ ys).length ≤ 3 * (k + 1) := by have := HO.out hlt; omega
       have hl3 : q + 4 < l.length → (os ++ ys).length = 3 * (k + 1) := fun h => by have := HO.out hlt; omega
       go_roundw
       case rel => exact ⟨k + 1,q + 4,os ++ ys,by go_num,by omega,by omega,by omega,hown3,hB2,he2,hl3,hlos⟩
       case measure => simp [intOf]; omega
   ·have hq : q = l.length := by omega
    obtain ⟨Av,cv,rfl,hvc,_,hvr,_⟩ := own_slice hown
    have hee : enc os = l := by rw [HE.out,hq,List.take_length]
    have hll : os.length ≤ l.length := by omega
    have HEE := Lib.hid hee
    clear hee hq
    go_wp2
    go_ret2
    exact ⟨.inl ⟨_,_,_,os,rfl,rfl,hvc,hll,hvr,HEE.out,fun b o e => (OwnM.of hown).lt b (by rw [e]; rfl)⟩,hB⟩
 ·have hb : (((l.length : Int) % 4) != 0) = true := by
   have : (l.length : Int) % 4 ≠ 0 := by omega
   simpa using this
  have H4 := Lib.hid h4
  clear h4
  go_wp2
  go_ret2
  refine ⟨.inr ⟨rfl,fun a ha => ?_⟩,Below.refl _ _⟩
  have := enc_length a
  rw [ha] at this
  exact H4.out (by omega)
theorem read_own (A : Option Addr) (l : List UInt8) (n c : Nat) (w : World) (hT : Lib.Utf8Tabs 2 3 w) (hn : l.length = n) (hA : Rb w A l) (hnc : n ≤ c) (hb : n ≤ 100000000) :
 Calls Tryz.prog 44 #[.slice A n c] w (DecOwn (nob l) w) := by
 have HN := Lib.hid hn
 clear hn
 go_enter Tryz.func44,Tryz.ntmps44
 go_wp2_with fail
 refine (fields_any A l n c w hT HN.out hA hnc (by omega)).mono ?_
 rintro e w1 ⟨⟨g,vs,ls,c',rfl,hc',hll,hP,hf⟩,hb1⟩
 have hnl := nob_length l
 rw [HN.out] at hnl
 have hfl : ls.flatten.length ≤ 100000000 := by rw [hf]; omega
 go_wp2_with fail
 refine (join_any g c' vs ls _ w1 rfl hP hc' (by omega) (by omega)).mono ?_
 rintro e w2 ⟨⟨A2,c2,rfl,hc2,hR2⟩,hb2⟩
 have hcv := conv_str (P := Tryz.prog) (src := 22) (dst := 9) (e := 5) Tryz.underlying22 Tryz.underlying5 Tryz.underlying9 (n := ls.flatten.length) (c := c2) hR2 rfl
 have HF := Lib.hid hf
 have hB2 := hb1.trans (hb2.mono hb1.size)
 clear hf
 generalize ls.flatten = m at *
 go_wp2_with fail
 refine (dec_own m _ hfl).mono ?_
 intro e w3 hd
 rw [HF.out] at hd
 obtain ⟨hd1,hb3⟩ := hd
 rcases hd1 with ⟨A3,n3,c3,a3,rfl,h1,h2,h3,h4,h5,h6⟩ | ⟨rfl,h1⟩
 ·have H1 := Lib.hid h1
  have H5 := Lib.hid h5
  clear h1 h5
  go_wp2
  go_ret2
  exact ⟨.inl ⟨_,_,_,_,rfl,H1.out,h2,h3,h4,H5.out,fun b o e => ⟨Nat.le_trans hB2.size (h6 b o e).1,(h6 b o e).2⟩⟩,hB2.trans (hb3.mono hB2.size)⟩
 ·have H1 := Lib.hid h1
  clear h1
  go_wp2
  go_ret2
  exact ⟨.inr ⟨rfl,H1.out⟩,hB2.trans (hb3.mono hB2.size)⟩
end Ar
end
section
open Go.RowKit
theorem headT_all : ∀ (fs : List (List UInt8 × List UInt8)),Fd.rightF fs = true → Fd.HeadT fs (Fd.foldAll fs)
 | [],_ => Fd.HeadT.nil
 | (n,v) :: r,h => by
   unfold Fd.rightF at h
   simp only [List.all_cons,Bool.and_eq_true] at h
   have h1 := Fd.fold_head h.1.1 h.1.2
   have h2 := headT_all r (by unfold Fd.rightF; exact h.2)
   have e : Fd.foldAll ((n,v) :: r) = Fd.foldF n v ++ Fd.foldAll r := rfl
   rw [e]
   exact h1.append h2
theorem read_mb {m : Mail} (h : Fd.writeP m.1 m.2 = .ok (mb m)) : Fd.readGo [] (mb m) = .ok m := by
 have h0 := h
 unfold Fd.writeP at h
 split at h
 ·rename_i hr
  split at h
  ·cases h
  ·rename_i hn
   have e : mb m = Fd.foldAll m.1 ++ Fd.eol true ++ m.2 := by
    have := Except.ok.inj h
    rw [← this]
    rfl
   rw [e,Fd.readGo_head (headT_all m.1 hr) [] true m.2 (by simp; omega)]
   rfl
 ·cases h
theorem lread_any (A : Option Addr) (l : List UInt8) (n c : Nat) (w : World) (hn : l.length = n) (hA : Rb w A l) (hnc : n ≤ c) (hpl : Pl A c) (hb : n ≤ 65536) :
 Calls Tryz.prog 20 #[.slice A n c] w fun e w' => WOut (Fd.readGo [] l) w' e ∧ Below w.heap.size w w' := by
 have HN := Lib.hid hn
 have hB0 : Below w.heap.size w (w.alloc (.cells #[.slice none 0 0,.slice none 0 0] 39)) := (Below.refl _ _).alloc (Nat.le_refl _) _
 have rl := Row.new w #[.slice none 0 0,.slice none 0 0] 39
 have hz0 : w.heap.size + 1 ≤ (w.alloc (.cells #[.slice none 0 0,.slice none 0 0] 39)).heap.size := by simp
 have hrd := Fd.read_any A l n c (w.alloc (.cells #[.slice none 0 0,.slice none 0 0] 39)) hn (hA.below hB0) hnc hpl hb
 have t1 : ¬ (2097152 < (n : Int)) := by omega
 clear hn
 go_enter Tryz.func20,Tryz.ntmps20
 go_wp2_with fail
 generalize w.alloc (.cells #[.slice none 0 0,.slice none 0 0] 39) = W0 at *
 refine hrd.mono ?_
 rintro e w1 ⟨hro,hb1⟩
 have hB1 := hB0.trans (hb1.mono hB0.size)
 have R := rl.below hb1
 have a0 := R.cell (j := 0) rfl
 have a1 := R.cell (j := 1) rfl
 have f0 := R.frozen 0
 have f1 := R.frozen 1
 clear rl hb1 hrd
 cases hr : Fd.readGo [] l with
 | error k =>
   rw [hr] at hro
   simp only at hro
   subst hro
   have HR := Lib.hid hr
   clear hr
   go_wp2_with fail
   have rF := (((R.set 0 (.slice none 0 0)).set 1 (.slice none 0 0)).set 0 (.slice none 0 0)).set 1 (.slice none 0 0)
   have hBF := (((hB1.setCell (p := ⟨w.heap.size,0,none⟩) (Nat.le_refl _) (.slice none 0 0)).setCell (p := ⟨w.heap.size,1,none⟩) (Nat.le_refl _) (.slice none 0 0)).setCell (p := ⟨w.heap.size,0,none⟩) (Nat.le_refl _) (.slice none 0 0)).setCell (p := ⟨w.heap.size,1,none⟩) (Nat.le_refl _) (.slice none 0 0)
   have e0 := rF.cell (j := 0) rfl
   have e1 := rF.cell (j := 1) rfl
   exact bodyPost_ret (v := .tuple #[.agg #[.slice none 0 0,.slice none 0 0],.int .i64 (k : Int)]) (by simp [results,Tryz.results20,go_sem,e0,e1]) rfl ⟨wout_err HR.out rfl,hBF⟩
 | ok m =>
   obtain ⟨fs,bd⟩ := m
   rw [hr] at hro
   obtain ⟨fv,v2,rfl,hF,hD⟩ := hro
   obtain ⟨nf,hnf⟩ : ∃ x,fs.length = x := ⟨_,rfl⟩
   obtain ⟨nb,hnb⟩ : ∃ x,bd.length = x := ⟨_,rfl⟩
   have HNF := Lib.hid hnf
   have HNB := Lib.hid hnb
   rw [hnf] at hF
   rw [hnb] at hD
   obtain ⟨FA,fc,rfl,_,_,_,_⟩ := own_form hF
   obtain ⟨DA,dc,rfl,_,_,_,_⟩ := own_form hD
   have HR := Lib.hid hr
   clear hr hnf hnb
   go_wp2_with fail
   have rF := (((R.set 0 (.slice FA nf fc)).set 1 (.slice DA nb dc)).set 0 (.slice FA nf fc)).set 1 (.slice DA nb dc)
   have hBF := (((hB1.setCell (p := ⟨w.heap.size,0,none⟩) (Nat.le_refl _) (.slice FA nf fc)).setCell (p := ⟨w.heap.size,1,none⟩) (Nat.le_refl _) (.slice DA nb dc)).setCell (p := ⟨w.heap.size,0,none⟩) (Nat.le_refl _) (.slice FA nf fc)).setCell (p := ⟨w.heap.size,1,none⟩) (Nat.le_refl _) (.slice DA nb dc)
   have hFF := ownsRow_setCell_below (ownsRow_setCell_below (ownsRow_setCell_below (ownsRow_setCell_below hF (a := ⟨w.heap.size,0,none⟩) (by simp; omega) (.slice FA nf fc)) (a := ⟨w.heap.size,1,none⟩) (by simp; omega) (.slice DA nb dc)) (a := ⟨w.heap.size,0,none⟩) (by simp; omega) (.slice FA nf fc)) (a := ⟨w.heap.size,1,none⟩) (by simp; omega) (.slice DA nb dc)
   have hDF := ownsRow_setCell_below (ownsRow_setCell_below (ownsRow_setCell_below (ownsRow_setCell_below hD (a := ⟨w.heap.size,0,none⟩) (by simp; omega) (.slice FA nf fc)) (a := ⟨w.heap.size,1,none⟩) (by simp; omega) (.slice DA nb dc)) (a := ⟨w.heap.size,0,none⟩) (by simp; omega) (.slice FA nf fc)) (a := ⟨w.heap.size,1,none⟩) (by simp; omega) (.slice DA nb dc)
   have e0 := rF.cell (j := 0) rfl
   have e1 := rF.cell (j := 1) rfl
   refine bodyPost_ret (v := .tuple #[.agg #[.slice FA nf fc,.slice DA nb dc],.int .i64 0]) (by simp [results,Tryz.results20,go_sem,e0,e1]) rfl ⟨?_,hBF⟩
   rw [HR.out]
   obtain ⟨g1,g2,g3⟩ := own_rv hDF
   exact ⟨FA,fc,DA,dc,by simp only [HNF.out,HNB.out],(own_rv hFF).1,g1,by simp only [HNB.out]; exact g2,g3,Pl_own hDF⟩
end
end Go.Proofs.YtkllecicddfjpaaGreatDoor
