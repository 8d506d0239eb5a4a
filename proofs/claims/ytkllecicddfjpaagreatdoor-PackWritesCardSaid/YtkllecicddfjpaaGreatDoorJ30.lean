/- The walk of the law, part 30. -/
import Derived.Test.YtkllecicddfjpaaGreatDoorJ25
import Derived.Test.YtkllecicddfjpaaGreatDoorJ28
import Derived.Test.YtkllecicddfjpaaGreatDoorJ29
import Derived.Test.YtkllecicddfjpaaGreatDoorJ27
import Derived.Test.YtkllecicddfjpaaGreatDoorJ18
import Derived.Test.YtkllecicddfjpaaGreatDoorJ16
import Derived.KernelRfl
set_option maxRecDepth 100000
set_option maxHeartbeats 16000000
set_option linter.unusedVariables false
set_option linter.unusedSimpArgs false
namespace Go.Proofs.YtkllecicddfjpaaGreatDoor
section
open Go.RowKit
def inC (c : UInt8) (k : Nat) : Bool := (List.range k).any fun j => c == sgn.getD (j % 12) 0
theorem inC_succ (c : UInt8) (k : Nat) : inC c (k + 1) = (inC c k || c == sgn.getD (k % 12) 0) := by
 unfold inC
 rw [List.range_succ,List.any_append]
 simp
theorem inC_all (c : UInt8) : inC c 13 = sgn.contains c := by
 have h : ∀ n : Fin 256,inC (UInt8.ofNat n.1) 13 = sgn.contains (UInt8.ofNat n.1) := by decide +kernel
 have h2 := h ⟨c.toNat,c.toNat_lt⟩
 simpa using h2
def alnum (c : UInt8) : Bool := (97 ≤ c && c ≤ 122) || (65 ≤ c && c ≤ 90) || (48 ≤ c && c ≤ 57)
theorem bdC_eq (c : UInt8) : bdC c = (alnum c || inC c 13) := by
 rw [inC_all]
 rfl
theorem bdC_eq' {c : UInt8} (h : (alnum c || inC c 13) = true) : [c].all bdC = true := by simp [bdC_eq,h]
theorem alnum_cases (c : UInt8) : (alnum c = true ∧ ((48 ≤ c.toNat ∧ c.toNat ≤ 57) ∨ (65 ≤ c.toNat ∧ c.toNat ≤ 90) ∨ (97 ≤ c.toNat ∧ c.toNat ≤ 122))) ∨
 (alnum c = false ∧ (c.toNat < 48 ∨ (57 < c.toNat ∧ c.toNat < 65) ∨ (90 < c.toNat ∧ c.toNat < 97) ∨ 122 < c.toNat)) := by
 have e : alnum c = (decide (97 ≤ c.toNat ∧ c.toNat ≤ 122) || decide (65 ≤ c.toNat ∧ c.toNat ≤ 90) || decide (48 ≤ c.toNat ∧ c.toNat ≤ 57)) := by
  unfold alnum
  simp only [UInt8.le_iff_toNat_le]
  simp [Bool.decide_and]
 rw [e]
 by_cases h : (48 ≤ c.toNat ∧ c.toNat ≤ 57) ∨ (65 ≤ c.toNat ∧ c.toNat ≤ 90) ∨ (97 ≤ c.toNat ∧ c.toNat ≤ 122)
 ·left
  refine ⟨?_,h⟩
  simp
  omega
 ·right
  refine ⟨?_,by omega⟩
  simp
  omega
theorem rboundary_any (l : List UInt8) (w : World) (hb : l.length ≤ 9223372036854775807) :
 Calls Tryz.prog 75 #[.string (bs l)] w fun e w' => e = .returned (.bool (bdOk l)) ∧ w = w' := by
 obtain ⟨n,hn⟩ : ∃ n,l.length = n := ⟨_,rfl⟩
 have HN := Lib.hid hn
 go_enter Tryz.func75,Tryz.ntmps75
 go_wp2_with fail
 go_loop [3] (fun i => ∃ q : Nat,i = .int .i64 q ∧ q ≤ n ∧ Hid ((l.take q).all bdC = true)) (fun i => n - (intOf i).toNat)
 case atStart => exact ⟨0,rfl,by omega,Lib.hid (by simp)⟩
 case round =>
  obtain ⟨q,rfl,hq,HA⟩ := hrel
  by_cases hlt : q < n
  ·obtain ⟨x,hx⟩ : ∃ x,l[q]? = some x := ⟨_,List.getElem?_eq_getElem (by rw [hn]; exact hlt)⟩
   have hi := str_index (P := Tryz.prog) Tryz.underlying9 hx .i64
   have HX := Lib.hid hx
   have hx0 := u8_ge x
   have hx255 := u8_lt x
   clear hx
   go_upto_region 5 with fail
   go_cut [5] from 16 to 37 (fun s5 wx => s5 = .bool (alnum x) ∧ wx = w)
   case first =>
    rcases alnum_cases x with ⟨ha,h | h | h⟩ | ⟨ha,h | h | h | h⟩
    all_goals
     have HAl := Lib.hid ha
     clear ha
     go_wp2_with fail
     go_meet
     exact ⟨by (rw [HAl.out]) <;> first | rfl | (simp; done) | (simp; omega),rfl⟩
   case rest =>
    obtain ⟨rfl,rfl⟩ := hcut
    go_wp2_with fail
    go_loop [5,6] (fun o i => ∃ (k : Nat) (ok : Bool),i = .int .i64 k ∧ k ≤ 13 ∧ o = .bool ok ∧ Hid (ok = (alnum x || inC x k))) (fun _ i => 13 - (intOf i).toNat)
    case atStart => exact ⟨0,_,rfl,by omega,rfl,Lib.hid (by simp [inC])⟩
    case round =>
     obtain ⟨k,ok,rfl,hk,rfl,HO⟩ := hrel
     by_cases hk13 : k < 13
     ·obtain ⟨y,hy⟩ : ∃ y,sgn[k % 12]? = some y := ⟨_,List.getElem?_eq_getElem (by show k % 12 < 12; omega)⟩
      have hgd : sgn.getD (k % 12) 0 = y := by rw [List.getD_eq_getElem?_getD,hy]; rfl
      have hsi := str_index (P := Tryz.prog) Tryz.underlying9 hy .i64
      have hcast : ((k % 12 : Nat) : Int) = (k : Int) % 12 := by omega
      rw [hcast] at hsi
      have hsi2 : ∀ W,(Instr.index 9 (.string ⟨#[39,40,41,43,95,44,45,46,47,58,61,63]⟩) (.int .i64 ((k : Int) % 12))).run Tryz.prog W = .ok (.int .u8 (y.toNat : Int)) W := hsi
      have HS := Lib.hid (show (alnum x || inC x (k + 1)) = (ok || x == y) by rw [inC_succ,hgd,HO.out,Bool.or_assoc])
      have hxy : ((x.toNat : Int) == (y.toNat : Int)) = (x == y) := u8_beq x y
      obtain ⟨t,ht⟩ : ∃ t,(x == y) = t := ⟨_,rfl⟩
      have HT := Lib.hid ht
      rw [ht] at hxy
      clear hsi hcast hy hgd ht
      cases ok with
      | true =>
        go_wp2_with fail
        go_round
        case rel => exact ⟨k + 1,true,by go_num,by omega,rfl,Lib.hid (by rw [HS.out]; rfl)⟩
        case measure => simp [intOf]; omega
      | false =>
        go_wp2_with fail
        go_round
        case rel => exact ⟨k + 1,t,by go_num,by omega,rfl,Lib.hid (by rw [HS.out,HT.out]; rfl)⟩
        case measure => simp [intOf]; omega
     ·obtain rfl : k = 13 := by omega
      cases ok with
      | true =>
        have HB := Lib.hid (show (l.take (q + 1)).all bdC = true by
         rw [take_succ_of HX.out,List.all_append,HA.out,bdC_eq' HO.out.symm]
         rfl)
        go_wp2_with fail
        go_round
        case rel => exact ⟨q + 1,by go_num,by omega,HB⟩
        case measure => simp [intOf]; omega
      | false =>
        have HB := Lib.hid (show bdOk l = false by
         unfold bdOk
         have h1 : l.all bdC = false := by
          rw [List.all_eq_false]
          exact ⟨x,List.mem_of_getElem? HX.out,by rw [bdC_eq,← HO.out]; simp⟩
         rw [h1,Bool.and_false])
        go_wp2_with fail
        go_ret
        exact ⟨ret_bool HB.out.symm,rfl⟩
  ·obtain rfl : q = n := by omega
   have hall : l.all bdC = true := by
    have h := HA.out
    rwa [List.take_of_length_le (by rw [hn]; exact Nat.le_refl _)] at h
   have HB := Lib.hid (show bdOk l = (decide (1 ≤ q) && decide (q ≤ 70)) by unfold bdOk; rw [hall,hn,Bool.and_true])
   rcases (by omega : q = 0 ∨ (1 ≤ q ∧ q ≤ 70) ∨ 70 < q) with h | h | h
   ·subst h
    go_wp2_with fail
    go_ret
    exact ⟨ret_bool (by rw [HB.out]; rfl),rfl⟩
   ·obtain ⟨h1,h2⟩ := h
    go_wp2_with fail
    go_ret
    exact ⟨ret_bool (by rw [HB.out,decide_eq_true h1,decide_eq_true h2]; first | rfl | (simp; done) | (simp; omega)),rfl⟩
   ·go_wp2_with fail
    go_ret
    exact ⟨ret_bool (by rw [HB.out,decide_eq_false (p := q ≤ 70) (by omega),Bool.and_false]; first | rfl | (simp; done) | (simp; omega)),rfl⟩
end
section
open Go.RowKit
def RSpl (b bd : List UInt8) (w : World) (e : Ending) (w' : World) : Prop :=
 ∃ A c,e = .returned (.tuple #[.slice A (splitS b bd).1.length c,.int .i64 (splitS b bd).2]) ∧ (splitS b bd).1.length ≤ c ∧ RR w' A (splitS b bd).1 ∧ Below w.heap.size w w'
def hd2 (bd : List UInt8) (rest : List (List UInt8 × List UInt8)) (outs : List (List UInt8)) : Option (List (List UInt8)) :=
 match rest with
 | [] => none
 | p :: r => if mk bd p.1 = 1 then bodyP bd r [] [] outs else if mk bd p.1 = 2 then some outs else none
theorem RR.nil (w : World) (A : Option Addr) : RR w A [] := ⟨[],Rv.nil _ _,rfl,fun j l h => by simp at h⟩
theorem drop_cons {α : Type} {l : List α} {k : Nat} {x : α} (h : l[k]? = some x) : l.drop k = x :: l.drop (k + 1) := by
 have hk := lt_of_get h
 rw [← List.getElem_cons_drop hk]
 rw [List.getElem?_eq_getElem hk] at h
 rw [Option.some.inj h]
def tot (L : List (List UInt8 × List UInt8)) : Nat := (L.map fun p => p.1.length + p.2.length).sum
theorem tot_cons (p : List UInt8 × List UInt8) (L : List (List UInt8 × List UInt8)) : tot (p :: L) = p.1.length + p.2.length + tot L := by simp [tot]
theorem tot_lnA : ∀ (r cur : List UInt8),tot (lnA cur r) = cur.length + r.length
 | [],cur => by
   unfold lnA
   split
   ·rename_i h
    simp [h,tot]
   ·simp [tot]
 | x :: r,cur => by
   unfold lnA
   split
   ·rw [tot_cons,endl_len,tot_lnA r []]
    simp
    omega
   ·rw [tot_lnA r (cur ++ [x])]
    simp
    omega
theorem tot_lns (b : List UInt8) : tot (lns b) = b.length := by
 unfold lns
 rw [tot_lnA]
 simp
theorem tot_drop {L : List (List UInt8 × List UInt8)} {k : Nat} {p : List UInt8 × List UInt8} (h : L[k]? = some p) : tot (L.drop k) = p.1.length + p.2.length + tot (L.drop (k + 1)) := by rw [drop_cons h,tot_cons]
theorem tot_drop_le (L : List (List UInt8 × List UInt8)) : ∀ k,tot (L.drop k) ≤ tot L
 | 0 => by simp
 | k + 1 => by
   by_cases hk : k < L.length
   ·have h := tot_drop (List.getElem?_eq_getElem hk)
    have := tot_drop_le L k
    omega
   ·rw [List.drop_of_length_le (by omega)]
    simp [tot]
theorem splitP_skip {bd : List UInt8} {L : List (List UInt8 × List UInt8)} {k : Nat} {p : List UInt8 × List UInt8} (h : L[k]? = some p) (hm : mk bd p.1 ≠ 1) : splitP bd (L.drop k) = splitP bd (L.drop (k + 1)) := by rw [drop_cons h,splitP,if_neg hm]
theorem hd2_start {bd : List UInt8} {L : List (List UInt8 × List UInt8)} {k : Nat} (h : ∀ p,L[k]? = some p → mk bd p.1 = 1) : splitP bd (L.drop k) = hd2 bd (L.drop k) [] := by
 cases hp : L[k]? with
 | none =>
   rw [List.drop_of_length_le (by have := List.getElem?_eq_none_iff.1 hp; omega)]
   rfl
 | some p => rw [drop_cons hp,splitP,if_pos (h p hp),hd2,if_pos (h p hp)]
theorem get_map {L : List (List UInt8 × List UInt8)} {k : Nat} {l : List UInt8} (h : (L.map (·.1))[k]? = some l) : ∃ p,L[k]? = some p ∧ p.1 = l := by
 rw [List.getElem?_map,Option.map_eq_some_iff] at h
 exact h
theorem Mem.one {w : World} {base : Nat} {a b : Ow} {T : List Tl} (h : Mem w base [a,b] T) : Mem w base [a] T := by
 refine ⟨fun o ho => h.own o (by simp at ho ⊢; simp [ho]),fun i j u v hij hu hv => ?_,fun t ht => ⟨(h.ls t ht).1,fun k hk u hu => (h.ls t ht).2 k hk u (by simp at hu ⊢; simp [hu])⟩⟩
 rcases i with _ | i <;> rcases j with _ | j <;> simp at hu hv hij
theorem own_obs3 {w : World} {base : Nat} {v : Value} {l m k : List UInt8} (h : OwnM w base 5 1 v (l.length + m.length + k.length) (l.map bv ++ m.map bv ++ k.map bv)) :
 OwnM w base (obs v (l ++ m ++ k)).e (obs v (l ++ m ++ k)).size (obs v (l ++ m ++ k)).v (obs v (l ++ m ++ k)).n (obs v (l ++ m ++ k)).xs := by
 show OwnM w base _ 1 v (l ++ m ++ k).length ((l ++ m ++ k).map bv)
 rw [List.length_append,List.length_append,List.map_append,List.map_append]
 exact h
theorem rsplit_any (A : Option Addr) (b bd : List UInt8) (n c : Nat) (w : World) (hn : b.length = n) (hA : Rb w A b) (hnc : n ≤ c) (hb : n ≤ 100000) (hbd : bd.length ≤ 1000000) :
 Calls Tryz.prog 76 #[.slice A n c,.string (bs bd)] w (RSpl b bd w) := by
 have HN := Lib.hid hn
 clear hn
 have hpu : ∀ W,Sem.run Tryz.prog (pure #[] : Sem (Array Value)) W = .ok #[] W := fun _ => rfl
 have hst : ∀ a W,Sem.run Tryz.prog (storeCells a []) W = .ok () W := fun _ _ => rfl
 have hbo := rboundary_any bd w (by omega)
 cases hok : bdOk bd with
 | false =>
   have HS : Hid (splitS b bd = ([],1)) := Lib.hid (by unfold splitS; rw [hok]; rfl)
   rw [hok] at hbo
   clear hok
   go_enter Tryz.func76,Tryz.ntmps76
   go_wp2_with fail
   refine hbo.mono ?_
   rintro e w1 ⟨rfl,rfl⟩
   go_wp2_with fail
   go_ret2
   exact ⟨none,0,by rw [HS.out]; rfl,by rw [HS.out]; exact Nat.le_refl _,by rw [HS.out]; exact RR.nil _ _,Below.refl _ _⟩
 | true =>
   have HOK := Lib.hid hok
   rw [hok] at hbo
   have hli := rlines_any A b n c w HN.out hA hnc (by omega)
   clear hok hA
   go_enter Tryz.func76,Tryz.ntmps76
   go_wp2_with fail
   refine hbo.mono ?_
   rintro e w1 ⟨rfl,rfl⟩
   go_wp2_with fail
   refine hli.mono ?_
   rintro e w2 ⟨A1,c1,A2,c2,rfl,hc1,hc2,hr1,hr2,hb2⟩
   clear hli hbo
   go_upto_block 0 with fail
   obtain ⟨LS,hLS⟩ : ∃ LS,lns b = LS := ⟨_,rfl⟩
   have htot : tot LS = n := by rw [← hLS,tot_lns,HN.out]
   have hLl : LS.length ≤ n + 1 := by rw [← hLS]; have := lnA_len b []; unfold lns; rw [HN.out] at this; exact this
   have HLS := Lib.hid hLS
   rw [hLS] at hr1 hr2 hc1 hc2 ⊢
   obtain ⟨m,hm⟩ : ∃ m,LS.length = m := ⟨_,rfl⟩
   have HM := Lib.hid hm
   have HTOT := Lib.hid htot
   rw [hm] at hLl hc1 hc2 ⊢
   clear hLS hm htot
   obtain ⟨W0,hW0⟩ : ∃ W0,w2.alloc (.cells #[] 22) = W0 := ⟨_,rfl⟩
   have hB0 : Below w2.heap.size w2 W0 := by rw [← hW0]; exact (Below.refl _ _).alloc (Nat.le_refl _) _
   have hM0 : Hid (Mem W0 w2.heap.size [orr (.slice (some ⟨w2.heap.size,0,none⟩) 0 0) []] []) := Lib.hid (by
    rw [← hW0]
    exact (Mem.nil w2 w2.heap.size).cons (o' := orr (.slice (some ⟨w2.heap.size,0,none⟩) 0 0) []) ((Below.refl _ _).alloc (Nat.le_refl _) _) (fresh0 w2 w2.heap.size 22 (Nat.le_refl _)) (fun k hk => by have := nb_some.1 hk; omega))
   rw [hW0]
   clear hW0
   have hr01 := hr1.below hB0
   go_cut [9] from 21 to 35 (fun s9 wx => (∃ q : Nat,s9 = .int .i64 q ∧ q ≤ m ∧ Hid (splitP bd LS = hd2 bd (LS.drop q) [])) ∧ wx = W0)
   case first =>
    clear hM0
    go_wp2_with fail
    go_loop [9] (fun i => ∃ q : Nat,i = .int .i64 q ∧ q ≤ m ∧ Hid (splitP bd LS = splitP bd (LS.drop q))) (fun i => m - (intOf i).toNat)
    case atStart => exact ⟨0,rfl,by omega,Lib.hid (by rw [List.drop_zero])⟩
    case round =>
     obtain ⟨q,rfl,hq,HQ⟩ := hrel
     by_cases hlt : q < m
     ·obtain ⟨b0,o0,B,d,l,rfl,hl,cl,hld,hdm,_,_,hRl⟩ := hr01.one (k := q) (by rw [List.length_map,HM.out]; exact hlt)
      obtain ⟨p,hp,rfl⟩ := get_map hl.out
      have hpl : p.1.length ≤ 1000000 := by have h1 := tot_drop hp; have h2 := tot_drop_le LS q; have h3 := HTOT.out; omega
      have hmk := rmark_any B p.1 bd p.1.length d _ rfl hRl hld hpl hbd
      by_cases h1 : mk bd p.1 = 1
      ·have HE := Lib.hid (show splitP bd LS = hd2 bd (LS.drop q) [] by
        rw [HQ.out]
        exact hd2_start fun p' hp' => by rw [hp] at hp'; cases hp'; exact h1)
       rw [h1] at hmk
       clear hp hl h1
       go_wp2_with fail
       refine hmk.mono ?_
       rintro e w' ⟨rfl,rfl⟩
       go_wp2_with fail
       go_meet
       exact ⟨⟨q,rfl,hq,HE⟩,rfl⟩
      ·have HE := Lib.hid (show splitP bd LS = splitP bd (LS.drop (q + 1)) by rw [HQ.out,splitP_skip hp h1])
       obtain ⟨v,hv⟩ : ∃ v,mk bd p.1 = v := ⟨_,rfl⟩
       rw [hv] at hmk h1
       have hv1 : ((v : Int) != 1) = true := by rw [bne_iff_ne]; omega
       clear hp hl h1 hv
       go_wp2_with fail
       refine hmk.mono ?_
       rintro e w' ⟨rfl,rfl⟩
       go_wp2_with fail
       go_round
       case rel => exact ⟨q + 1,by go_num,by omega,HE⟩
       case measure => simp [intOf]; omega
     ·obtain rfl : q = m := by omega
      have HE := Lib.hid (show splitP bd LS = hd2 bd (LS.drop q) [] by
       rw [HQ.out]
       exact hd2_start fun p' hp' => by have := lt_of_get hp'; rw [HM.out] at this; omega)
      go_wp2_with fail
      go_meet
      exact ⟨⟨q,rfl,hq,HE⟩,rfl⟩
   case rest =>
    obtain ⟨⟨q0,rfl,hq0,HQ0⟩,rfl⟩ := hcut
    go_wp2_with fail
    go_loopw [8,9] (fun ov i wr => ∃ (q : Nat) (ts T : List Tl),i = .int .i64 q ∧ q ≤ m ∧ ts.length ≤ q ∧ Hid (Mem wr w2.heap.size [orr ov ts] T) ∧ Hid (∀ t ∈ ts,t ∈ T) ∧ Hid (splitP bd LS = hd2 bd (LS.drop q) (ts.map (·.1))) ∧ Below w2.heap.size w2 wr) (fun _ i _ => m - (intOf i).toNat)
    case atStart => exact ⟨q0,[],[],rfl,hq0,by simp,hM0,Lib.hid (by simp),HQ0,hB0⟩
    case round =>
     clear hM0 HQ0 hq0 hr01
     obtain ⟨q,ts,T,rfl,hq,htq,hmm,HS,HQ,hB⟩ := hrel
     have hs := hB.size
     obtain ⟨Ao,co,hov,hoc,_,_,_,_,_⟩ := (hmm.out.get (i := 0) rfl).form
     simp only [orr] at hov hoc
     subst hov
     by_cases hlt : q < m
     ·obtain ⟨b0,o0,B,d,l,rfl,hl,cl,hld,hdm,_,_,hRl⟩ := (hr1.below hB).one (k := q) (by rw [List.length_map,HM.out]; exact hlt)
      obtain ⟨p,hp,rfl⟩ := get_map hl.out
      have hpl : p.1.length ≤ 1000000 := by have h1 := tot_drop hp; have h2 := tot_drop_le LS q; have h3 := HTOT.out; omega
      have hmk := rmark_any B p.1 bd p.1.length d wr rfl hRl hld hpl hbd
      by_cases h1 : mk bd p.1 = 1
      ·have HE := Lib.hid (show splitP bd LS = bodyP bd (LS.drop (q + 1)) [] [] (ts.map (·.1)) by rw [HQ.out,drop_cons hp,hd2,if_pos h1])
       have HB := Lib.hid (show tot (LS.drop (q + 1)) ≤ n by have h1 := tot_drop_le LS (q + 1); rw [HTOT.out] at h1; exact h1)
       rw [h1] at hmk
       clear hp hl h1 HQ
       go_wp2_with (refine hmk.mono ?_; rintro e w' ⟨rfl,rfl⟩)
       have hm1 : Hid (Mem (wr.alloc (.cells #[] 5)) w2.heap.size [orr (Value.slice Ao ts.length co) ts,obs (.slice (some ⟨wr.heap.size,0,none⟩) 0 0) []] T) := Lib.hid (hmm.out.cons (o' := obs (.slice (some ⟨wr.heap.size,0,none⟩) 0 0) []) ((Below.refl _ _).alloc (Nat.le_refl _) _) (fresh0 wr w2.heap.size 5 hs) (fun k hk => by have := nb_some.1 hk; omega))
       have hB1 : Below w2.heap.size w2 (wr.alloc (.cells #[] 5)) := hB.trans ((Below.refl _ _).alloc hs _)
       clear hmm hmk
       obtain ⟨wo,rfl⟩ : ∃ wo : World,wo = wr := ⟨_,rfl⟩
       clear hRl hB hs
       go_loopw [9,10] (fun i pv wi => ∃ (k : Nat) (P pend : List UInt8),i = .int .i64 k ∧ q + 1 ≤ k ∧ k ≤ m ∧ Hid (Mem wi w2.heap.size [orr (Value.slice Ao ts.length co) ts,obs pv P] T) ∧ Hid (splitP bd LS = bodyP bd (LS.drop k) P pend (ts.map (·.1))) ∧ Hid (k = q + 1 ∧ pend = [] ∨ q + 1 < k ∧ (LS.map (·.2))[k - 1]? = some pend) ∧ P.length + pend.length + tot (LS.drop k) ≤ n ∧ Below w2.heap.size w2 wi) (fun i _ _ => m - (intOf i).toNat)
       case atStart => exact ⟨q + 1,[],[],by go_num,by omega,by omega,hm1,HE,Lib.hid (.inl ⟨rfl,rfl⟩),by have := HB.out; simpa using this,hB1⟩
       case round =>
        clear hm1 hB1 HE HB
        obtain ⟨k,P,pend,rfl,hk1,hk2,hmi,HE,HP,hle,hB⟩ := hrel
        have hs := hB.size
        obtain ⟨Ap,cp,hpv,hpc,_,_,_,_,_⟩ := (hmi.out.get (i := 1) rfl).form
        simp only [obs] at hpv hpc
        subst hpv
        by_cases hltk : k < m
        ·obtain ⟨b1,o1,B1,d1,l1,e1,hl1,cl0,hld1,hdm1,_,_,hRl0⟩ := hr1.one (k := k) (by rw [List.length_map,HM.out]; exact hltk)
         have cl1 := (hB.cell (p := ⟨b1,o1 + k,none⟩) (cell_lt cl0)).trans cl0
         have hRl1 := hRl0.below hB
         cases e1
         obtain ⟨p1,hp1,rfl⟩ := get_map hl1.out
         have hpl1 : p1.1.length ≤ 1000000 := by have h1 := tot_drop hp1; have h2 := tot_drop_le LS k; have h3 := HTOT.out; omega
         have hmk := rmark_any B1 p1.1 bd p1.1.length d1 wr rfl hRl1 hld1 hpl1 hbd
         have hb1l : b0 < wr.heap.size := cell_lt cl1
         by_cases h0 : mk bd p1.1 = 0
         ·have HE3 := Lib.hid (show splitP bd LS = bodyP bd (LS.drop (k + 1)) (P ++ pend ++ p1.1) p1.2 (ts.map (·.1)) by rw [HE.out,drop_cons hp1,bodyP,if_pos h0])
          have htd := tot_drop hp1
          have HN2 := Lib.hid (show (LS.map (·.2))[k + 1 - 1]? = some p1.2 by rw [Nat.add_sub_cancel,List.getElem?_map,hp1]; rfl)
          have hle2 : (P ++ pend ++ p1.1).length + p1.2.length + tot (LS.drop (k + 1)) ≤ n := by simp only [List.length_append]; omega
          rw [h0] at hmk
          have hown : OwnM wr w2.heap.size 5 1 (.slice Ap P.length cp) P.length (P.map bv) := hmi.out.get (i := 1) rfl
          clear h0 hp1 hl1 HE htd
          by_cases hk3 : k ≤ q + 1
          ·have HPE := Lib.hid (show pend = [] by rcases HP.out with ⟨_,h⟩ | ⟨h,_⟩; exact h; omega)
           have hbd : (P.length + p1.1.length) * 1 ≤ 140737488355328 := by simp only [List.length_append] at hle2; omega
           go_wp2_with (first | (refine hmk.mono ?_; rintro e w' ⟨rfl,rfl⟩) | (at_builtin; refine wpList_appM rfl _ _ _ _ rfl TU8 hown rfl (Src_rb Tryz.underlying22 rfl hRl1) rfl hbd hs ?_; intro v3 W3 own3 gr3 at3))
           go_roundw
           case rel =>
            have hm3 := hmi.out.upd (i := 1) (o' := obs v3 (P ++ p1.1)) rfl (Ext.of_grown (S := fun k => nb (Value.slice Ap P.length cp) k) gr3 (fun k e => e)) (own_obs (m := p1.1) own3) (fun k hk => at_new at3 hk)
            have hB3 : Below w2.heap.size w2 W3 := below_appM hB hown gr3 hs (Nat.le_refl _)
            refine ⟨k + 1,P ++ p1.1,p1.2,by go_num,by omega,by omega,Lib.hid hm3,?_,Lib.hid (.inr ⟨by omega,HN2.out⟩),?_,hB3⟩
            ·have h := HE3.out; rw [HPE.out,List.append_nil] at h; exact Lib.hid h
            ·rw [HPE.out,List.append_nil] at hle2; exact hle2
           case measure => simp [intOf]; omega
          ·have hk4 : q + 1 < k := by omega
           obtain ⟨b3,o3,B3,d3,l3,e3,hl3,cl3,hld3,hdm3,_,_,hRl3⟩ := (hr2.below hB).one (k := k - 1) (by rw [List.length_map,HM.out]; omega)
           have hlp : l3 = pend := by rcases HP.out with ⟨h,_⟩ | ⟨_,h⟩; omega; have := hl3.out; rw [h] at this; exact (Option.some.inj this).symm
           subst hlp
           subst e3
           have hb3l : b3 < wr.heap.size := cell_lt cl3
           have hbd1 : (P.length + l3.length) * 1 ≤ 140737488355328 := by simp only [List.length_append] at hle2; omega
           have hbd2 : (P.length + l3.length + p1.1.length) * 1 ≤ 140737488355328 := by simp only [List.length_append] at hle2; omega
           go_wp2_with (first | (refine hmk.mono ?_; rintro e w' ⟨rfl,rfl⟩) | (at_builtin; refine wpList_appM rfl _ _ _ _ rfl TU8 hown rfl (Src_rb Tryz.underlying22 rfl hRl3) rfl hbd1 hs ?_; intro v3 W3 own3 gr3 at3; obtain ⟨Aq,cq,hv3,_,_,_,_,_,_⟩ := own3.form; subst hv3; have hB3 : Below w2.heap.size w2 W3 := below_appM hB hown gr3 hs (Nat.le_refl _); have hs3 := hB3.size; have cl3' := (hB3.cell (p := ⟨b0,o0 + k,none⟩) (cell_lt cl0)).trans cl0; have hRl3' := hRl0.below hB3) | (at_builtin; refine wpList_appM rfl _ _ _ _ rfl TU8 own3 rfl (Src_rb Tryz.underlying22 rfl hRl3') rfl hbd2 hs3 ?_; intro v4 W4 own4 gr4 at4))
           go_roundw
           case rel =>
            have hm3 := hmi.out.upd (i := 1) (o' := obs (Value.slice Aq (P.length + l3.length) cq) (P ++ l3)) rfl (Ext.of_grown (S := fun k => nb (Value.slice Ap P.length cp) k) gr3 (fun k e => e)) (own_obs (m := l3) own3) (fun k hk => at_new at3 hk)
            have hm4 := hm3.upd (i := 1) (o := obs (Value.slice Aq (P.length + l3.length) cq) (P ++ l3)) (o' := obs v4 (P ++ l3 ++ p1.1)) rfl (Ext.of_grown (S := fun k => nb (Value.slice Aq (P.length + l3.length) cq) k) gr4 (fun k e => e)) (own_obs3 own4) (fun k hk => at_new at4 hk)
            have hB4 : Below w2.heap.size w2 W4 := below_appM hB3 own3 gr4 hs3 (Nat.le_refl _)
            exact ⟨k + 1,P ++ l3 ++ p1.1,p1.2,by go_num,by omega,by omega,Lib.hid hm4,HE3,Lib.hid (.inr ⟨by omega,HN2.out⟩),hle2,hB4⟩
           case measure => simp [intOf]; omega
         ·have HE3 := Lib.hid (show splitP bd LS = hd2 bd (LS.drop k) ((ts ++ [(P,Value.slice Ap P.length cp)]).map (·.1)) by
           rw [HE.out,drop_cons hp1,bodyP,if_neg h0,hd2,List.map_append]
           have h3 := mk_le bd p1.1
           by_cases h1 : mk bd p1.1 = 1
           ·rw [if_pos h1,if_pos h1]; rfl
           ·rw [if_neg h1,if_neg h1,if_pos (by omega)]; rfl)
          obtain ⟨v,hv⟩ : ∃ v,mk bd p1.1 = v := ⟨_,rfl⟩
          rw [hv] at hmk h0
          have hv0 : ((v : Int) == 0) = false := by rw [beq_eq_false_iff_ne]; omega
          have hO1 : OwnM (wr.alloc (.cells #[.slice Ap P.length cp] 22)) w2.heap.size 22 1 (.slice Ao ts.length co) ts.length (ts.map (·.2)) := (hmi.out.get (i := 0) rfl).alloc _
          have hm2 : Mem (wr.alloc (.cells #[.slice Ap P.length cp] 22)) w2.heap.size [orr (.slice Ao ts.length co) ts,obs (.slice Ap P.length cp) P] T := hmi.out.below ((Below.refl _ _).alloc (Nat.le_refl _) _)
          have hrv1 : Rv (wr.alloc (.cells #[.slice Ap P.length cp] 22)) (some ⟨wr.heap.size,0,none⟩) [.slice Ap P.length cp] := Rv_new wr _ _ _ rfl
          have hone1 : ∀ u ∈ [Value.slice Ap P.length cp],u.oneCell' = true := by simp [Value.oneCell']
          have hnl1 : [Value.slice Ap P.length cp].length = 1 * 1 := rfl
          have hbd1 : (ts.length + 1) * 24 ≤ 140737488355328 := by omega
          have hB2 : Below w2.heap.size w2 (wr.alloc (.cells #[.slice Ap P.length cp] 22)) := hB.trans ((Below.refl _ _).alloc hs _)
          have hs2 := hB2.size
          clear h0 hp1 hl1 HE hv
          go_wp2_with (first | (refine hmk.mono ?_; rintro e w' ⟨rfl,rfl⟩) | (at_builtin; refine wpList_appM rfl _ _ _ _ rfl TBs hO1 rfl (Src_rv Tryz.underlying66 hnl1 hrv1 hone1 Nat.one_pos) rfl hbd1 hs2 ?_; intro v3 W3 own3 gr3 at3))
          go_roundw
          case rel =>
           have hm3 := hm2.upd (i := 0) (o' := orr v3 (ts ++ [(P,Value.slice Ap P.length cp)])) rfl (Ext.of_grown (S := fun k => nb (Value.slice Ao ts.length co) k) gr3 (fun k e => e)) (own_orr own3) (fun k hk => at_new at3 hk)
           have hm4 := (hm3.push (i := 1) (v := Value.slice Ap P.length cp) (l := P) (o' := obs (.slice none 0 0) []) rfl (Below.refl _ _) (OwnM.nil _ _ _ _) (fun k hk => (nb_nil hk).elim)).one
           have hB3 : Below w2.heap.size w2 W3 := below_appM hB2 hO1 gr3 hs2 (Nat.le_refl _)
           refine ⟨k,ts ++ [(P,Value.slice Ap P.length cp)],_,rfl,by omega,by simp; omega,Lib.hid hm4,Lib.hid ?_,HE3,hB3⟩
           intro t ht
           rcases List.mem_append.1 ht with ht | ht
           ·have := HS.out t ht; simp [this]
           ·simp only [List.mem_singleton] at ht; subst ht; simp
          case measure => simp [intOf]; omega
        ·obtain rfl : k = m := by omega
         have HR := Lib.hid (show splitS b bd = ([],3) by
          unfold splitS
          rw [HOK.out,if_pos rfl,HLS.out,HE.out,List.drop_of_length_le (by rw [HM.out]; exact Nat.le_refl _)]
          rfl)
         go_wp2_with fail
         go_ret2
         exact ⟨none,0,by rw [HR.out]; rfl,by rw [HR.out]; exact Nat.le_refl _,by rw [HR.out]; exact RR.nil _ _,hb2.trans (hB.mono hb2.size)⟩
      ·obtain ⟨v,hv⟩ : ∃ v,mk bd p.1 = v := ⟨_,rfl⟩
       have hmk2 := hmk
       rw [hv] at hmk h1
       have hv1 : ((v : Int) == 1) = false := by rw [beq_eq_false_iff_ne]; omega
       by_cases h2 : v = 2
       ·have HR := Lib.hid (show splitS b bd = (ts.map (·.1),0) by
         unfold splitS
         rw [HOK.out,if_pos rfl,HLS.out,HQ.out,drop_cons hp,hd2,hv,if_neg h1,if_pos h2])
        have hv2 : ((v : Int) == 2) = true := by rw [h2]; rfl
        have hv2' : ((v : Int) != 2) = false := by rw [h2]; rfl
        clear hp hl h1 hv HQ h2 hmk2
        go_wp2_with (refine hmk.mono ?_; rintro e w' ⟨rfl,rfl⟩)
        go_ret2
        exact ⟨Ao,co,by rw [HR.out,List.length_map]; rfl,by rw [HR.out,List.length_map]; exact hoc,by rw [HR.out]; exact RR_of (n := ts.length) (hmm.out.get (i := 0) rfl) hmm.out.ls HS.out,hb2.trans (hB.mono hb2.size)⟩
       ·have HR := Lib.hid (show splitS b bd = ([],3) by
         unfold splitS
         rw [HOK.out,if_pos rfl,HLS.out,HQ.out,drop_cons hp,hd2,hv,if_neg h1,if_neg h2])
        have hv2 : ((v : Int) == 2) = false := by rw [beq_eq_false_iff_ne]; omega
        have hv2' : ((v : Int) != 2) = true := by rw [bne_iff_ne]; omega
        clear hp hl h1 hv HQ h2 hmk2
        go_wp2_with (refine hmk.mono ?_; rintro e w' ⟨rfl,rfl⟩)
        go_ret2
        exact ⟨none,0,by rw [HR.out]; rfl,by rw [HR.out]; exact Nat.le_refl _,by rw [HR.out]; exact RR.nil _ _,hb2.trans (hB.mono hb2.size)⟩
     ·obtain rfl : q = m := by omega
      have HR := Lib.hid (show splitS b bd = ([],3) by
       unfold splitS
       rw [HOK.out,if_pos rfl,HLS.out,HQ.out,List.drop_of_length_le (by rw [HM.out]; exact Nat.le_refl _)]
       rfl)
      go_wp2_with fail
      go_ret2
      exact ⟨none,0,by rw [HR.out]; rfl,by rw [HR.out]; exact Nat.le_refl _,by rw [HR.out]; exact RR.nil _ _,hb2.trans (hB.mono hb2.size)⟩
end
section
open Go.RowKit
theorem split_any (A : Option Addr) (b bd : List UInt8) (n c : Nat) (w : World) (hn : b.length = n) (hA : Rb w A b) (hpl : Pl A c) (hnc : n ≤ c) (hcm : c ≤ maxLen) (hb : n ≤ 1000000) (hbd : bd.length ≤ 1000000) :
 Calls Tryz.prog 30 #[.slice A n c,.string (bs bd)] w (RSpl b bd w) := by
 refine (callsIn_wide.1 (split_in 10 (by omega) A b bd n c w hn hA hpl hnc hcm hb hbd)).mono ?_
 rintro e w' ⟨⟨v,ts,rfl,h1,h2,h3⟩,hb'⟩
 obtain ⟨A',c',rfl,h4,_,_,_,_,_⟩ := h2.form
 have hl : (splitS b bd).1.length = ts.length := by rw [← h1,List.length_map]
 exact ⟨A',c',by rw [hl],by rw [hl]; exact h4,by rw [← h1]; exact RR_of (n := ts.length) h2 h3 (fun t ht => ht),hb'⟩
end
end Go.Proofs.YtkllecicddfjpaaGreatDoor
