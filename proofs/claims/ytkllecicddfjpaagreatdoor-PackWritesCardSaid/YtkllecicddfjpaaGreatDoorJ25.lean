/- The walk of the law, part 25. -/
import Derived.Test.YtkllecicddfjpaaGreatDoorJ18
import Derived.Test.YtkllecicddfjpaaGreatDoorJ24
import Derived.Test.YtkllecicddfjpaaGreatDoorJ10
import Derived.Test.YtkllecicddfjpaaGreatDoorJ12
import Derived.Shelf.Abstract
import Derived.OwnWalkIn
import Derived.TacticsInMore
import Derived.LoopNIn
import Derived.LoopIn
import Derived.Sort.BigQuietIn
import Derived.Test.YtkllecicddfjpaaGreatDoorChecked
import Derived.Test.YtkllecicddfjpaaGreatDoorJ06
import Derived.Laws.RangeString
import Derived.Laws.Runes
import Derived.Deep.LoopGhost
import Derived.Scope
set_option maxRecDepth 100000
set_option maxHeartbeats 16000000
set_option linter.unusedVariables false
set_option linter.unusedSimpArgs false
namespace Go.Proofs.YtkllecicddfjpaaGreatDoor
section
open Go.RowKit Go.Shelf
attribute [local go_sem] Oper.semAt_some
theorem slice_part {P : Program} {t e : TypeId} (ht : P.underlying t = some (.slice e)) (hsz : ∀ w,(sizeOf e).run P w = .ok 1 w) (A : Option Addr) (n c i j : Nat) (hij : i ≤ j) (hj : j ≤ n) (hnc : n ≤ c) (hpl : Pl A c) :
 ∃ A',(∀ K1 K2 w,(Instr.slice t (.slice A n c) (some (.int K1 (i : Int))) (some (.int K2 (j : Int))) none).run P w = .ok (.slice A' (j - i) (c - i)) w) ∧ (∀ w (b : List UInt8),b.length = n → Rb w A b → Rb w A' (seg b i j)) ∧ Pl A' (c - i) := by
 refine ⟨if c = i then A else A.map (·.add i),fun K1 K2 w => ?_,fun w b hb h => ?_,?_⟩
 ·rw [run_slice_lh w t A n c (elem_of ht) K1 K2 (i : Int) (j : Int) (by omega) (by omega) (by omega),elem_eq ht,hsz]
  simp [Result.andThen,sliced]
 ·by_cases hc : c = i
  ·have e1 : seg b i j = [] := by
    have : j - i = 0 := by omega
    unfold seg
    rw [this]
    rfl
   rw [e1]
   exact Rb.nil _ _
  ·rw [if_neg hc]
   rcases hpl with ⟨rfl,rfl⟩ | ⟨b0,o0,rfl⟩
   ·omega
   ·have e : Option.map (fun x : Addr => x.add i) (some ⟨b0,o0,none⟩) = some ⟨b0,o0 + i,none⟩ := by
     rw [Option.map_some]
     congr 1
     unfold Addr.add
     split <;> simp_all
    rw [e]
    exact (h.drop i).take _
 ·rcases hpl with ⟨rfl,rfl⟩ | ⟨b0,o0,rfl⟩
  ·left
   constructor
   ·split <;> rfl
   ·omega
  ·right
   split
   ·exact ⟨_,_,rfl⟩
   ·refine ⟨b0,o0 + i,?_⟩
    rw [Option.map_some]
    congr 1
    unfold Addr.add
    split <;> simp_all
theorem ib_any (b o : Nat) (l : List UInt8) (n c : Nat) (s : UInt8) (w : World) (hn : l.length = n) (hA : Rb w (some ⟨b,o,none⟩) l) :
 Calls Tryz.prog 112 #[.slice (some ⟨b,o,none⟩) n c,.int .u8 (s.toNat : Int)] w fun e w' => e = .returned (.int .i64 (Lib.indexByte l s)) ∧ w = w' := by
 subst hn
 have h := Tryz.bytes_IndexByte b o l.length c (nums l) (s.toNat : Int) w (nums_len l) (fun i hi => by
  rw [nums_getD l i hi]
  obtain ⟨b',o',x,e,hx,hc⟩ := hA.one hi
  cases e
  have hx' : l[i] = x := by have := hx.out; rw [List.getElem?_eq_getElem hi] at this; exact Option.some.inj this
  rw [hc,hx'])
 rw [bytesOf_nums] at h
 refine h.mono ?_
 rintro e w' ⟨rfl,rfl⟩
 refine ⟨?_,rfl⟩
 congr 3
 simp
theorem slice_at {P : Program} {t e : TypeId} (ht : P.underlying t = some (.slice e)) (hsz : ∀ w,(sizeOf e).run P w = .ok 1 w) (b o n c k : Nat) (hk : k ≤ n) (hkc : k < c) :
 ∀ K w,(Instr.slice t (.slice (some ⟨b,o,none⟩) n c) (some (.int K (k : Int))) none none).run P w = .ok (.slice (some ⟨b,o + k,none⟩) (n - k) (c - k)) w := by
 intro K w
 rw [run_slice_l w t (some ⟨b,o,none⟩) n c (elem_of ht) K (k : Int) (by omega) (by omega),elem_eq ht,hsz]
 have hne : ¬ c = k := by omega
 have hadd : (⟨b,o,none⟩ : Addr).add k = ⟨b,o + k,none⟩ := by unfold Addr.add; split <;> simp_all
 simp [Result.andThen,sliced,hne,hadd]
theorem idx_cases (l : List UInt8) (c : UInt8) : (Lib.indexByte l c = -1 ∧ ∀ x ∈ l,x ≠ c) ∨ ∃ k : Nat,Lib.indexByte l c = (k : Int) ∧ l[k]? = some c ∧ (∀ x ∈ l.take k,x ≠ c) := by
 have hge := Lib.indexByte_ge l c
 by_cases h : Lib.indexByte l c = -1
 ·left
  refine ⟨h,fun x hx e => ?_⟩
  obtain ⟨k,hk⟩ := List.mem_iff_getElem?.1 hx
  exact Lib.indexByte_none h k (by rw [hk,e])
 ·right
  obtain ⟨k,hk⟩ : ∃ k : Nat,Lib.indexByte l c = (k : Int) := ⟨(Lib.indexByte l c).toNat,by omega⟩
  obtain ⟨h1,h2⟩ := Lib.indexByte_some hk
  refine ⟨k,hk,h1,fun x hx e => ?_⟩
  obtain ⟨j,hj⟩ := List.mem_iff_getElem?.1 hx
  rw [List.getElem?_take] at hj
  split at hj
  ·exact h2 j (by assumption) (by rw [hj,e])
  ·cases hj
def trv (t : Nat × Nat × Nat) : Value := .agg #[.int .i64 t.1,.int .i64 t.2.1,.int .i64 t.2.2]
def EachK (Bs : Nat) (A : Option Addr) (b : List UInt8) (W W' : World) : Prop :=
 (∀ (k : Nat) cs fr,W.heap[k]? = some (.cells cs 97 fr) → W'.heap[k]? = W.heap[k]?) ∧ W'.heap[Bs]? = W.heap[Bs]? ∧ (Rb W A b → Rb W' A b)
theorem EachK.trans {Bs : Nat} {A : Option Addr} {b : List UInt8} {X Y Z : World} (h : EachK Bs A b X Y) (k : EachK Bs A b Y Z) : EachK Bs A b X Z :=
 ⟨fun i cs fr hi => (k.1 i cs fr ((h.1 i cs fr hi).trans hi)).trans (h.1 i cs fr hi),k.2.1.trans h.2.1,fun hr => k.2.2 (h.2.2 hr)⟩
theorem each_in (f : Nat) (A : Option Addr) (n c : Nat) (w : World) :
 CallsIn Fence.wide f Tryz.prog 61 #[.slice A n c] w fun e w' =>
  e = .returned (.func (.func 111) #[] #[.pointer (some ⟨w.heap.size,0,none⟩)]) ∧ w' = w.alloc (.cells #[.slice A n c] 22) := by
 refine callsIn_of_wp Tryz.func61 rfl trivial ?_ rfl
 simp only [Tryz.ntmps61,List.size_toArray,List.length_cons,List.length_nil,Nat.reduceAdd,Nat.reduceSub,Array.replicate_succ,Array.replicate_zero,List.push_toArray,List.append_toArray,List.nil_append,List.cons_append]
 gi_wp2
 go_ret
 exact ⟨rfl,rfl⟩
theorem each1_in (f : Nat) (l Bs n c : Nat) (A : Option Addr) (b : List UInt8) (hn : b.length = n) (hpl : Pl A c) (hnc : n ≤ c) (hb : n ≤ 1000000000)
 (J Jx : List (Nat × Nat × Nat) → World → Prop)
 (hJ : ∀ s X Y,J s X → X.grownBy Y none → J s Y)
 (hY : ∀ pre x W,J pre W → TrOk b (trEnd pre) x → YieldAt Fence.wide (f - 1) Tryz.prog l #[trv x] W fun e W' =>
   (e = .returned (.bool true) ∧ J (pre ++ [x]) W' ∧ EachK Bs A b W W') ∨ (e = .returned (.bool false) ∧ Jx (pre ++ [x]) W'))
 (W : World) (hBs : W.cell? ⟨Bs,0,none⟩ = some (.slice A n c)) (hA : Rb W A b) (h0 : J [] W) :
 CallsIn Fence.wide f Tryz.prog 111 #[.func (.yield l) #[] #[],.pointer (some ⟨Bs,0,none⟩)] W fun e W' => (∃ v,e = .returned v) ∧
  ((∃ ys,trEnd ys = b.length ∧ J ys W') ∨ (∃ pre,True ∧ Jx pre W')) := by
 have HN := Lib.hid hn
 clear hn
 have hBlt : Bs < W.heap.size := cell_lt hBs
 refine callsIn_of_wp Tryz.func111 rfl trivial ?_ rfl
 simp only [Tryz.ntmps111,List.size_toArray,List.length_cons,List.length_nil,Nat.reduceAdd,Nat.reduceSub,Array.replicate_succ,Array.replicate_zero,List.push_toArray,List.append_toArray,List.nil_append,List.cons_append]
 gi_wp2
 gi_loopw [3] (fun i wr => ∃ (q : Nat) (ys : List (Nat × Nat × Nat)),i = .int .i64 q ∧ q ≤ n ∧ Hid (trEnd ys = q) ∧ J ys wr ∧ wr.cell? ⟨Bs,0,none⟩ = some (.slice A n c) ∧ Rb wr A b)
  (fun i _ => n - (intOf i).toNat)
 case atStart => exact ⟨0,[],rfl,by omega,Lib.hid rfl,h0,hBs,hA⟩
 case round =>
  obtain ⟨q,ys,rfl,hq,HQ,hJs,hc,hR⟩ := hrel
  clear hBs hA h0 hBlt
  by_cases hlt : q < n
  ·obtain ⟨b0,o0,rfl,_⟩ := hR (by have := HN.out; simp; omega)
   have hR1 : Rb wr (some ⟨b0,o0 + q,none⟩) (b.drop q) := hR.drop q
   have hBlt : Bs < wr.heap.size := cell_lt hc
   have hR0 := hR
   have hR1' : Rb (wr.alloc (.cells #[.int .i64 q,.int .i64 n,.int .i64 n] 97)) (some ⟨b0,o0 + q,none⟩) (b.drop q) := hR1.below ((Below.refl _ _).alloc (Nat.le_refl _) _)
   have hsl := slice_at (P := Tryz.prog) Tryz.underlying22 Tryz.sizeOf5 b0 o0 n c q (by omega) (by omega)
   have hib := ib_any b0 (o0 + q) (b.drop q) (n - q) (c - q) 10 _ (by rw [List.length_drop,HN.out]) hR1'
   rcases idx_cases (b.drop q) 10 with ⟨hi,hno⟩ | ⟨k,hi,h10,hno⟩
   ·have HTR : Hid (TrOk b (trEnd ys) (q,n,n)) := Lib.hid (by
     have h := tr_last (b := b) (at_ := q) (by rw [HN.out]; exact hlt) hno
     rw [HQ.out,← HN.out]
     exact h)
    rw [hi] at hib
    clear hno hi hR1 hR1'
    have hyy := hY ys (q,n,n) (wr.alloc (.cells #[.int .i64 q,.int .i64 (n : Nat),.int .i64 (n : Nat)] 97)) (hJ _ _ _ hJs (World.grownBy_alloc _ _ _)) HTR.out
    obtain ⟨fn,tmps,assign,body,hy,hR⟩ := hyy
    simp only [trv] at hy hR
    gi_wp2
    refine ⟨trivial,fun h => by simp [Fence.wide] at h,?_⟩
    refine (callsIn_wide.2 hib).mono ?_
    rintro e w' ⟨rfl,rfl⟩
    gi_wp2
    refine ⟨fun h => by simp [Fence.wide] at h,?_⟩
    refine hR.mono ?_
    rintro e W3 (⟨rfl,hJ3,hk3⟩ | ⟨rfl,hJx3⟩)
    ·have hline : W3.heap[wr.heap.size]? = some (.cells #[.int .i64 q,.int .i64 (n : Nat),.int .i64 (n : Nat)] 97) := (hk3.1 _ _ _ (World.alloc_heap_new wr _)).trans (World.alloc_heap_new wr _)
     have hcl : W3.cell? ⟨wr.heap.size,2,none⟩ = some (.int .i64 (n : Nat)) := by simp [World.cell?,hline]
     have hcB : W3.cell? ⟨Bs,0,none⟩ = some (.slice (some ⟨b0,o0,none⟩) n c) := by
      have h1 : W3.heap[Bs]? = wr.heap[Bs]? := hk3.2.1.trans (Below.heap_alloc wr _ Bs (by omega))
      exact (World.cell?_of_block (w := wr) h1).trans hc
     have hR3 : Rb W3 (some ⟨b0,o0,none⟩) b := hk3.2.2 (hR0.below ((Below.refl _ _).alloc (Nat.le_refl _) _))
     gi_wp2
     go_roundw
     case rel => exact ⟨n,ys ++ [(q,n,n)],rfl,by omega,Lib.hid (by simp),hJ3,hcB,hR3⟩
     case measure => simp [intOf]; omega
    ·gi_wp2
     refine bodyPost_ret (results_none rfl _ _ _) rfl ?_
     exact ⟨⟨_,rfl⟩,.inr ⟨_,trivial,hJx3⟩⟩
   ·have hkl := lt_of_get h10
    rw [List.length_drop,HN.out] at hkl
    rw [List.getElem?_drop] at h10
    rw [hi] at hib
    have h10q : b[q + k]? = some 10 := h10
    have hqk : q + k < b.length := by rw [HN.out]; omega
    have hno2 : ∀ x ∈ seg b q (q + k),x ≠ 10 := by unfold seg; rw [Nat.add_sub_cancel_left]; exact hno
    by_cases h0 : k = 0
    ·subst h0
     have HTR : Hid (TrOk b (trEnd ys) (q,q,q + 1)) := Lib.hid (by
      rw [HQ.out]
      exact tr_hit (n := 0) hqk h10q hno2 (.inl rfl))
     clear hno hno2 h10 h10q hqk hi hR1 hR1' hkl
     have hyy := hY ys (q,q,q + 1) (wr.alloc (.cells #[.int .i64 q,.int .i64 ((q : Int)),.int .i64 ((q : Int) + 1)] 97)) (hJ _ _ _ hJs (World.grownBy_alloc _ _ _)) HTR.out
     have hct : ((q : Nat) : Int) = (q : Int) := by omega
     have hcn : ((q + 1 : Nat) : Int) = (q : Int) + 1 := by omega
     simp only [trv,hct,hcn] at hyy
     obtain ⟨fn,tmps,assign,body,hy,hR⟩ := hyy
     clear hct hcn
     gi_wp2
     refine ⟨trivial,fun h => by simp [Fence.wide] at h,?_⟩
     refine (callsIn_wide.2 hib).mono ?_
     rintro e w' ⟨rfl,rfl⟩
     gi_wp2
     refine ⟨fun h => by simp [Fence.wide] at h,?_⟩
     refine hR.mono ?_
     rintro e W3 (⟨rfl,hJ3,hk3⟩ | ⟨rfl,hJx3⟩)
     ·have hline : W3.heap[wr.heap.size]? = some (.cells #[.int .i64 q,.int .i64 ((q : Int)),.int .i64 ((q : Int) + 1)] 97) := (hk3.1 _ _ _ (World.alloc_heap_new wr _)).trans (World.alloc_heap_new wr _)
      have hcl : W3.cell? ⟨wr.heap.size,2,none⟩ = some (.int .i64 ((q : Int) + 1)) := by simp [World.cell?,hline]
      have hcB : W3.cell? ⟨Bs,0,none⟩ = some (.slice (some ⟨b0,o0,none⟩) n c) := by
       have h1 : W3.heap[Bs]? = wr.heap[Bs]? := hk3.2.1.trans (Below.heap_alloc wr _ Bs (by omega))
       exact (World.cell?_of_block (w := wr) h1).trans hc
      have hR3 : Rb W3 (some ⟨b0,o0,none⟩) b := hk3.2.2 (hR0.below ((Below.refl _ _).alloc (Nat.le_refl _) _))
      gi_wp2
      go_roundw
      case rel => exact ⟨q + 1,ys ++ [(q,q,q + 1)],by go_num,by omega,Lib.hid (by simp),hJ3,hcB,hR3⟩
      case measure => simp [intOf]; omega
     ·gi_wp2
      refine bodyPost_ret (results_none rfl _ _ _) rfl ?_
      exact ⟨⟨_,rfl⟩,.inr ⟨_,trivial,hJx3⟩⟩
    ·have hk0 : 0 < k := by omega
     obtain ⟨b1,o1,x,e1,HX,cx⟩ := hR0.one (k := q + k - 1) (by rw [HN.out]; omega)
     cases e1
     have hx2 := HX.out
     have hb0 : b0 < wr.heap.size := cell_lt cx
     have t13 : ((x.toNat : Int) == 13) = (x == 13) := u8_beq x 13
     by_cases hcr : x = 13
     ·have HTR : Hid (TrOk b (trEnd ys) (q,q + k - 1,q + k + 1)) := Lib.hid (by
       rw [HQ.out]
       exact tr_cr (n := k) hqk h10q hno2 (by omega) (by rw [hx2,hcr]))
      have hb13 : ((x.toNat : Int) == 13) = true := by rw [t13,hcr]; rfl
      clear hno hno2 h10 h10q hqk hi hR1 hR1' hx2 t13 hcr h0
      have hyy := hY ys (q,q + k - 1,q + k + 1) (wr.alloc (.cells #[.int .i64 q,.int .i64 ((q : Int) + (k : Int) - 1),.int .i64 ((q : Int) + (k : Int) + 1)] 97)) (hJ _ _ _ hJs (World.grownBy_alloc _ _ _)) HTR.out
      have hct : ((q + k - 1 : Nat) : Int) = (q : Int) + (k : Int) - 1 := by omega
      have hcn : ((q + k + 1 : Nat) : Int) = (q : Int) + (k : Int) + 1 := by omega
      simp only [trv,hct,hcn] at hyy
      obtain ⟨fn,tmps,assign,body,hy,hR⟩ := hyy
      clear hct hcn
      gi_wp2
      refine ⟨trivial,fun h => by simp [Fence.wide] at h,?_⟩
      refine (callsIn_wide.2 hib).mono ?_
      rintro e w' ⟨rfl,rfl⟩
      gi_wp2
      refine ⟨fun h => by simp [Fence.wide] at h,?_⟩
      refine hR.mono ?_
      rintro e W3 (⟨rfl,hJ3,hk3⟩ | ⟨rfl,hJx3⟩)
      ·have hline : W3.heap[wr.heap.size]? = some (.cells #[.int .i64 q,.int .i64 ((q : Int) + (k : Int) - 1),.int .i64 ((q : Int) + (k : Int) + 1)] 97) := (hk3.1 _ _ _ (World.alloc_heap_new wr _)).trans (World.alloc_heap_new wr _)
       have hcl : W3.cell? ⟨wr.heap.size,2,none⟩ = some (.int .i64 ((q : Int) + (k : Int) + 1)) := by simp [World.cell?,hline]
       have hcB : W3.cell? ⟨Bs,0,none⟩ = some (.slice (some ⟨b0,o0,none⟩) n c) := by
        have h1 : W3.heap[Bs]? = wr.heap[Bs]? := hk3.2.1.trans (Below.heap_alloc wr _ Bs (by omega))
        exact (World.cell?_of_block (w := wr) h1).trans hc
       have hR3 : Rb W3 (some ⟨b0,o0,none⟩) b := hk3.2.2 (hR0.below ((Below.refl _ _).alloc (Nat.le_refl _) _))
       gi_wp2
       go_roundw
       case rel => exact ⟨q + k + 1,ys ++ [(q,q + k - 1,q + k + 1)],by go_num,by omega,Lib.hid (by simp),hJ3,hcB,hR3⟩
       case measure => simp [intOf]; omega
      ·gi_wp2
       refine bodyPost_ret (results_none rfl _ _ _) rfl ?_
       exact ⟨⟨_,rfl⟩,.inr ⟨_,trivial,hJx3⟩⟩
     ·have HTR : Hid (TrOk b (trEnd ys) (q,q + k,q + k + 1)) := Lib.hid (by
       rw [HQ.out]
       exact tr_hit (n := k) hqk h10q hno2 (.inr (by rw [hx2]; simpa using hcr)))
      have hb13 : ((x.toNat : Int) == 13) = false := by rw [t13]; simpa using hcr
      clear hno hno2 h10 h10q hqk hi hR1 hR1' hx2 t13 hcr h0
      have hyy := hY ys (q,q + k,q + k + 1) (wr.alloc (.cells #[.int .i64 q,.int .i64 ((q : Int) + (k : Int)),.int .i64 ((q : Int) + (k : Int) + 1)] 97)) (hJ _ _ _ hJs (World.grownBy_alloc _ _ _)) HTR.out
      have hct : ((q + k : Nat) : Int) = (q : Int) + (k : Int) := by omega
      have hcn : ((q + k + 1 : Nat) : Int) = (q : Int) + (k : Int) + 1 := by omega
      simp only [trv,hct,hcn] at hyy
      obtain ⟨fn,tmps,assign,body,hy,hR⟩ := hyy
      clear hct hcn
      gi_wp2
      refine ⟨trivial,fun h => by simp [Fence.wide] at h,?_⟩
      refine (callsIn_wide.2 hib).mono ?_
      rintro e w' ⟨rfl,rfl⟩
      gi_wp2
      refine ⟨fun h => by simp [Fence.wide] at h,?_⟩
      refine hR.mono ?_
      rintro e W3 (⟨rfl,hJ3,hk3⟩ | ⟨rfl,hJx3⟩)
      ·have hline : W3.heap[wr.heap.size]? = some (.cells #[.int .i64 q,.int .i64 ((q : Int) + (k : Int)),.int .i64 ((q : Int) + (k : Int) + 1)] 97) := (hk3.1 _ _ _ (World.alloc_heap_new wr _)).trans (World.alloc_heap_new wr _)
       have hcl : W3.cell? ⟨wr.heap.size,2,none⟩ = some (.int .i64 ((q : Int) + (k : Int) + 1)) := by simp [World.cell?,hline]
       have hcB : W3.cell? ⟨Bs,0,none⟩ = some (.slice (some ⟨b0,o0,none⟩) n c) := by
        have h1 : W3.heap[Bs]? = wr.heap[Bs]? := hk3.2.1.trans (Below.heap_alloc wr _ Bs (by omega))
        exact (World.cell?_of_block (w := wr) h1).trans hc
       have hR3 : Rb W3 (some ⟨b0,o0,none⟩) b := hk3.2.2 (hR0.below ((Below.refl _ _).alloc (Nat.le_refl _) _))
       gi_wp2
       go_roundw
       case rel => exact ⟨q + k + 1,ys ++ [(q,q + k,q + k + 1)],by go_num,by omega,Lib.hid (by simp),hJ3,hcB,hR3⟩
       case measure => simp [intOf]; omega
      ·gi_wp2
       refine bodyPost_ret (results_none rfl _ _ _) rfl ?_
       exact ⟨⟨_,rfl⟩,.inr ⟨_,trivial,hJx3⟩⟩
  ·obtain rfl : q = n := by omega
   gi_wp2
   go_end0
   exact ⟨⟨_,rfl⟩,.inl ⟨ys,by rw [HQ.out,HN.out],hJs⟩⟩
end
section
open Go.RowKit
theorem indexByte_absent {c : UInt8} : ∀ {l : List UInt8},c ∉ l → Lib.indexByte l c = -1
 | [],_ => rfl
 | x :: r,h => by
   have h1 : (x == c) = false := by
    rw [beq_eq_false_iff_ne]
    rintro rfl
    simp at h
   have h2 := indexByte_absent (l := r) (c := c) (fun hm => h (by simp [hm]))
   simp [Lib.indexByte,h1,h2]
theorem indexByte_nonneg {c : UInt8} : ∀ {l : List UInt8},c ∈ l → 0 ≤ Lib.indexByte l c
 | [],h => by simp at h
 | x :: r,h => by
   unfold Lib.indexByte
   split
   ·omega
   ·rename_i hx
    have hx' : x ≠ c := by simpa using hx
    have hr : c ∈ r := by
     rcases List.mem_cons.1 h with h | h
     ·exact absurd h.symm hx'
     ·exact h
    have := indexByte_nonneg hr
    split
    ·rename_i h2
     simp at h2
     omega
    ·omega
theorem bs_at {l : List UInt8} (k : Nat) (h : k < (bs l).size) : (bs l)[k]'h = l[k]'(by rw [bs_size] at h; exact h) := by
 have h2 : k < l.toArray.size := by rw [bs_size] at h; simpa using h
 have e : (bs l)[k]'h = l.toArray[k]'h2 := rfl
 rw [e]
 simp
theorem bs_mem {l : List UInt8} (k : Nat) (h : k < (bs l).size) : (bs l)[k]'h ∈ l := by
 rw [bs_at]
 exact List.getElem_mem _
def sgn : List UInt8 := [39,40,41,43,95,44,45,46,47,58,61,63]
theorem sgn_ascii : ∀ c ∈ sgn,c.toNat < 128 := by decide
theorem indexRune_err (w : World) :
 Calls Tryz.prog 168 #[.string (bs sgn),.int .i32 65533] w fun e w' => e = .returned (.int .i64 (-1)) ∧ Below w.heap.size w w' := by
 obtain ⟨s,hs⟩ : ∃ s,bs sgn = s := ⟨_,rfl⟩
 have hA : Hid (∀ (i : Nat) (h : i < s.size),(s[i]'h).toNat < 128) := by
  subst hs
  exact Lib.hid fun i h => sgn_ascii _ (bs_mem i h)
 rw [hs]
 clear hs
 go_enter Tryz.func168,Tryz.ntmps168
 go_wp2_with fail
 go_loopg [5,6] s.size (fun g s5 s6 wx => ∃ i : Nat,i + g = s.size ∧ wx = w.iter s i)
 case atStart => exact ⟨0,by omega,rfl⟩
 case round =>
  obtain ⟨i,hig,rfl⟩ := hrel
  cases gk with
  | zero =>
    obtain rfl : i = s.size := by omega
    have hnx := fun ty => run_next_end (P := Tryz.prog) w s s.size ty (by omega)
    go_wp2_with fail
    go_ret
    exact ⟨rfl,(Below.refl _ _).alloc (Nat.le_refl _) _⟩
  | succ g =>
    have hi : i < s.size := by omega
    have ha := hA.out i hi
    have hnx := fun ty => run_next_ascii (P := Tryz.prog) w s i ty hi ha
    have hne : (((s[i]'hi).toNat : Int) == 65533) = false := by rw [beq_eq_false_iff_ne]; omega
    go_wp2_with fail
    go_roundg g
    case measure => omega
    case rel => exact ⟨i + 1,by omega,rfl⟩
theorem indexRune_no (r : Int) (h1 : 128 ≤ r) (h2 : r ≤ 1114111) (h3 : r ≠ 65533) (w : World) :
 Calls Tryz.prog 168 #[.string (bs sgn),.int .i32 r] w fun e w' => e = .returned (.int .i64 (-1)) ∧ Below w.heap.size w w' := by
 have hne : (r == 65533) = false := by simpa using h3
 have hvr : Lib.validRune r = Utf8.valid r := by
  unfold Lib.validRune Utf8.valid
  rw [Bool.eq_iff_iff]
  simp
  omega
 cases hv : Utf8.valid r with
 | false =>
   rw [hv] at hvr
   have HV := Lib.hid hvr
   clear hvr hv
   go_enter Tryz.func168,Tryz.ntmps168
   go_wp2_with fail
   refine (Tryz.utf8_ValidRune r _).mono ?_
   rintro e w' ⟨rfl,hw⟩
   rw [hw,HV.out]
   go_wp2_with fail
   go_ret
   exact ⟨rfl,Below.refl _ _⟩
 | true =>
   rw [hv] at hvr
   obtain ⟨g1,g2,g3⟩ := encode_facts r hv h1
   obtain ⟨l,hl⟩ : ∃ l,Utf8.encode r = bs l := ⟨_,(bs_of _).symm⟩
   rw [hl] at g1 g2 g3
   rw [bs_size] at g1 g2
   have hlast : l.length - 1 < l.length := by omega
   obtain ⟨x,hx⟩ : ∃ x,l[l.length - 1]? = some x := ⟨_,List.getElem?_eq_getElem hlast⟩
   have hx128 : 128 ≤ x.toNat := by
    have h := g3 (by rw [bs_size]; omega)
    rw [bs_at] at h
    simp only [bs_size] at h
    rw [List.getElem?_eq_getElem hlast] at hx
    rw [← Option.some.inj hx]
    exact h
   have HV := Lib.hid hvr
   have hab : ∀ m : List UInt8,(∀ c ∈ m,c ∈ sgn) → Lib.indexByte m x = -1 := fun m hm => indexByte_absent fun h => by
    have := sgn_ascii x (hm x h)
    omega
   have hcv : ∀ W,(convert 21 9 (.int .i32 r)).run Tryz.prog W = .ok (.string (bs l)) W := fun W => by
    rw [run_convert_int_string W _ _ .i32 r (by rw [Tryz.underlying21]; rfl) Tryz.underlying9,hl]
   have hIB : ∀ m : List UInt8,(∀ c ∈ m,c ∈ sgn) → ∀ W,Calls Tryz.prog 179 #[.string (bs m),.int .u8 (x.toNat : Int)] W fun e w' => e = .returned (.int .i64 (-1)) ∧ w' = W := fun m hm W => by
    have h := Tryz.strings_IndexByte (bs m) (x.toNat : Int) W
    have e : ((x.toNat : Int)).toNat.toUInt8 = x := by simp
    rw [e,bs_toList,hab m hm] at h
    exact h
   clear hvr hv g3 hl h3 hab
   rcases (by omega : l.length = 2 ∨ l.length = 3 ∨ l.length = 4) with h4 | h4 | h4
   ·have hsl : sgn.length = 12 := rfl
    have p1 : 1 < (bs sgn).size := by rw [bs_size]; decide
    have p2 : 1 < (bs l).size := by rw [bs_size]; omega
    have hy : (bs l)[1]'p2 = x := by
     rw [bs_at]
     rw [h4,List.getElem?_eq_getElem (by omega)] at hx
     exact Option.some.inj hx
    have ht : ((((bs sgn)[1]'p1).toNat : Int) != (((bs l)[1]'p2).toNat : Int)) = true := by
     rw [bs_at,hy]
     have e : (sgn[1]'(by decide) : UInt8) = 40 := rfl
     rw [e,bne_iff_ne]
     have e2 : ((40 : UInt8).toNat : Int) = 40 := rfl
     omega
    have hI1 := hIB
    rw [← hy] at hI1
    have hwr : IntKind.i64.wrap 2 = 2 := by decide
    have hex : (bs sgn).extract 2 (bs sgn).size = bs (sgn.drop 2) := rfl
    clear hx hlast g1 g2 hIB hy
    go_enter Tryz.func168,Tryz.ntmps168
    go_wp2_with fail
    refine (Tryz.utf8_ValidRune r _).mono ?_
    rintro e w' ⟨rfl,hw⟩
    rw [hw,HV.out]
    go_wp2_with fail
    refine wp_scope_straight ?_
    go_wp2_with fail
    refine wp_loop_rounds 1 ?_
    rw [rounds_succ]
    go_wp2_with fail
    refine wp_scope_straight ?_
    go_wp2_with fail
    go_quiet (fail)
    rename_i nq
    obtain ⟨w2,hw2⟩ : ∃ w2,w.drewN nq = w2 := ⟨_,rfl⟩
    have hb2 : Below w.heap.size w w2 := by rw [← hw2]; exact (Dn.of w nq).below _
    rw [hw2]
    clear hw2
    go_wp2_with fail
    go_quiet ((go_at_call 179; exact Calls.quiet_of_same (hI1 (List.take 10 (List.drop 2 sgn)) (fun c hc => List.mem_of_mem_drop (List.mem_of_mem_take hc)) _)))
    go_wp2_with fail
    simp only [Exit.noGoto,Exit.inBlock,Exit.then]
    go_ret
    exact ⟨rfl,hb2.trans ((Dn.of w2 _).below _)⟩
   ·have hsl : sgn.length = 12 := rfl
    have p1 : 2 < (bs sgn).size := by rw [bs_size]; decide
    have p2 : 2 < (bs l).size := by rw [bs_size]; omega
    have hy : (bs l)[2]'p2 = x := by
     rw [bs_at]
     rw [h4,List.getElem?_eq_getElem (by omega)] at hx
     exact Option.some.inj hx
    have ht : ((((bs sgn)[2]'p1).toNat : Int) != (((bs l)[2]'p2).toNat : Int)) = true := by
     rw [bs_at,hy]
     have e : (sgn[2]'(by decide) : UInt8) = 41 := rfl
     rw [e,bne_iff_ne]
     have e2 : ((41 : UInt8).toNat : Int) = 41 := rfl
     omega
    have hI1 := hIB
    rw [← hy] at hI1
    have hwr : IntKind.i64.wrap 3 = 3 := by decide
    have hex : (bs sgn).extract 3 (bs sgn).size = bs (sgn.drop 3) := rfl
    clear hx hlast g1 g2 hIB hy
    go_enter Tryz.func168,Tryz.ntmps168
    go_wp2_with fail
    refine (Tryz.utf8_ValidRune r _).mono ?_
    rintro e w' ⟨rfl,hw⟩
    rw [hw,HV.out]
    go_wp2_with fail
    refine wp_scope_straight ?_
    go_wp2_with fail
    refine wp_loop_rounds 1 ?_
    rw [rounds_succ]
    go_wp2_with fail
    refine wp_scope_straight ?_
    go_wp2_with fail
    go_quiet (fail)
    rename_i nq
    obtain ⟨w2,hw2⟩ : ∃ w2,w.drewN nq = w2 := ⟨_,rfl⟩
    have hb2 : Below w.heap.size w w2 := by rw [← hw2]; exact (Dn.of w nq).below _
    rw [hw2]
    clear hw2
    go_wp2_with fail
    go_quiet ((go_at_call 179; exact Calls.quiet_of_same (hI1 (List.take 9 (List.drop 3 sgn)) (fun c hc => List.mem_of_mem_drop (List.mem_of_mem_take hc)) _)))
    go_wp2_with fail
    simp only [Exit.noGoto,Exit.inBlock,Exit.then]
    go_ret
    exact ⟨rfl,hb2.trans ((Dn.of w2 _).below _)⟩
   ·have hsl : sgn.length = 12 := rfl
    have p1 : 3 < (bs sgn).size := by rw [bs_size]; decide
    have p2 : 3 < (bs l).size := by rw [bs_size]; omega
    have hy : (bs l)[3]'p2 = x := by
     rw [bs_at]
     rw [h4,List.getElem?_eq_getElem (by omega)] at hx
     exact Option.some.inj hx
    have ht : ((((bs sgn)[3]'p1).toNat : Int) != (((bs l)[3]'p2).toNat : Int)) = true := by
     rw [bs_at,hy]
     have e : (sgn[3]'(by decide) : UInt8) = 43 := rfl
     rw [e,bne_iff_ne]
     have e2 : ((43 : UInt8).toNat : Int) = 43 := rfl
     omega
    have hI1 := hIB
    rw [← hy] at hI1
    have hwr : IntKind.i64.wrap 4 = 4 := by decide
    have hex : (bs sgn).extract 4 (bs sgn).size = bs (sgn.drop 4) := rfl
    clear hx hlast g1 g2 hIB hy
    go_enter Tryz.func168,Tryz.ntmps168
    go_wp2_with fail
    refine (Tryz.utf8_ValidRune r _).mono ?_
    rintro e w' ⟨rfl,hw⟩
    rw [hw,HV.out]
    go_wp2_with fail
    refine wp_scope_straight ?_
    go_wp2_with fail
    refine wp_loop_rounds 1 ?_
    rw [rounds_succ]
    go_wp2_with fail
    refine wp_scope_straight ?_
    go_wp2_with fail
    go_quiet (fail)
    rename_i nq
    obtain ⟨w2,hw2⟩ : ∃ w2,w.drewN nq = w2 := ⟨_,rfl⟩
    have hb2 : Below w.heap.size w w2 := by rw [← hw2]; exact (Dn.of w nq).below _
    rw [hw2]
    clear hw2
    go_wp2_with fail
    go_quiet ((go_at_call 179; exact Calls.quiet_of_same (hI1 (List.take 8 (List.drop 4 sgn)) (fun c hc => List.mem_of_mem_drop (List.mem_of_mem_take hc)) _)))
    go_wp2_with fail
    simp only [Exit.noGoto,Exit.inBlock,Exit.then]
    go_ret
    exact ⟨rfl,hb2.trans ((Dn.of w2 _).below _)⟩
end
section
open Go.RowKit
def bdR (R : Nat) : Bool := decide (97 ≤ R ∧ R ≤ 122) || decide (65 ≤ R ∧ R ≤ 90) || decide (48 ≤ R ∧ R ≤ 57) || (decide (R < 128) && sgn.contains (UInt8.ofNat R))
theorem bdR_c (c : UInt8) : bdR c.toNat = bdC c := by
 unfold bdR bdC
 have h : (decide (c.toNat < 128) && sgn.contains (UInt8.ofNat c.toNat)) = sgn.contains c := by
  rw [UInt8.ofNat_toNat]
  by_cases hc : c.toNat < 128
  ·rw [decide_eq_true hc]; rfl
  ·rw [decide_eq_false hc]
   symm
   rw [Bool.false_and,Bool.eq_false_iff]
   intro h
   exact hc (sgn_ascii c (by simpa using h))
 rw [h]
 simp only [UInt8.le_iff_toNat_le,sgn]
 simp [Bool.decide_and]
theorem bdR_big {R : Nat} (h : 128 ≤ R) : bdR R = false := by
 unfold bdR
 simp
 omega
theorem decode_big (s : ByteArray) (pos : Nat) (h : pos < s.size) (hb : 128 ≤ (s[pos]'h).toNat) : 128 ≤ (Utf8.decode s pos).1 := by
 have e : s.get! (pos + 0) = s[pos]'h := by
  show s.get! pos = _
  simp [ByteArray.get!,getElem!_pos,h]
  rfl
 unfold Utf8.decode
 simp only [e]
 rw [if_neg (by omega)]
 repeat' split
 all_goals first | decide | (simp_all; omega) | simp_all
theorem idx_all (l : List UInt8) : ∀ (f pos : Nat),l.length ≤ pos + f → (0 ≤ Lib.idxFuncFrom (fun R => !bdR R) true (bs l) f pos ↔ (l.drop pos).all bdC = false)
 | 0,pos,h => by
   have : l.drop pos = [] := List.drop_of_length_le (by omega)
   rw [this]
   simp [Lib.idxFuncFrom]
 | f + 1,pos,h => by
   unfold Lib.idxFuncFrom
   rw [bs_size]
   by_cases hp : pos < l.length
   ·rw [if_pos hp]
    have hp2 : pos < (bs l).size := by rw [bs_size]; exact hp
    have hc : (bs l)[pos]'hp2 = l[pos] := bs_at pos hp2
    have hd : l.drop pos = l[pos] :: l.drop (pos + 1) := (List.getElem_cons_drop hp).symm
    rw [hd,List.all_cons]
    by_cases ha : (l[pos]).toNat < 128
    ·rw [decode_ascii (bs l) pos hp2 (by rw [hc]; exact ha),hc]
     simp only [bdR_c]
     cases hb : bdC l[pos] with
     | true =>
       rw [if_neg (by simp),Bool.true_and]
       exact idx_all l f (pos + 1) (by omega)
     | false => simp
    ·have h2 := decode_big (bs l) pos hp2 (by rw [hc]; omega)
     rw [bdR_big h2]
     have h3 : bdC l[pos] = false := by rw [← bdR_c]; exact bdR_big (by omega)
     rw [h3]
     simp
   ·rw [if_neg hp]
    have : l.drop pos = [] := List.drop_of_length_le (by omega)
    rw [this]
    simp
theorem idx_bd (l : List UInt8) : decide (0 ≤ Lib.idxFunc (fun R => !bdR R) true (bs l)) = !l.all bdC := by
 have h := idx_all l (bs l).size 0 (by rw [bs_size]; omega)
 rw [List.drop_zero] at h
 unfold Lib.idxFunc
 cases hb : l.all bdC with
 | true =>
   rw [hb] at h
   rw [decide_eq_false (fun h2 => by have := h.1 h2; cases this)]
   rfl
 | false =>
   rw [decide_eq_true (h.2 hb)]
   rfl
theorem crune_any (R : Nat) (hR : R ≤ 1114111) (w : World) :
 Calls Tryz.prog 103 #[.string (bs sgn),.int .i32 (R : Int)] w fun e w' => e = .returned (.bool (decide (R < 128) && sgn.contains (UInt8.ofNat R))) ∧ Below w.heap.size w w' := by
 by_cases h : R < 128
 ·refine (Tryz.strings_ContainsRune_ascii (bs sgn) (R : Int) w (by omega) (by omega)).mono ?_
  rintro e w' ⟨rfl,rfl⟩
  refine ⟨ret_bool ?_,Below.refl _ _⟩
  have e2 : ((R : Int)).toNat.toUInt8 = UInt8.ofNat R := rfl
  rw [bs_toList,e2,decide_eq_true h,Bool.true_and]
  by_cases hm : UInt8.ofNat R ∈ sgn
  ·rw [decide_eq_true (indexByte_nonneg hm)]
   exact (List.contains_iff_mem.2 hm).symm
  ·rw [indexByte_absent hm]
   have : sgn.contains (UInt8.ofNat R) = false := by
    rw [Bool.eq_false_iff]
    exact fun h => hm (List.contains_iff_mem.1 h)
   rw [this]
   rfl
 ·have hno : Calls Tryz.prog 168 #[.string (bs sgn),.int .i32 (R : Int)] w fun e w' => e = .returned (.int .i64 (-1)) ∧ Below w.heap.size w w' := by
   by_cases he : R = 65533
   ·subst he
    exact indexRune_err w
   ·exact indexRune_no (R : Int) (by omega) (by omega) (by omega) w
  have hd := Lib.hid (decide_eq_false h)
  clear h
  go_enter Tryz.func103,Tryz.ntmps103
  go_wp2_with fail
  refine hno.mono ?_
  rintro e w' ⟨rfl,hb⟩
  go_wp2_with fail
  go_ret
  exact ⟨ret_bool (by rw [hd.out]; rfl),hb⟩
theorem bad_any (R : Nat) (hR : R ≤ 1114111) (w : World) :
 Calls Tryz.prog 110 #[.int .i32 (R : Int)] w fun e w' => e = .returned (.bool (!bdR R)) ∧ Below w.heap.size w w' := by
 have hc := fun W => crune_any R hR W
 obtain ⟨q,hq⟩ : ∃ q,(decide (R < 128) && sgn.contains (UInt8.ofNat R)) = q := ⟨_,rfl⟩
 have hbd : Hid (bdR R = (decide (97 ≤ R ∧ R ≤ 122) || decide (65 ≤ R ∧ R ≤ 90) || decide (48 ≤ R ∧ R ≤ 57) || q)) := Lib.hid (by rw [← hq]; rfl)
 rw [hq] at hc
 have hs : ∀ W,Calls Tryz.prog 103 #[.string ⟨#[39,40,41,43,95,44,45,46,47,58,61,63]⟩,.int .i32 (R : Int)] W fun e w' => e = .returned (.bool q) ∧ Below W.heap.size W w' := hc
 clear hc hq
 have h0 : (0 : Int) ≤ R := by omega
 rcases (by omega : R < 48 ∨ (48 ≤ R ∧ R ≤ 57) ∨ (57 < R ∧ R < 65) ∨ (65 ≤ R ∧ R ≤ 90) ∨ (90 < R ∧ R < 97) ∨ (97 ≤ R ∧ R ≤ 122) ∨ 122 < R) with h | h | h | h | h | h | h
 all_goals
  go_enter Tryz.func110,Tryz.ntmps110
  go_wp2_with ((with_reducible refine (hs _).mono ?_); rintro e w1 ⟨rfl,hb1⟩)
  go_ret
  refine ⟨ret_bool ?_,?_⟩
  ·rw [hbd.out]
   first
    | (have k1 : 97 ≤ R ∧ R ≤ 122 := by omega
       rw [decide_eq_true k1]; rfl)
    | (have k1 : 65 ≤ R ∧ R ≤ 90 := by omega
       rw [decide_eq_true k1,Bool.or_true]; rfl)
    | (have k1 : 48 ≤ R ∧ R ≤ 57 := by omega
       rw [decide_eq_true k1,Bool.or_true]; rfl)
    | (have k1 : ¬ (97 ≤ R ∧ R ≤ 122) := by omega
       have k2 : ¬ (65 ≤ R ∧ R ≤ 90) := by omega
       have k3 : ¬ (48 ≤ R ∧ R ≤ 57) := by omega
       rw [decide_eq_false k1,decide_eq_false k2,decide_eq_false k3]; cases q <;> first | rfl | (simp; done) | (simp; omega))
  ·first
    | exact hb1
    | exact Below.refl _ _
theorem eg_bad : ∀ args w,(callFunc 110 args).run Tryz.prog w = .ok (.enter 110 args) w := enters_of Tryz.func110 (by kernel_rfl) rfl
theorem boundary_any (l : List UInt8) (w : World) (hb : l.length ≤ 1000000000) :
 Calls Tryz.prog 60 #[.string (bs l)] w fun e w' => e = .returned (.bool (bdOk l)) ∧ Below w.heap.size w w' := by
 have hf := Tryz.strings_ContainsFunc_grows 110 #[] eg_bad (fun R => !bdR R) (bs l) w (fun W x hx _ => bad_any x hx W)
 rw [idx_bd] at hf
 obtain ⟨q,hq⟩ : ∃ q,l.all bdC = q := ⟨_,rfl⟩
 have hbd : Hid (bdOk l = (decide (1 ≤ l.length) && decide (l.length ≤ 70) && q)) := Lib.hid (by rw [← hq]; rfl)
 rw [hq] at hf
 clear hq
 obtain ⟨n,hn⟩ : ∃ n,l.length = n := ⟨_,rfl⟩
 have HN := Lib.hid hn
 rcases (by omega : n = 0 ∨ (1 ≤ n ∧ n ≤ 70) ∨ 70 < n) with h | h | h
 ·subst h
  go_enter Tryz.func60,Tryz.ntmps60
  go_wp2_with fail
  go_ret
  exact ⟨ret_bool (by rw [hbd.out,HN.out]; rfl),Below.refl _ _⟩
 ·obtain ⟨h1,h2⟩ := h
  go_enter Tryz.func60,Tryz.ntmps60
  go_wp2_with fail
  refine hf.mono ?_
  rintro e w1 ⟨rfl,hb1⟩
  go_wp2_with fail
  go_ret
  exact ⟨ret_bool (by rw [hbd.out,HN.out,decide_eq_true h1,decide_eq_true h2]; cases q <;> rfl),hb1⟩
 ·go_enter Tryz.func60,Tryz.ntmps60
  go_wp2_with fail
  go_ret
  exact ⟨ret_bool (by rw [hbd.out,HN.out,decide_eq_false (p := n ≤ 70) (by omega),Bool.and_false]; rfl),Below.refl _ _⟩
end
end Go.Proofs.YtkllecicddfjpaaGreatDoor
