/- The walk of the law, part 27. -/
import Derived.Test.YtkllecicddfjpaaGreatDoorJ25
import Derived.Test.YtkllecicddfjpaaGreatDoorJ02
import Derived.Test.YtkllecicddfjpaaGreatDoorJ26
set_option maxRecDepth 100000
set_option maxHeartbeats 16000000
set_option linter.unusedVariables false
set_option linter.unusedSimpArgs false
namespace Go.Proofs.YtkllecicddfjpaaGreatDoor
section
open Go.RowKit Go.Shelf
attribute [local go_sem] Oper.semAt_some
theorem each_row (f Bs n c : Nat) (A : Option Addr) (b : List UInt8) (hn : b.length = n) (hpl : Pl A c) (hnc : n ≤ c) (hb : n ≤ 1000000000) (w : World)
 (hBs : w.cell? ⟨Bs,0,none⟩ = some (.slice A n c)) (hA : Rb w A b) :
 SeqRow Fence.wide f Tryz.prog 111 #[.pointer (some ⟨Bs,0,none⟩)] (fun x => #[trv x]) (EachK Bs A b) none (fun ys => trEnd ys = b.length) (fun _ => True) (fun pre x => TrOk b (trEnd pre) x) w :=
 fun l J Jx W hW hJ _ hY h0 => each1_in f l Bs n c A b hn hpl hnc hb J Jx hJ hY W ((hW.cell (p := ⟨Bs,0,none⟩) (cell_lt hBs)).trans hBs) (hA.below hW) h0
def SpSt (b bd : List UInt8) (e : Nat) (fz : Int) (la : Nat) (outs : List (List UInt8)) : Prop :=
 la ≤ e ∧ e ≤ b.length ∧ outs.length ≤ e ∧ ((fz = -1 ∧ outs = [] ∧ splitP bd (lns b) = splitP bd (lns (b.drop e))) ∨
  ∃ F : Nat,fz = (F : Int) ∧ F ≤ la ∧ splitP bd (lns b) = bodyP bd (lns (b.drop e)) (seg b F la) (seg b la e) outs)
theorem SpSt.start (b bd : List UInt8) : SpSt b bd 0 (-1) 0 [] := ⟨Nat.le_refl _,Nat.zero_le _,Nat.le_refl _,.inl ⟨rfl,rfl,by rw [List.drop_zero]⟩⟩
section
variable {b bd : List UInt8} {e la : Nat} {fz : Int} {outs : List (List UInt8)} {t : Nat × Nat × Nat}
theorem SpSt.skip (h : SpSt b bd e fz la outs) (ht : TrOk b e t) (hm : mk bd (seg b t.1 t.2.1) ≠ 1) (hm2 : fz < 0 ∨ mk bd (seg b t.1 t.2.1) = 0) : SpSt b bd t.2.2 fz t.2.1 outs := by
 obtain ⟨h1,h2,h4,h3⟩ := h
 refine ⟨ht.hi,ht.le,by have := ht.up; omega,?_⟩
 rcases h3 with ⟨rfl,rfl,h3⟩ | ⟨F,rfl,hF,h3⟩
 ·refine .inl ⟨rfl,rfl,?_⟩
  rw [h3,ht.ln,splitP,if_neg hm]
 ·have hm3 : mk bd (seg b t.1 t.2.1) = 0 := by
   rcases hm2 with h | h
   ·omega
   ·exact h
  have hfr := ht.fr
  have hlo := ht.lo
  refine .inr ⟨F,rfl,by omega,?_⟩
  rw [h3,ht.ln,bodyP,if_pos hm3]
  congr 1
  rw [seg_app hF h1,hfr,seg_app (by omega) (by omega)]
theorem SpSt.first (h : SpSt b bd e fz la outs) (ht : TrOk b e t) (hf : fz < 0) (hm : mk bd (seg b t.1 t.2.1) = 1) : SpSt b bd t.2.2 (t.2.2 : Int) t.2.2 outs := by
 obtain ⟨h1,h2,h4,h3⟩ := h
 rcases h3 with ⟨rfl,rfl,h3⟩ | ⟨F,rfl,hF,h3⟩
 ·refine ⟨Nat.le_refl _,ht.le,Nat.zero_le _,.inr ⟨t.2.2,rfl,Nat.le_refl _,?_⟩⟩
  rw [h3,ht.ln,splitP,if_pos hm,seg_self]
 ·omega
theorem SpSt.part (h : SpSt b bd e fz la outs) (ht : TrOk b e t) {F : Nat} (hf : fz = (F : Int)) (hm : mk bd (seg b t.1 t.2.1) = 1) : SpSt b bd t.2.2 (t.2.2 : Int) t.2.2 (outs ++ [seg b F la]) := by
 obtain ⟨h1,h2,h5,h3⟩ := h
 rcases h3 with ⟨rfl,rfl,h3⟩ | ⟨F',h4,hF,h3⟩
 ·omega
 ·obtain rfl : F' = F := by omega
  refine ⟨Nat.le_refl _,ht.le,by rw [List.length_append,List.length_singleton]; have := ht.up; omega,.inr ⟨t.2.2,rfl,Nat.le_refl _,?_⟩⟩
  rw [h3,ht.ln,bodyP,if_neg (by rw [hm]; omega),if_pos hm,seg_self]
theorem SpSt.last (h : SpSt b bd e fz la outs) (ht : TrOk b e t) {F : Nat} (hf : fz = (F : Int)) (hm : mk bd (seg b t.1 t.2.1) = 2) : splitP bd (lns b) = some (outs ++ [seg b F la]) := by
 obtain ⟨h1,h2,h5,h3⟩ := h
 rcases h3 with ⟨rfl,rfl,h3⟩ | ⟨F',h4,hF,h3⟩
 ·omega
 ·obtain rfl : F' = F := by omega
  rw [h3,ht.ln,bodyP,if_neg (by rw [hm]; omega),if_neg (by rw [hm]; omega)]
theorem SpSt.none (h : SpSt b bd e fz la outs) (he : e = b.length) : splitP bd (lns b) = none := by
 subst he
 obtain ⟨h1,h2,h5,h3⟩ := h
 have hd : lns (b.drop b.length) = [] := by rw [List.drop_length]; rfl
 rcases h3 with ⟨rfl,rfl,h3⟩ | ⟨F',h4,hF,h3⟩
 ·rw [h3,hd]; rfl
 ·rw [h3,hd]; rfl
theorem SpSt.from_le (h : SpSt b bd e fz la outs) (hz : 0 ≤ fz) : ∃ F : Nat,fz = (F : Int) ∧ F ≤ la := by
 obtain ⟨h1,h2,h5,h3⟩ := h
 rcases h3 with ⟨rfl,rfl,h3⟩ | ⟨F',h4,hF,h3⟩
 ·omega
 ·exact ⟨F',h4,hF⟩
end
theorem trimR_any (A : Option Addr) (l : List UInt8) (n c : Nat) (w : World) (hn : l.length = n) (hA : Rb w A l) (hnc : n ≤ c) (hc : c ≤ maxLen) :
 Calls Tryz.prog 62 #[.slice A n c,.string ⟨#[32,9]⟩] w fun e w' => e = .returned (.slice A (trimE l).length c) ∧ Below w.heap.size w w' := by
 subst hn
 have h := Any.bytes_TrimRight_laid Tryz.trimRightL (by kernel_rfl) A l.length c (nums l) ⟨#[32,9]⟩ w (nums_len l) hnc (by unfold maxLen at hc; omega) (bytesIn_of hA) (fun x hx => by
  obtain ⟨y,_,rfl⟩ := List.mem_map.1 hx
  have := u8_ge y
  have := u8_lt y
  omega) (by decide) (ascii_of_all (by decide))
 rw [bytesOf_nums] at h
 exact h
theorem trimE_take (l : List UInt8) : trimE l = l.take (trimE l).length := Lib.trimRightS_eq_take l [32,9]
def SplOut (b bd : List UInt8) (w : World) (e : Ending) (w' : World) : Prop :=
 ∃ (v : Value) (ts : List Tl),e = .returned (.tuple #[v,.int .i64 (splitS b bd).2]) ∧ ts.map (·.1) = (splitS b bd).1 ∧ OwnM w' w.heap.size 22 1 v ts.length (ts.map (·.2)) ∧ LsOk w' w.heap.size [v] ts
structure SpI (w : World) (Bf : Nat) (A : Option Addr) (n c : Nat) (b bd : List UInt8) (W : World) (fz : Int) (la : Nat) (ov : Value) (ts : List Tl) : Prop where
 bB : Boxed W w.heap.size 22 (.slice A n c)
 bD : Boxed W (w.heap.size + 1) 9 (.string (bs bd))
 bO : Boxed W (w.heap.size + 1 + 1) 66 ov
 bC : Boxed W (w.heap.size + 1 + 1 + 1) 40 (.int .i64 0)
 bF : Boxed W Bf 3 (.int .i64 fz)
 bL : Boxed W (Bf + 1) 3 (.int .i64 (la : Int))
 bE : Boxed W (Bf + 1 + 1) 22 (.slice A n c)
 rb : Rb W A b
 ow : OwnM W (Bf + 3) 22 1 ov ts.length (ts.map (·.2))
 ls : LsOk W (Bf + 3) [ov] ts
 be : Below w.heap.size w W
 sz : Bf + 3 ≤ W.heap.size
theorem SpI.next {w : World} {Bf : Nat} {A : Option Addr} {n c : Nat} {b bd : List UInt8} {W W' : World} {fz : Int} {la : Nat} {ov : Value} {ts : List Tl} {S : Nat → Prop} (h : SpI w Bf A n c b bd W fz la ov ts)
 (hx : Ext S W W') (hc : ∀ k cs t fr,W.heap[k]? = some (.cells cs t fr) → ¬ S k) (hw : ∀ k,S k → w.heap.size ≤ k) : SpI w Bf A n c b bd W' fz la ov ts :=
 ⟨box_ext h.bB hx hc,box_ext h.bD hx hc,box_ext h.bO hx hc,box_ext h.bC hx hc,box_ext h.bF hx hc,box_ext h.bL hx hc,box_ext h.bE hx hc,h.rb.ext hx hc,h.ow.ext hx hc,h.ls.ext hx hc,hx.below h.be h.be.size hw,Nat.le_trans h.sz hx.size⟩
theorem SpI.below {w : World} {Bf : Nat} {A : Option Addr} {n c : Nat} {b bd : List UInt8} {W W' : World} {fz : Int} {la : Nat} {ov : Value} {ts : List Tl} (h : SpI w Bf A n c b bd W fz la ov ts) (hb : Below W.heap.size W W') : SpI w Bf A n c b bd W' fz la ov ts :=
 h.next (S := fun _ => False) (Ext.of_below _ hb) (fun _ _ _ _ _ h => h) (fun _ h => h.elim)
section
variable {w : World} {Bf : Nat} {A : Option Addr} {n c : Nat} {b bd : List UInt8} {W W' : World} {fz : Int} {la : Nat} {ov : Value} {ts : List Tl}
theorem SpI.setL (h : SpI w Bf A n c b bd W fz la ov ts) (hA : Rb w A b) (hl : w.heap.size + 4 ≤ Bf) (la' : Nat) : SpI w Bf A n c b bd (W.setCell ⟨Bf + 1,0,none⟩ (.int .i64 (la' : Int))) fz la' ov ts := by
 have hx : Ext (fun k => k = Bf + 1) W (W.setCell ⟨Bf + 1,0,none⟩ (.int .i64 (la' : Int))) := Ext.setCell _ W ⟨Bf + 1,0,none⟩ _ rfl
 have hbe := h.be.setCell (p := ⟨Bf + 1,0,none⟩) (by simp; omega) (.int .i64 (la' : Int))
 exact ⟨box_ext2 h.bB hx (by omega),box_ext2 h.bD hx (by omega),box_ext2 h.bO hx (by omega),box_ext2 h.bC hx (by omega),box_ext2 h.bF hx (by omega),h.bL.set _,box_ext2 h.bE hx (by omega),hA.below hbe,
  hx.own h.ow (fun k hk e => by have := (h.ow.lt k hk).1; omega),fun t ht => ⟨hx.own (h.ls t ht).1 (fun k hk e => by have := ((h.ls t ht).1.lt k hk).1; omega),(h.ls t ht).2⟩,hbe,by simpa using h.sz⟩
theorem SpI.setF (h : SpI w Bf A n c b bd W fz la ov ts) (hA : Rb w A b) (hl : w.heap.size + 4 ≤ Bf) (fz' : Int) : SpI w Bf A n c b bd (W.setCell ⟨Bf,0,none⟩ (.int .i64 fz')) fz' la ov ts := by
 have hx : Ext (fun k => k = Bf) W (W.setCell ⟨Bf,0,none⟩ (.int .i64 fz')) := Ext.setCell _ W ⟨Bf,0,none⟩ _ rfl
 have hbe := h.be.setCell (p := ⟨Bf,0,none⟩) (by simp; omega) (.int .i64 fz')
 exact ⟨box_ext2 h.bB hx (by omega),box_ext2 h.bD hx (by omega),box_ext2 h.bO hx (by omega),box_ext2 h.bC hx (by omega),h.bF.set _,box_ext2 h.bL hx (by omega),box_ext2 h.bE hx (by omega),hA.below hbe,
  hx.own h.ow (fun k hk e => by have := (h.ow.lt k hk).1; omega),fun t ht => ⟨hx.own (h.ls t ht).1 (fun k hk e => by have := ((h.ls t ht).1.lt k hk).1; omega),(h.ls t ht).2⟩,hbe,by simpa using h.sz⟩
theorem SpI.app (h : SpI w Bf A n c b bd W fz la ov ts) (hA : Rb w A b) (hl : w.heap.size + 4 ≤ Bf) {ov' vC : Value} {l : List UInt8} (hx : Ext (fun k => k = w.heap.size + 1 + 1 ∨ nb ov k) W W') (hO : Boxed W' (w.heap.size + 1 + 1) 66 ov')
 (ho : OwnM W' (Bf + 3) 22 1 ov' (ts.length + 1) (ts.map (·.2) ++ [vC])) (hc : OwnM W' (Bf + 3) 5 1 vC l.length (l.map bv)) (hv : ∀ k,nb ov' k → nb ov k ∨ W.heap.size ≤ k) (hvc : ∀ k,nb vC k → ¬ nb ov' k) :
 SpI w Bf A n c b bd W' fz la ov' (ts ++ [(l,vC)]) := by
 have hno : ∀ k,k < Bf + 3 → k ≠ w.heap.size + 1 + 1 → ¬ (k = w.heap.size + 1 + 1 ∨ nb ov k) := by
  rintro k h1 h2 (h3 | h3)
  ·exact h2 h3
  ·have := (h.ow.lt k h3).1
   omega
 have hbe : Below w.heap.size w W' := hx.below h.be h.be.size (by
  rintro k (h1 | h1)
  ·omega
  ·have := (h.ow.lt k h1).1
   omega)
 refine ⟨box_ext2 h.bB hx (hno _ (by omega) (by omega)),box_ext2 h.bD hx (hno _ (by omega) (by omega)),hO,box_ext2 h.bC hx (hno _ (by omega) (by omega)),box_ext2 h.bF hx (hno _ (by omega) (by omega)),box_ext2 h.bL hx (hno _ (by omega) (by omega)),box_ext2 h.bE hx (hno _ (by omega) (by omega)),hA.below hbe,
  (by rw [List.length_append,List.map_append]; exact ho),fun t ht => ?_,hbe,Nat.le_trans h.sz hx.size⟩
 rcases List.mem_append.1 ht with ht | ht
 ·obtain ⟨h1,h2⟩ := h.ls t ht
  refine ⟨hx.own h1 fun k hk hs => ?_,fun k hk u hu => ?_⟩
  ·rcases hs with rfl | hs
   ·have := (h1.lt _ hk).1
    omega
   ·exact h2 k hk ov (by simp) hs
  ·simp only [List.mem_singleton] at hu
   subst hu
   intro hk2
   rcases hv k hk2 with h3 | h3
   ·exact h2 k hk ov (by simp) h3
   ·have := (h1.lt k hk).2
    omega
 ·simp only [List.mem_singleton] at ht
  subst ht
  refine ⟨hc,fun k hk u hu => ?_⟩
  simp only [List.mem_singleton] at hu
  subst hu
  exact hvc k hk
theorem SpI.again (h : SpI w Bf A n c b bd W fz la ov ts) (hA : Rb w A b) (hl : w.heap.size + 4 ≤ Bf) : SpI w Bf A n c b bd ((W.setCell ⟨w.heap.size + 1 + 1,0,none⟩ ov).setCell ⟨w.heap.size + 1 + 1 + 1,0,none⟩ (.int .i64 0)) fz la ov ts := by
 have hx : Ext (fun k => k = w.heap.size + 1 + 1 ∨ k = w.heap.size + 1 + 1 + 1) W ((W.setCell ⟨w.heap.size + 1 + 1,0,none⟩ ov).setCell ⟨w.heap.size + 1 + 1 + 1,0,none⟩ (.int .i64 0)) := ((Ext.refl _ W).set ⟨w.heap.size + 1 + 1,0,none⟩ ov (.inl rfl)).set ⟨w.heap.size + 1 + 1 + 1,0,none⟩ _ (.inr rfl)
 have hno : ∀ k,Bf + 3 ≤ k → ¬ (k = w.heap.size + 1 + 1 ∨ k = w.heap.size + 1 + 1 + 1) := by
  intro k h1 h2
  omega
 have hbe : Below w.heap.size w ((W.setCell ⟨w.heap.size + 1 + 1,0,none⟩ ov).setCell ⟨w.heap.size + 1 + 1 + 1,0,none⟩ (.int .i64 0)) := hx.below h.be h.be.size (by intro k hk; omega)
 exact ⟨box_ext2 h.bB hx (by omega),box_ext2 h.bD hx (by omega),(h.bO.set ov).other (by omega) _,(h.bC.other (by omega) _).set _,box_ext2 h.bF hx (by omega),box_ext2 h.bL hx (by omega),box_ext2 h.bE hx (by omega),hA.below hbe,
  hx.own h.ow (fun k hk => hno k (h.ow.lt k hk).1),fun t ht => ⟨hx.own (h.ls t ht).1 (fun k hk => hno k ((h.ls t ht).1.lt k hk).1),(h.ls t ht).2⟩,hbe,Nat.le_trans h.sz hx.size⟩
def SpW (w : World) (Bf : Nat) (ov : Value) (k : Nat) : Prop := k = w.heap.size + 1 + 1 ∨ k = Bf ∨ k = Bf + 1 ∨ nb ov k ∨ k = w.heap.size + 1 + 1 + 1
theorem OwnM.ty {w : World} {base : Nat} {e : TypeId} {size : Nat} {v : Value} {n : Nat} {xs : List Value} (h : OwnM w base e size v n xs) {k : Nat} (hk : nb v k) : ∃ cur fz,w.heap[k]? = some (.cells cur e fz) := by
 rcases h.2 with ⟨rfl,_⟩ | ⟨g,cap,cur,fz,rfl,_,hgg,_⟩
 ·exact (nb_nil hk).elim
 ·simp [nb,Value.ownBlock] at hk
  subst hk
  exact ⟨cur,fz,hgg⟩
theorem SpI.kept (h : SpI w Bf A n c b bd W fz la ov ts) (hl : w.heap.size + 4 ≤ Bf) (hx : Ext (SpW w Bf ov) W W') (hr : Rb W' A b) : KeepsFrom (Bf + 3) W W' ∧ EachK (Bf + 1 + 1) A b W W' := by
 have hty : ∀ k cs t fr,SpW w Bf ov k → W.heap[k]? = some (.cells cs t fr) → t ≠ 97 := by
  intro k cs t fr hk hh e
  subst e
  rcases hk with rfl | rfl | rfl | hk | rfl
  ·rw [show W.heap[_]? = _ from h.bO] at hh
   simp at hh
  ·rw [show W.heap[_]? = _ from h.bF] at hh
   simp at hh
  ·rw [show W.heap[_]? = _ from h.bL] at hh
   simp at hh
  ·obtain ⟨cur,fz,hg⟩ := h.ow.ty hk
   rw [hg] at hh
   simp at hh
  ·rw [show W.heap[_]? = _ from h.bC] at hh
   simp at hh
 refine ⟨⟨hx.size,fun k o hB hk ho => ?_⟩,fun k cs fr hk => hx.block k (Array.getElem?_eq_some_iff.1 hk).1 (fun hs => hty k cs _ fr hs hk rfl),hx.block _ h.bE.lt ?_,fun _ => hr⟩
 ·have hno : ¬ SpW w Bf ov k := by
   rintro (rfl | rfl | rfl | hk2 | rfl)
   ·omega
   ·omega
   ·omega
   ·obtain ⟨cur,fz,hg⟩ := h.ow.ty hk2
    rw [hg] at hk
    cases hk
    cases ho
   ·omega
  exact (hx.block k (Array.getElem?_eq_some_iff.1 hk).1 hno).trans hk
 ·rintro (h1 | h1 | h1 | h1 | h1)
  ·omega
  ·omega
  ·omega
  ·have := (h.ow.lt _ h1).1
   omega
  ·omega
end
theorem split_in (f : Nat) (hf : 5 ≤ f) (A : Option Addr) (b bd : List UInt8) (n c : Nat) (w : World) (hn : b.length = n) (hA : Rb w A b) (hpl : Pl A c) (hnc : n ≤ c) (hcm : c ≤ maxLen) (hb : n ≤ 1000000) (hbd : bd.length ≤ 1000000) :
 CallsIn Fence.wide f Tryz.prog 30 #[.slice A n c,.string (bs bd)] w fun e w' => SplOut b bd w e w' ∧ Below w.heap.size w w' := by
 have HN := Lib.hid hn
 clear hn
 refine callsIn_of_wp_marks Tryz.func30 rfl trivial ?_ rfl
 simp only [Tryz.ntmps30,List.size_toArray,List.length_cons,List.length_nil,Nat.reduceAdd,Nat.reduceSub,Array.replicate_succ,Array.replicate_zero,List.push_toArray,List.append_toArray,List.nil_append,List.cons_append]
 gi_wp2
 refine ⟨trivial,fun h => by simp [Fence.wide] at h,?_⟩
 refine (callsIn_wide.2 (boundary_any bd _ (by omega))).mono ?_
 rintro e w1 ⟨rfl,hb1⟩
 have hz1 : w.heap.size + 4 ≤ w1.heap.size := by have := hb1.size; simpa using this
 have b1 := box_below ((((Boxed.new w 22 (.slice A n c)).alloc (.cells #[.string (bs bd)] 9)).alloc (.cells #[.slice none 0 0] 66)).alloc (.cells #[.int .i64 0] 40)) hb1
 have b2 := box_below (((Boxed.new (w.alloc (.cells #[.slice A n c] 22)) 9 (.string (bs bd))).alloc (.cells #[.slice none 0 0] 66)).alloc (.cells #[.int .i64 0] 40)) hb1
 have b3 := box_below ((Boxed.new ((w.alloc (.cells #[.slice A n c] 22)).alloc (.cells #[.string (bs bd)] 9)) 66 (.slice none 0 0)).alloc (.cells #[.int .i64 0] 40)) hb1
 have b4 := box_below (Boxed.new (((w.alloc (.cells #[.slice A n c] 22)).alloc (.cells #[.string (bs bd)] 9)).alloc (.cells #[.slice none 0 0] 66)) 40 (.int .i64 0)) hb1
 rw [World.size_alloc] at b2
 rw [World.size_alloc,World.size_alloc] at b3
 rw [World.size_alloc,World.size_alloc,World.size_alloc] at b4
 have hB1 : Below w.heap.size w w1 := ((((((Below.refl _ w).alloc (Nat.le_refl _) _).alloc (by simp) _).alloc (by simp; omega) _).alloc (by simp; omega) _)).trans (hb1.mono (by simp; omega))
 have hA1 : Rb w1 A b := hA.below hB1
 have hA0 := hA
 clear hb1 hA
 have l0 : w.heap.size < w1.heap.size := by omega
 have l1 : w.heap.size + 1 < w1.heap.size := by omega
 have l2 : w.heap.size + 1 + 1 < w1.heap.size := by omega
 have l3 : w.heap.size + 1 + 1 + 1 < w1.heap.size := by omega
 have c1 := b1.cell
 have c2 := b2.cell
 have c3 := b3.cell
 have c4 := b4.cell
 have f3 := b3.frozen
 have f4 := b4.frozen
 cases hok : bdOk bd with
 | false =>
   have HS : Hid (splitS b bd = ([],1)) := Lib.hid (by unfold splitS; rw [hok]; rfl)
   clear hok
   gi_wp2
   have g3 : ((w1.setCell ⟨w.heap.size + 1 + 1,0,none⟩ (.slice none 0 0)).setCell ⟨w.heap.size + 1 + 1 + 1,0,none⟩ (.int .i64 1)).cell? ⟨w.heap.size + 1 + 1,0,none⟩ = some (.slice none 0 0) := ((b3.set (.slice none 0 0)).other (by omega) _).cell
   have g4 : ((w1.setCell ⟨w.heap.size + 1 + 1,0,none⟩ (.slice none 0 0)).setCell ⟨w.heap.size + 1 + 1 + 1,0,none⟩ (.int .i64 1)).cell? ⟨w.heap.size + 1 + 1 + 1,0,none⟩ = some (.int .i64 1) := ((b4.other (by omega) _).set (.int .i64 1)).cell
   refine ⟨.tuple #[.slice none 0 0,.int .i64 1],by simp [results,Tryz.f30,go_sem,g3,g4],⟨.slice none 0 0,[],by rw [HS.out],by rw [HS.out]; rfl,OwnM.nil _ _ _ _,fun t ht => by simp at ht⟩,(hB1.setCell (by simp; omega) _).setCell (by simp; omega) _⟩
 | true =>
   gi_wp2
   refine ⟨trivial,fun h => by simp [Fence.wide] at h,?_⟩
   refine (each_in (f - 1) _ _ _ _).mono ?_
   rintro e w2 ⟨rfl,rfl⟩
   gi_wp2
   obtain ⟨W0,hW0⟩ : ∃ W0,((w1.alloc (.cells #[.int .i64 (-1)] 3)).alloc (.cells #[.int .i64 0] 3)).alloc (.cells #[.slice A n c] 22) = W0 := ⟨_,rfl⟩
   have hsz : W0.heap.size = w1.heap.size + 3 := by rw [← hW0]; simp
   have hI0 : SpI w w1.heap.size A n c b bd W0 (-1) 0 (.slice none 0 0) [] := by
    have k1 := ((Boxed.new w1 3 (.int .i64 (-1))).alloc (.cells #[.int .i64 0] 3)).alloc (.cells #[.slice A n c] 22)
    have k2 := (Boxed.new (w1.alloc (.cells #[.int .i64 (-1)] 3)) 3 (.int .i64 0)).alloc (.cells #[.slice A n c] 22)
    have k3 := Boxed.new ((w1.alloc (.cells #[.int .i64 (-1)] 3)).alloc (.cells #[.int .i64 0] 3)) 22 (.slice A n c)
    rw [World.size_alloc] at k2
    rw [World.size_alloc,World.size_alloc] at k3
    have hbb : Below w1.heap.size w1 (((w1.alloc (.cells #[.int .i64 (-1)] 3)).alloc (.cells #[.int .i64 0] 3)).alloc (.cells #[.slice A n c] 22)) := (((Below.refl _ w1).alloc (Nat.le_refl _) _).alloc (by simp) _).alloc (by simp; omega) _
    rw [← hW0]
    exact ⟨box_below b1 hbb,box_below b2 hbb,box_below b3 hbb,box_below b4 hbb,k1,k2,k3,hA1.below hbb,OwnM.nil _ _ _ _,fun t ht => by simp at ht,hB1.trans (hbb.mono (by omega)),by simp⟩
   rw [hW0]
   clear hW0 c1 c2 c3 c4 f3 f4 b1 b2 b3 b4 hA1 hB1
   refine wpIn_rangeFunc_row (α := Nat × Nat × Nat) rfl (by omega) (gf := 111) (lb := #[.pointer (some ⟨w1.heap.size + 1 + 1,0,none⟩)]) rfl trivial (enters_of Tryz.func111 (by kernel_rfl) rfl)
    (each_row (f - 1) (w1.heap.size + 1 + 1) n c A b HN.out hpl hnc (by omega) W0 hI0.bE.cell hI0.rb) (fun r h => by cases h) (fun h k => h.trans k) ?kb (Below.refl _ _) (fun _ => rfl)
    (fun pre W => ∃ fz la ov ts,SpI w w1.heap.size A n c b bd W fz la ov ts ∧ Hid (SpSt b bd (trEnd pre) fz la (ts.map (·.1))))
    (fun cd _ W => cd = .ret ∧ ∃ fz la ov ts,SpI w w1.heap.size A n c b bd W fz la ov ts ∧ Hid (splitP bd (lns b) = some (ts.map (·.1))))
    ?hi ?hix ?hit ?hixt ⟨-1,0,_,[],hI0,Lib.hid (SpSt.start b bd)⟩
    (fun x a' W => ∃ Lp,a' = { tmps := #[.slice A n c,.string (bs bd),.pointer (some ⟨w.heap.size,0,none⟩),.pointer (some ⟨w.heap.size + 1,0,none⟩),.pointer (some ⟨w.heap.size + 1 + 1,0,none⟩),.pointer (some ⟨w.heap.size + 1 + 1 + 1,0,none⟩),.pointer (some ⟨w1.heap.size,0,none⟩),.pointer (some ⟨w1.heap.size + 1,0,none⟩),.pointer (some ⟨Lp,0,none⟩),undef,.string (bs bd),.bool true,.bool false,.slice A n c,.func (.func 111) #[] #[.pointer (some ⟨w1.heap.size + 1 + 1,0,none⟩)],trv x,undef,undef,undef,undef,undef,undef,undef,undef,undef,undef,undef,undef,undef,undef,undef,undef,undef,undef,undef,undef,undef,undef,undef,undef,undef,undef,undef,undef,undef,undef,undef,undef,undef,undef,undef,undef,undef,undef,undef,undef,undef,undef,undef,undef,undef,undef,undef,undef],defers := [] } ∧ W.heap[Lp]? = some (.cells #[.int .i64 x.1,.int .i64 x.2.1,.int .i64 x.2.2] 97))
    ?hax ?assign ?body ?done ?stop
   case kb =>
    intro W l o o' hl ho hc
    exact ⟨fun k cs fr hk => World.putObj_heap_other (fun e => not_cells ho hc _ _ _ _ hk e),World.putObj_heap_other (by omega),fun h => h.ext (ext_putObj W l o') (not_cells ho hc)⟩
   case hi =>
    rintro s X Y ⟨fz,la,ov,ts,h,hs⟩ hg
    exact ⟨fz,la,ov,ts,h.next (ext_none hg) (fun _ _ _ _ _ h => h) (fun _ h => h.elim),hs⟩
   case hix =>
    rintro cd s X Y ⟨e,fz,la,ov,ts,h,hs⟩ hg
    exact ⟨e,fz,la,ov,ts,h.next (ext_none hg) (fun _ _ _ _ _ h => h) (fun _ h => h.elim),hs⟩
   case hit =>
    rintro s W l o o' ⟨fz,la,ov,ts,h,hs⟩ hl ho hc
    exact ⟨fz,la,ov,ts,h.next (ext_putObj W l o') (not_cells ho hc) (fun k e => by subst e; omega),hs⟩
   case hixt =>
    rintro cd s W l o o' ⟨e,fz,la,ov,ts,h,hs⟩ hl ho hc
    exact ⟨e,fz,la,ov,ts,h.next (ext_putObj W l o') (not_cells ho hc) (fun k e => by subst e; omega),hs⟩
   case hax =>
    rintro x a' ⟨⟩ W l o o' ⟨Lp,e,h⟩ hl ho hc
    exact ⟨Lp,e,(World.putObj_heap_other (fun e => not_cells ho hc _ _ _ _ h e)).trans h⟩
   case assign =>
    rintro l pre ⟨p,q,r⟩ W K ⟨fz,la,ov,ts,h,hs⟩ hpr hK
    simp only [trv]
    gi_wp2
    have hb0 : Below W.heap.size W (W.alloc (.cells #[.int .i64 p,.int .i64 q,.int .i64 r] 97)) := (Below.refl _ _).alloc (Nat.le_refl _) _
    have h0 := h.bE.lt
    exact hK _ _ ((KeepsOthers.alloc W _).from _) ⟨fun k cs fr hk => hb0.block k (Array.getElem?_eq_some_iff.1 hk).1,hb0.block _ h0,fun h => h.below hb0⟩ ⟨fz,la,ov,ts,h.below hb0,hs⟩ ⟨W.heap.size,rfl,World.alloc_heap_new W _⟩
   case body =>
    rintro l pre ⟨p,q,r⟩ a' W hl ⟨fz,la,ov,ts,hM,hSt⟩ ⟨Lp,rfl,hline⟩ hpr
    simp only [trv]
    have hsz2 : w1.heap.size + 3 ≤ W.heap.size := hM.sz
    have hfr := hpr.fr
    have hlo := hpr.lo
    have hhi := hpr.hi
    have hle := hpr.le
    simp only at hfr hlo hhi hle
    rw [HN.out] at hle
    have hline0 : W.cell? ⟨Lp,0,none⟩ = some (.int .i64 p) := by simp [World.cell?,hline]
    have hline1 : W.cell? ⟨Lp,1,none⟩ = some (.int .i64 q) := by simp [World.cell?,hline]
    have cB := hM.bB.cell
    obtain ⟨A',hsl,hsr,hpl'⟩ := slice_part (P := Tryz.prog) Tryz.underlying22 Tryz.sizeOf5 A n c p q hlo (by omega) hnc hpl
    have hRl : Rb W A' (seg b p q) := hsr W b HN.out hM.rb
    have hll : (seg b p q).length = q - p := seg_len (by rw [HN.out]; omega)
    have HLL := Lib.hid hll
    have HFR := Lib.hid hfr
    clear hsr hfr hll
    gi_wp2
    refine ⟨trivial,fun h => by simp [Fence.wide,Fence.inRound] at h,?_⟩
    refine (callsIn_wide.2 (trimR_any A' (seg b p q) (q - p) (c - p) W HLL.out hRl (by omega) (by omega))).mono ?_
    rintro e W3 ⟨rfl,hb3⟩
    have hM3 := hM.below hb3
    have hRt : Rb W3 A' (trimE (seg b p q)) := by rw [trimE_take]; exact (hRl.below hb3).take _
    have hlL : Lp < W.heap.size := (Array.getElem?_eq_some_iff.1 hline).1
    have hline3 : W3.heap[Lp]? = some (.cells #[.int .i64 p,.int .i64 q,.int .i64 r] 97) := (hb3.block Lp hlL).trans hline
    have k0 : W3.cell? ⟨Lp,0,none⟩ = some (.int .i64 p) := by simp [World.cell?,hline3]
    have k1 : W3.cell? ⟨Lp,1,none⟩ = some (.int .i64 q) := by simp [World.cell?,hline3]
    have k2 : W3.cell? ⟨Lp,2,none⟩ = some (.int .i64 r) := by simp [World.cell?,hline3]
    have hcv := conv_str (P := Tryz.prog) (src := 22) (dst := 9) (e := 5) Tryz.underlying22 Tryz.underlying5 Tryz.underlying9 (c := c - p) hRt rfl
    have hdd : ∀ a : List UInt8,(⟨#[45,45]⟩ : ByteArray) ++ bs a = bs ([45,45] ++ a) := fun a => bs_add [45,45] a
    have hdd2 : ∀ a : List UInt8,bs a ++ (⟨#[45,45]⟩ : ByteArray) = bs (a ++ [45,45]) := fun a => bs_add a [45,45]
    have cD := hM3.bD.cell
    have cF := hM3.bF.cell
    have cL := hM3.bL.cell
    have fF := hM3.bF.frozen
    have fL := hM3.bL.frozen
    have hext : Ext (SpW w w1.heap.size ov) W W3 := Ext.of_below _ hb3
    obtain ⟨L,hL⟩ : ∃ L,trimE (seg b p q) = L := ⟨_,rfl⟩
    have m1 : mk bd (seg b p q) = 1 ↔ L = [45,45] ++ bd := by rw [mk_one,hL]
    have m2 : mk bd (seg b p q) = 2 ↔ L = [45,45] ++ bd ++ [45,45] := by rw [mk_two,hL]
    have m0 : mk bd (seg b p q) = 0 ↔ L ≠ [45,45] ++ bd ∧ L ≠ [45,45] ++ bd ++ [45,45] := by rw [mk_zero,hL]
    rw [hL] at hcv ⊢
    have hLF : Lp ≠ w1.heap.size := fun e => by
     rw [e,show W3.heap[_]? = _ from hM3.bF] at hline3
     simp at hline3
    have hLN : Lp ≠ w1.heap.size + 1 := fun e => by
     rw [e,show W3.heap[_]? = _ from hM3.bL] at hline3
     simp at hline3
    clear hRl hline hline0 hline1 cB hsl hRt hL hpl'
    have hst := hSt.out
    rw [← HFR.out] at hst
    have hpr2 := hpr
    rw [← HFR.out] at hpr2
    have HPR := Lib.hid hpr2
    have HST := Lib.hid hst
    clear hpr hpr2 hst hSt
    by_cases h1 : L = [45,45] ++ bd
    ·have e1 : (L == 45 :: 45 :: bd) = true := by simpa using h1
     have HM := Lib.hid (m1.2 h1)
     clear m0 m1 m2 h1
     by_cases hz : fz < 0
     ·have HSK := Lib.hid (HST.out.first HPR.out hz HM.out)
      gi_wp2
      have kS0 : W3.drew.cell? ⟨Lp,2,none⟩ = some (.int .i64 r) := k2
      have kS1 : ∀ v,(W3.drew.setCell ⟨w1.heap.size,0,none⟩ v).cell? ⟨Lp,2,none⟩ = some (.int .i64 r) := fun v => (World.cell?_setCell_other _ _ _ _ (fun e => hLF (by rw [Addr.mk.injEq] at e; exact e.1.symm))).trans kS0
      have kS2 : ∀ v u,((W3.drew.setCell ⟨w1.heap.size,0,none⟩ v).setCell ⟨w1.heap.size + 1,0,none⟩ u).cell? ⟨Lp,2,none⟩ = some (.int .i64 r) := fun v u => (World.cell?_setCell_other _ _ _ _ (fun e => hLN (by rw [Addr.mk.injEq] at e; exact e.1.symm))).trans (kS1 v)
      refine wpIn_region_round (S := fun w' => w'.cell? ⟨Lp,2,none⟩ = some (.int .i64 r)) (by kernel_rfl) (by kernel_rfl) (by rintro ⟨a,w,h⟩; exact h) (by first | exact kS0) (fun hHeld => ?_)
      (refine wpAnyH_take (i := 0) (v := ?_) rfl (by kernel_rfl) (by kernel_rfl) (by kernel_rfl) (fun _ _ _ h => h) (Or.inl ⟨by rfl,?_⟩) (by assumption) ?_; rotate_left 1; (focus (intro w hSw; (try dsimp only at hSw); go_simp; (try with_reducible rfl))); (try simp only [Act.put,List.setIfInBounds_toArray,List.set_cons_zero,List.set_cons_succ,List.getElem_toArray,List.getElem_cons_zero,List.getElem_cons_succ]))
      (refine wpAnyH_take (i := 1) (v := ?_) rfl (by kernel_rfl) (by kernel_rfl) (by kernel_rfl) (fun _ _ _ h => h) (Or.inl ⟨by rfl,?_⟩) (by assumption) ?_; rotate_left 1; (focus (intro w hSw; (try dsimp only at hSw); go_simp; (try with_reducible rfl))); (try simp only [Act.put,List.setIfInBounds_toArray,List.set_cons_zero,List.set_cons_succ,List.getElem_toArray,List.getElem_cons_zero,List.getElem_cons_succ]))
      (refine wpAnyH_take (i := 2) (v := ?_) rfl (by kernel_rfl) (by kernel_rfl) (by kernel_rfl) (fun _ _ _ h => h) (Or.inl ⟨by rfl,?_⟩) (by assumption) ?_; rotate_left 1; (focus (intro w hSw; (try dsimp only at hSw); go_simp; (try with_reducible rfl))); (try simp only [Act.put,List.setIfInBounds_toArray,List.set_cons_zero,List.set_cons_succ,List.getElem_toArray,List.getElem_cons_zero,List.getElem_cons_succ]))
      (refine wpAnyH_take (i := 3) (v := ?_) rfl (by kernel_rfl) (by kernel_rfl) (by kernel_rfl) (fun _ _ _ h => h) (Or.inl ⟨by rfl,?_⟩) (by assumption) ?_; rotate_left 1; (focus (intro w hSw; (try dsimp only at hSw); go_simp; (try with_reducible rfl))); (try simp only [Act.put,List.setIfInBounds_toArray,List.set_cons_zero,List.set_cons_succ,List.getElem_toArray,List.getElem_cons_zero,List.getElem_cons_succ]))
      refine wpAnyH_ready (rs := [4]) (by kernel_rfl) (by simp) ?_
      refine AllReadyH.cons rfl (fun K hK => ?_) AllReadyH.nil
      go_simp
      refine hK.out _ _ (by first | exact kS1 _) (fun hHeld => ?_)
      clear hK K
      (try simp only [Act.put,List.setIfInBounds_toArray,List.set_cons_zero,List.set_cons_succ,List.getElem_toArray,List.getElem_cons_zero,List.getElem_cons_succ])
      refine wpAnyH_ready (rs := [5]) (by kernel_rfl) (by simp) ?_
      refine AllReadyH.cons rfl (fun K hK => ?_) AllReadyH.nil
      go_simp
      refine hK.out _ _ (by first | exact kS2 _ _) (fun hHeld => ?_)
      clear hK K
      (try simp only [Act.put,List.setIfInBounds_toArray,List.set_cons_zero,List.set_cons_succ,List.getElem_toArray,List.getElem_cons_zero,List.getElem_cons_succ])
      refine wpAnyH_done (by kernel_rfl) ?_ _
      gi_wp2
      have hMq := ((hM3.below ((Below.refl _ _).drew)).setF hA0 hz1 (r : Int)).setL hA0 hz1 r
      have hk := hM.kept hz1 ((hext.drew.set ⟨w1.heap.size,0,none⟩ (.int .i64 (r : Int)) (.inr (.inl rfl))).set ⟨w1.heap.size + 1,0,none⟩ (.int .i64 (r : Int)) (.inr (.inr (.inl rfl)))) hMq.rb
      rw [← hsz] at hk
      exact ⟨hk.1,hk.2,(r : Int),r,ov,ts,hMq,by rw [trEnd_snoc]; exact HSK⟩
     ·have hz0 : 0 ≤ fz := by omega
      obtain ⟨F,rfl,hFla⟩ := HST.out.from_le (by omega)
      have hlab : la ≤ n := by have h1 := HST.out.1; have h2 := HST.out.2.1; rw [HN.out] at h2; omega
      have htl : ts.length ≤ n := by have h1 := HST.out.2.2.1; have h2 := HST.out.2.1; rw [HN.out] at h2; rw [List.length_map] at h1; omega
      obtain ⟨A2,hs2,hr2,hp2⟩ := slice_part (P := Tryz.prog) Tryz.underlying22 Tryz.sizeOf5 A n c F la hFla hlab hnc hpl
      have hR2 : Rb W3.drew A2 (seg b F la) := hr2 W3.drew b HN.out (hM3.rb.below ((Below.refl _ _).drew))
      have hl2 : (seg b F la).length = la - F := seg_len (by rw [HN.out]; omega)
      have hcl := clone_any A2 (seg b F la) (la - F) (c - F) W3.drew hl2 hR2 (by omega) hp2 (by omega)
      have HL2 := Lib.hid hl2
      have hmx : max (F : Int) (la : Int) = (la : Int) := by omega
      have cB := hM3.bB.cell
      have cO := hM3.bO.cell
      have hsx : ∀ k,k < w1.heap.size + 3 → k ≠ w.heap.size + 1 + 1 → ¬ (k = w.heap.size + 1 + 1 ∨ nb ov k) := by
       rintro k h1 h2 (h3 | h3)
       ·exact h2 h3
       ·have := (hM3.ow.lt k h3).1
        omega
      have hSx : ∀ W',Ext (fun k => k = w.heap.size + 1 + 1 ∨ nb ov k) W3 W' → W'.cell? ⟨w.heap.size,0,none⟩ = some (.slice A n c) ∧ W'.cell? ⟨w1.heap.size,0,none⟩ = some (.int .i64 (F : Int)) ∧ W'.cell? ⟨w1.heap.size + 1,0,none⟩ = some (.int .i64 (la : Int)) :=
       fun W' hx => ⟨(box_ext2 hM3.bB hx (hsx _ (by omega) (by omega))).cell,(box_ext2 hM3.bF hx (hsx _ (by omega) (by omega))).cell,(box_ext2 hM3.bL hx (hsx _ (by omega) (by omega))).cell⟩
      have x0 : Ext (fun k => k = w.heap.size + 1 + 1 ∨ nb ov k) W3 W3.drew := (Ext.refl _ W3).drew
      have hz3 : w1.heap.size + 3 ≤ W3.heap.size := hM3.sz
      obtain ⟨Ao,co,hov,_,_,_,_,_,_⟩ := hM3.ow.form
      subst hov
      clear hr2 hl2 hR2
      have HSK := Lib.hid (HST.out.part HPR.out (F := F) rfl HM.out)
      gi_wp2
      refine wpIn_region_round (S := fun w' => w'.cell? ⟨w.heap.size,0,none⟩ = some (.slice A n c) ∧ w'.cell? ⟨w1.heap.size,0,none⟩ = some (.int .i64 (F : Int)) ∧ w'.cell? ⟨w1.heap.size + 1,0,none⟩ = some (.int .i64 (la : Int))) (by kernel_rfl) (by kernel_rfl) (by rintro ⟨a,w,h⟩; exact h) (by first | exact hSx _ x0) (fun hHeld => ?_)
      (refine wpAnyH_take (i := 1) (v := ?_) rfl (by kernel_rfl) (by kernel_rfl) (by kernel_rfl) (fun _ _ _ h => h) (Or.inl ⟨by rfl,?_⟩) (by assumption) ?_; rotate_left 1; (focus (intro w hSw; (try dsimp only at hSw); go_simp; (try with_reducible rfl))); (try simp only [Act.put,List.setIfInBounds_toArray,List.set_cons_zero,List.set_cons_succ,List.getElem_toArray,List.getElem_cons_zero,List.getElem_cons_succ]))
      (refine wpAnyH_take (i := 2) (v := ?_) rfl (by kernel_rfl) (by kernel_rfl) (by kernel_rfl) (fun _ _ _ h => h) (Or.inl ⟨by rfl,?_⟩) (by assumption) ?_; rotate_left 1; (focus (intro w hSw; (try dsimp only at hSw); go_simp; (try with_reducible rfl))); (try simp only [Act.put,List.setIfInBounds_toArray,List.set_cons_zero,List.set_cons_succ,List.getElem_toArray,List.getElem_cons_zero,List.getElem_cons_succ]))
      (refine wpAnyH_take (i := 3) (v := ?_) rfl (by kernel_rfl) (by kernel_rfl) (by kernel_rfl) (fun _ _ _ h => h) (Or.inl ⟨by rfl,?_⟩) (by assumption) ?_; rotate_left 1; (focus (intro w hSw; (try dsimp only at hSw); go_simp; (try with_reducible rfl))); (try simp only [Act.put,List.setIfInBounds_toArray,List.set_cons_zero,List.set_cons_succ,List.getElem_toArray,List.getElem_cons_zero,List.getElem_cons_succ]))
      (refine wpAnyH_take (i := 4) (v := ?_) rfl (by kernel_rfl) (by kernel_rfl) (by kernel_rfl) (fun _ _ _ h => h) (Or.inl ⟨by rfl,?_⟩) (by assumption) ?_; rotate_left 1; (focus (intro w hSw; (try dsimp only at hSw); go_simp; (try with_reducible rfl))); (try simp only [Act.put,List.setIfInBounds_toArray,List.set_cons_zero,List.set_cons_succ,List.getElem_toArray,List.getElem_cons_zero,List.getElem_cons_succ]))
      (refine wpAnyH_take (i := 5) (v := ?_) rfl (by kernel_rfl) (by kernel_rfl) (by kernel_rfl) (fun _ _ _ h => h) (Or.inl ⟨by rfl,?_⟩) (by assumption) ?_; rotate_left 1; (focus (intro w hSw; (try dsimp only at hSw); go_simp; (try with_reducible rfl))); (try simp only [Act.put,List.setIfInBounds_toArray,List.set_cons_zero,List.set_cons_succ,List.getElem_toArray,List.getElem_cons_zero,List.getElem_cons_succ]))
      (refine wpAnyH_take (i := 6) (v := ?_) rfl (by kernel_rfl) (by kernel_rfl) (by kernel_rfl) (fun _ _ _ h => h) (Or.inl ⟨by rfl,?_⟩) (by assumption) ?_; rotate_left 1; (focus (intro w hSw; (try dsimp only at hSw); go_simp; (try with_reducible rfl))); (try simp only [Act.put,List.setIfInBounds_toArray,List.set_cons_zero,List.set_cons_succ,List.getElem_toArray,List.getElem_cons_zero,List.getElem_cons_succ]))
      refine wpAnyH_ready (rs := [0,7]) (by kernel_rfl) (by simp) ?_
      refine AllReadyH.cons rfl (fun K hK => ?_) (AllReadyH.cons rfl (fun K hK => ?_) AllReadyH.nil)
      ·go_simp
       refine hK.out _ _ (by first | exact hSx _ x6 | exact hSx _ x5 | exact hSx _ x4a | exact hSx _ x4 | exact hSx _ x0) (fun hHeld => ?_)
       clear hK K
       (try simp only [Act.put,List.setIfInBounds_toArray,List.set_cons_zero,List.set_cons_succ,List.getElem_toArray,List.getElem_cons_zero,List.getElem_cons_succ])
       refine wpAnyH_ready (rs := [7]) (by kernel_rfl) (by simp) ?_
       refine AllReadyH.cons rfl (fun K hK => ?_) AllReadyH.nil
       go_simp
       go_wp2_with (go_at_call 63; refine hcl.mono ?_; rintro e W4 ⟨⟨vC,rfl,hC⟩,hb4⟩)
       obtain ⟨Ac,cc,rfl,hcc1,hcc2,_,_⟩ := own_slice hC
       have hb4' : Below W3.heap.size W3 W4 := ((Below.refl _ W3).drew).trans hb4
       have hz4 := hb4'.size
       have x4 : Ext (fun k => k = w.heap.size + 1 + 1 ∨ nb (.slice Ao ts.length co) k) W3 W4 := Ext.of_below _ hb4'
       have x4a : Ext (fun k => k = w.heap.size + 1 + 1 ∨ nb (.slice Ao ts.length co) k) W3 (W4.alloc (.cells #[.slice Ac (la - F) cc] 22)) := x4.alloc _
       have b4O := box_below hM3.bO hb4'
       have c4O := b4O.cell
       have l4O : w.heap.size + 1 + 1 < W4.heap.size := by omega
       have hown4 := (hM3.ow.below hb4').alloc (.cells #[.slice Ac (la - F) cc] 22)
       refine hK.out _ _ (by first | exact hSx _ x6 | exact hSx _ x5 | exact hSx _ x4a | exact hSx _ x4 | exact hSx _ x0) (fun hHeld => ?_)
       clear hK K
       (try simp only [Act.put,List.setIfInBounds_toArray,List.set_cons_zero,List.set_cons_succ,List.getElem_toArray,List.getElem_cons_zero,List.getElem_cons_succ])
       refine wpAnyH_ready (rs := [8]) (by kernel_rfl) (by simp) ?_
       refine AllReadyH.cons rfl (fun K hK => ?_) AllReadyH.nil
       go_simp
       refine hK.out _ _ (by first | exact hSx _ x6 | exact hSx _ x5 | exact hSx _ x4a | exact hSx _ x4 | exact hSx _ x0) (fun hHeld => ?_)
       clear hK K
       (try simp only [Act.put,List.setIfInBounds_toArray,List.set_cons_zero,List.set_cons_succ,List.getElem_toArray,List.getElem_cons_zero,List.getElem_cons_succ])
       refine wpAnyH_ready (rs := [9]) (by kernel_rfl) (by simp) ?_
       refine AllReadyH.cons rfl (fun K hK => ?_) AllReadyH.nil
       refine step_appM rfl _ _ _ _ rfl TBs hown4 rfl (Src_rv (news := [.slice Ac (la - F) cc]) Tryz.underlying66 rfl (Rv_new W4 _ _ _ rfl) (by simp [Value.oneCell']) (by omega)) rfl (by omega) (by simp; omega) ?_
       intro v5 W5 own5 gr5 at5
       obtain ⟨A5,c5,hv5,_,_,_,_,_,_⟩ := own5.form
       subst hv5
       have x5 : Ext (fun k => k = w.heap.size + 1 + 1 ∨ nb (.slice Ao ts.length co) k) W3 W5 := x4a.trans (Ext.of_grown (S := fun k => nb (.slice Ao ts.length co) k) gr5 (fun k e => e)) (fun k hk => .inl (.inr hk))
       have b5O : Boxed W5 (w.heap.size + 1 + 1) 66 (.slice Ao ts.length co) := (b4O.alloc _).kept gr5 (fun e => by have := (hM3.ow.lt _ e.symm).1; omega)
       have c5O := b5O.cell
       have f5O := b5O.frozen
       have x6 := x5.set ⟨w.heap.size + 1 + 1,0,none⟩ (.slice A5 (ts.length + 1) c5) (.inl rfl)
       refine hK.out _ _ (by first | exact hSx _ x6 | exact hSx _ x5 | exact hSx _ x4a | exact hSx _ x4 | exact hSx _ x0) (fun hHeld => ?_)
       clear hK K
       (try simp only [Act.put,List.setIfInBounds_toArray,List.set_cons_zero,List.set_cons_succ,List.getElem_toArray,List.getElem_cons_zero,List.getElem_cons_succ])
       refine wpAnyH_ready (rs := [10]) (by kernel_rfl) (by simp) ?_
       refine AllReadyH.cons rfl (fun K hK => ?_) AllReadyH.nil
       go_simp
       refine hK.out _ _ (by first | exact hSx _ x6 | exact hSx _ x5 | exact hSx _ x4a | exact hSx _ x4 | exact hSx _ x0) (fun hHeld => ?_)
       clear hK K
       (try simp only [Act.put,List.setIfInBounds_toArray,List.set_cons_zero,List.set_cons_succ,List.getElem_toArray,List.getElem_cons_zero,List.getElem_cons_succ])
       refine wpAnyH_done (by kernel_rfl) ?_ _
       have b6O := b5O.set (.slice A5 (ts.length + 1) c5)
       have x56 : Ext (fun k => k = w.heap.size + 1 + 1) W5 (W5.setCell ⟨w.heap.size + 1 + 1,0,none⟩ (.slice A5 (ts.length + 1) c5)) := Ext.setCell _ W5 ⟨w.heap.size + 1 + 1,0,none⟩ _ rfl
       have own6 := x56.own own5 (fun k hk e => by have := (own5.lt k hk).1; omega)
       have x46 : Ext (fun k => k = w.heap.size + 1 + 1 ∨ nb (.slice Ao ts.length co) k) W4 (W5.setCell ⟨w.heap.size + 1 + 1,0,none⟩ (.slice A5 (ts.length + 1) c5)) := (((Ext.refl _ W4).alloc _).trans (Ext.of_grown (S := fun k => nb (.slice Ao ts.length co) k) gr5 (fun k e => e)) (fun k hk => .inl (.inr hk))).set ⟨w.heap.size + 1 + 1,0,none⟩ _ (.inl rfl)
       have hCl : ∀ k,nb (.slice Ac (la - F) cc) k → W3.heap.size ≤ k ∧ k < W4.heap.size := fun k hk => (OwnM.of hC).lt k hk
       have own6C : OwnM (W5.setCell ⟨w.heap.size + 1 + 1,0,none⟩ (.slice A5 (ts.length + 1) c5)) (w1.heap.size + 3) 5 1 (.slice Ac (la - F) cc) (seg b F la).length ((seg b F la).map bv) := by
        rw [HL2.out]
        refine x46.own ((OwnM.of hC).rebase (by exact hz3)) fun k hk hs => ?_
        have h1 := (hCl k hk).1
        rcases hs with h2 | h2
        ·omega
        ·have := (hM3.ow.lt k h2).2
         omega
       have hMa := hM3.app hA0 hz1 x6 b6O own6 own6C (fun k hk => by
        unfold nb at hk ⊢
        rcases at5 with h | h
        ·rw [h] at hk; exact .inl hk
        ·rw [h] at hk; have := Option.some.inj hk; simp at this; exact .inr (by omega)) (fun k hk hk2 => by
        have h1 := hCl k hk
        unfold nb at hk2
        rcases at5 with h | h
        ·rw [h] at hk2; have := (hM3.ow.lt k hk2).2; omega
        ·rw [h] at hk2; have := Option.some.inj hk2; simp at this; omega)
       have hline6 : (W5.setCell ⟨w.heap.size + 1 + 1,0,none⟩ (.slice A5 (ts.length + 1) c5)).heap[Lp]? = some (.cells #[.int .i64 p,.int .i64 q,.int .i64 r] 97) := by
        refine (x6.block Lp (Array.getElem?_eq_some_iff.1 hline3).1 ?_).trans hline3
        rintro (h1 | h1)
        ·rw [h1,show W3.heap[_]? = _ from hM3.bO] at hline3
         simp at hline3
        ·obtain ⟨cur,fzz,hg⟩ := hM3.ow.ty h1
         rw [hg] at hline3
         simp at hline3
       have hext6 : Ext (SpW w w1.heap.size (.slice Ao ts.length co)) W (W5.setCell ⟨w.heap.size + 1 + 1,0,none⟩ (.slice A5 (ts.length + 1) c5)) := hext.trans x6 (by
        rintro k (h1 | h1)
        ·exact .inl (.inl h1)
        ·exact .inl (.inr (.inr (.inr (.inl h1)))))
       obtain ⟨W6,hW6⟩ : ∃ W6,W5.setCell ⟨w.heap.size + 1 + 1,0,none⟩ (.slice A5 (ts.length + 1) c5) = W6 := ⟨_,rfl⟩
       rw [hW6] at hMa hline6 hext6 ⊢
       have k62 : W6.drew.cell? ⟨Lp,2,none⟩ = some (.int .i64 r) := by
        have : W6.cell? ⟨Lp,2,none⟩ = some (.int .i64 r) := by simp [World.cell?,hline6]
        exact this
       have k62' : W6.cell? ⟨Lp,2,none⟩ = some (.int .i64 r) := by simp [World.cell?,hline6]
       clear hW6 hline6 x6 x46 x56 x5 x4a x4 x0 own6 own6C own5 gr5 at5 b6O b5O b4O hown4 hC hCl hSx hsx hcl c5O c4O cO cB cL cF fF fL f5O hb4 hb4' k0 k1 k2 cD
       have cD := hMa.bD.cell
       have cF := hMa.bF.cell
       have cL := hMa.bL.cell
       have fF := hMa.bF.frozen
       have fL := hMa.bL.frozen
       have cO := hMa.bO.cell
       have fO := hMa.bO.frozen
       have cC := hMa.bC.cell
       have fC := hMa.bC.frozen
       have HSK2 := Lib.hid (show SpSt b bd r (r : Int) r ((ts ++ [(seg b F la,Value.slice Ac (la - F) cc)]).map (·.1)) by rw [List.map_append]; exact HSK.out)
       clear HSK
       have HSK := HSK2
       gi_wp2
       have kS0 : W6.drew.cell? ⟨Lp,2,none⟩ = some (.int .i64 r) := k62
       have kS1 : ∀ v,(W6.drew.setCell ⟨w1.heap.size,0,none⟩ v).cell? ⟨Lp,2,none⟩ = some (.int .i64 r) := fun v => (World.cell?_setCell_other _ _ _ _ (fun e => hLF (by rw [Addr.mk.injEq] at e; exact e.1.symm))).trans kS0
       have kS2 : ∀ v u,((W6.drew.setCell ⟨w1.heap.size,0,none⟩ v).setCell ⟨w1.heap.size + 1,0,none⟩ u).cell? ⟨Lp,2,none⟩ = some (.int .i64 r) := fun v u => (World.cell?_setCell_other _ _ _ _ (fun e => hLN (by rw [Addr.mk.injEq] at e; exact e.1.symm))).trans (kS1 v)
       refine wpIn_region_round (S := fun w' => w'.cell? ⟨Lp,2,none⟩ = some (.int .i64 r)) (by kernel_rfl) (by kernel_rfl) (by rintro ⟨a,w,h⟩; exact h) (by first | exact kS0) (fun hHeld => ?_)
       (refine wpAnyH_take (i := 0) (v := ?_) rfl (by kernel_rfl) (by kernel_rfl) (by kernel_rfl) (fun _ _ _ h => h) (Or.inl ⟨by rfl,?_⟩) (by assumption) ?_; rotate_left 1; (focus (intro w hSw; (try dsimp only at hSw); go_simp; (try with_reducible rfl))); (try simp only [Act.put,List.setIfInBounds_toArray,List.set_cons_zero,List.set_cons_succ,List.getElem_toArray,List.getElem_cons_zero,List.getElem_cons_succ]))
       (refine wpAnyH_take (i := 1) (v := ?_) rfl (by kernel_rfl) (by kernel_rfl) (by kernel_rfl) (fun _ _ _ h => h) (Or.inl ⟨by rfl,?_⟩) (by assumption) ?_; rotate_left 1; (focus (intro w hSw; (try dsimp only at hSw); go_simp; (try with_reducible rfl))); (try simp only [Act.put,List.setIfInBounds_toArray,List.set_cons_zero,List.set_cons_succ,List.getElem_toArray,List.getElem_cons_zero,List.getElem_cons_succ]))
       (refine wpAnyH_take (i := 2) (v := ?_) rfl (by kernel_rfl) (by kernel_rfl) (by kernel_rfl) (fun _ _ _ h => h) (Or.inl ⟨by rfl,?_⟩) (by assumption) ?_; rotate_left 1; (focus (intro w hSw; (try dsimp only at hSw); go_simp; (try with_reducible rfl))); (try simp only [Act.put,List.setIfInBounds_toArray,List.set_cons_zero,List.set_cons_succ,List.getElem_toArray,List.getElem_cons_zero,List.getElem_cons_succ]))
       (refine wpAnyH_take (i := 3) (v := ?_) rfl (by kernel_rfl) (by kernel_rfl) (by kernel_rfl) (fun _ _ _ h => h) (Or.inl ⟨by rfl,?_⟩) (by assumption) ?_; rotate_left 1; (focus (intro w hSw; (try dsimp only at hSw); go_simp; (try with_reducible rfl))); (try simp only [Act.put,List.setIfInBounds_toArray,List.set_cons_zero,List.set_cons_succ,List.getElem_toArray,List.getElem_cons_zero,List.getElem_cons_succ]))
       refine wpAnyH_ready (rs := [4]) (by kernel_rfl) (by simp) ?_
       refine AllReadyH.cons rfl (fun K hK => ?_) AllReadyH.nil
       go_simp
       refine hK.out _ _ (by first | exact kS1 _) (fun hHeld => ?_)
       clear hK K
       (try simp only [Act.put,List.setIfInBounds_toArray,List.set_cons_zero,List.set_cons_succ,List.getElem_toArray,List.getElem_cons_zero,List.getElem_cons_succ])
       refine wpAnyH_ready (rs := [5]) (by kernel_rfl) (by simp) ?_
       refine AllReadyH.cons rfl (fun K hK => ?_) AllReadyH.nil
       go_simp
       refine hK.out _ _ (by first | exact kS2 _ _) (fun hHeld => ?_)
       clear hK K
       (try simp only [Act.put,List.setIfInBounds_toArray,List.set_cons_zero,List.set_cons_succ,List.getElem_toArray,List.getElem_cons_zero,List.getElem_cons_succ])
       refine wpAnyH_done (by kernel_rfl) ?_ _
       gi_wp2
       have hMq := ((hMa.below ((Below.refl _ _).drew)).setF hA0 hz1 (r : Int)).setL hA0 hz1 r
       have hk := hM.kept hz1 ((hext6.drew.set ⟨w1.heap.size,0,none⟩ (.int .i64 (r : Int)) (.inr (.inl rfl))).set ⟨w1.heap.size + 1,0,none⟩ (.int .i64 (r : Int)) (.inr (.inr (.inl rfl)))) hMq.rb
       rw [← hsz] at hk
       exact ⟨hk.1,hk.2,(r : Int),r,_,_,hMq,by rw [trEnd_snoc]; exact HSK⟩
      ·go_simp
       go_wp2_with (go_at_call 63; refine hcl.mono ?_; rintro e W4 ⟨⟨vC,rfl,hC⟩,hb4⟩)
       obtain ⟨Ac,cc,rfl,hcc1,hcc2,_,_⟩ := own_slice hC
       have hb4' : Below W3.heap.size W3 W4 := ((Below.refl _ W3).drew).trans hb4
       have hz4 := hb4'.size
       have x4 : Ext (fun k => k = w.heap.size + 1 + 1 ∨ nb (.slice Ao ts.length co) k) W3 W4 := Ext.of_below _ hb4'
       have x4a : Ext (fun k => k = w.heap.size + 1 + 1 ∨ nb (.slice Ao ts.length co) k) W3 (W4.alloc (.cells #[.slice Ac (la - F) cc] 22)) := x4.alloc _
       have b4O := box_below hM3.bO hb4'
       have c4O := b4O.cell
       have l4O : w.heap.size + 1 + 1 < W4.heap.size := by omega
       have hown4 := (hM3.ow.below hb4').alloc (.cells #[.slice Ac (la - F) cc] 22)
       refine hK.out _ _ (by first | exact hSx _ x6 | exact hSx _ x5 | exact hSx _ x4a | exact hSx _ x4 | exact hSx _ x0) (fun hHeld => ?_)
       clear hK K
       (try simp only [Act.put,List.setIfInBounds_toArray,List.set_cons_zero,List.set_cons_succ,List.getElem_toArray,List.getElem_cons_zero,List.getElem_cons_succ])
       refine wpAnyH_ready (rs := [0,8]) (by kernel_rfl) (by simp) ?_
       refine AllReadyH.cons rfl (fun K hK => ?_) (AllReadyH.cons rfl (fun K hK => ?_) AllReadyH.nil)
       ·go_simp
        refine hK.out _ _ (by first | exact hSx _ x6 | exact hSx _ x5 | exact hSx _ x4a | exact hSx _ x4 | exact hSx _ x0) (fun hHeld => ?_)
        clear hK K
        (try simp only [Act.put,List.setIfInBounds_toArray,List.set_cons_zero,List.set_cons_succ,List.getElem_toArray,List.getElem_cons_zero,List.getElem_cons_succ])
        refine wpAnyH_ready (rs := [8]) (by kernel_rfl) (by simp) ?_
        refine AllReadyH.cons rfl (fun K hK => ?_) AllReadyH.nil
        go_simp
        refine hK.out _ _ (by first | exact hSx _ x6 | exact hSx _ x5 | exact hSx _ x4a | exact hSx _ x4 | exact hSx _ x0) (fun hHeld => ?_)
        clear hK K
        (try simp only [Act.put,List.setIfInBounds_toArray,List.set_cons_zero,List.set_cons_succ,List.getElem_toArray,List.getElem_cons_zero,List.getElem_cons_succ])
        refine wpAnyH_ready (rs := [9]) (by kernel_rfl) (by simp) ?_
        refine AllReadyH.cons rfl (fun K hK => ?_) AllReadyH.nil
        refine step_appM rfl _ _ _ _ rfl TBs hown4 rfl (Src_rv (news := [.slice Ac (la - F) cc]) Tryz.underlying66 rfl (Rv_new W4 _ _ _ rfl) (by simp [Value.oneCell']) (by omega)) rfl (by omega) (by simp; omega) ?_
        intro v5 W5 own5 gr5 at5
        obtain ⟨A5,c5,hv5,_,_,_,_,_,_⟩ := own5.form
        subst hv5
        have x5 : Ext (fun k => k = w.heap.size + 1 + 1 ∨ nb (.slice Ao ts.length co) k) W3 W5 := x4a.trans (Ext.of_grown (S := fun k => nb (.slice Ao ts.length co) k) gr5 (fun k e => e)) (fun k hk => .inl (.inr hk))
        have b5O : Boxed W5 (w.heap.size + 1 + 1) 66 (.slice Ao ts.length co) := (b4O.alloc _).kept gr5 (fun e => by have := (hM3.ow.lt _ e.symm).1; omega)
        have c5O := b5O.cell
        have f5O := b5O.frozen
        have x6 := x5.set ⟨w.heap.size + 1 + 1,0,none⟩ (.slice A5 (ts.length + 1) c5) (.inl rfl)
        refine hK.out _ _ (by first | exact hSx _ x6 | exact hSx _ x5 | exact hSx _ x4a | exact hSx _ x4 | exact hSx _ x0) (fun hHeld => ?_)
        clear hK K
        (try simp only [Act.put,List.setIfInBounds_toArray,List.set_cons_zero,List.set_cons_succ,List.getElem_toArray,List.getElem_cons_zero,List.getElem_cons_succ])
        refine wpAnyH_ready (rs := [10]) (by kernel_rfl) (by simp) ?_
        refine AllReadyH.cons rfl (fun K hK => ?_) AllReadyH.nil
        go_simp
        refine hK.out _ _ (by first | exact hSx _ x6 | exact hSx _ x5 | exact hSx _ x4a | exact hSx _ x4 | exact hSx _ x0) (fun hHeld => ?_)
        clear hK K
        (try simp only [Act.put,List.setIfInBounds_toArray,List.set_cons_zero,List.set_cons_succ,List.getElem_toArray,List.getElem_cons_zero,List.getElem_cons_succ])
        refine wpAnyH_done (by kernel_rfl) ?_ _
        have b6O := b5O.set (.slice A5 (ts.length + 1) c5)
        have x56 : Ext (fun k => k = w.heap.size + 1 + 1) W5 (W5.setCell ⟨w.heap.size + 1 + 1,0,none⟩ (.slice A5 (ts.length + 1) c5)) := Ext.setCell _ W5 ⟨w.heap.size + 1 + 1,0,none⟩ _ rfl
        have own6 := x56.own own5 (fun k hk e => by have := (own5.lt k hk).1; omega)
        have x46 : Ext (fun k => k = w.heap.size + 1 + 1 ∨ nb (.slice Ao ts.length co) k) W4 (W5.setCell ⟨w.heap.size + 1 + 1,0,none⟩ (.slice A5 (ts.length + 1) c5)) := (((Ext.refl _ W4).alloc _).trans (Ext.of_grown (S := fun k => nb (.slice Ao ts.length co) k) gr5 (fun k e => e)) (fun k hk => .inl (.inr hk))).set ⟨w.heap.size + 1 + 1,0,none⟩ _ (.inl rfl)
        have hCl : ∀ k,nb (.slice Ac (la - F) cc) k → W3.heap.size ≤ k ∧ k < W4.heap.size := fun k hk => (OwnM.of hC).lt k hk
        have own6C : OwnM (W5.setCell ⟨w.heap.size + 1 + 1,0,none⟩ (.slice A5 (ts.length + 1) c5)) (w1.heap.size + 3) 5 1 (.slice Ac (la - F) cc) (seg b F la).length ((seg b F la).map bv) := by
         rw [HL2.out]
         refine x46.own ((OwnM.of hC).rebase (by exact hz3)) fun k hk hs => ?_
         have h1 := (hCl k hk).1
         rcases hs with h2 | h2
         ·omega
         ·have := (hM3.ow.lt k h2).2
          omega
        have hMa := hM3.app hA0 hz1 x6 b6O own6 own6C (fun k hk => by
         unfold nb at hk ⊢
         rcases at5 with h | h
         ·rw [h] at hk; exact .inl hk
         ·rw [h] at hk; have := Option.some.inj hk; simp at this; exact .inr (by omega)) (fun k hk hk2 => by
         have h1 := hCl k hk
         unfold nb at hk2
         rcases at5 with h | h
         ·rw [h] at hk2; have := (hM3.ow.lt k hk2).2; omega
         ·rw [h] at hk2; have := Option.some.inj hk2; simp at this; omega)
        have hline6 : (W5.setCell ⟨w.heap.size + 1 + 1,0,none⟩ (.slice A5 (ts.length + 1) c5)).heap[Lp]? = some (.cells #[.int .i64 p,.int .i64 q,.int .i64 r] 97) := by
         refine (x6.block Lp (Array.getElem?_eq_some_iff.1 hline3).1 ?_).trans hline3
         rintro (h1 | h1)
         ·rw [h1,show W3.heap[_]? = _ from hM3.bO] at hline3
          simp at hline3
         ·obtain ⟨cur,fzz,hg⟩ := hM3.ow.ty h1
          rw [hg] at hline3
          simp at hline3
        have hext6 : Ext (SpW w w1.heap.size (.slice Ao ts.length co)) W (W5.setCell ⟨w.heap.size + 1 + 1,0,none⟩ (.slice A5 (ts.length + 1) c5)) := hext.trans x6 (by
         rintro k (h1 | h1)
         ·exact .inl (.inl h1)
         ·exact .inl (.inr (.inr (.inr (.inl h1)))))
        obtain ⟨W6,hW6⟩ : ∃ W6,W5.setCell ⟨w.heap.size + 1 + 1,0,none⟩ (.slice A5 (ts.length + 1) c5) = W6 := ⟨_,rfl⟩
        rw [hW6] at hMa hline6 hext6 ⊢
        have k62 : W6.drew.cell? ⟨Lp,2,none⟩ = some (.int .i64 r) := by
         have : W6.cell? ⟨Lp,2,none⟩ = some (.int .i64 r) := by simp [World.cell?,hline6]
         exact this
        have k62' : W6.cell? ⟨Lp,2,none⟩ = some (.int .i64 r) := by simp [World.cell?,hline6]
        clear hW6 hline6 x6 x46 x56 x5 x4a x4 x0 own6 own6C own5 gr5 at5 b6O b5O b4O hown4 hC hCl hSx hsx hcl c5O c4O cO cB cL cF fF fL f5O hb4 hb4' k0 k1 k2 cD
        have cD := hMa.bD.cell
        have cF := hMa.bF.cell
        have cL := hMa.bL.cell
        have fF := hMa.bF.frozen
        have fL := hMa.bL.frozen
        have cO := hMa.bO.cell
        have fO := hMa.bO.frozen
        have cC := hMa.bC.cell
        have fC := hMa.bC.frozen
        have HSK2 := Lib.hid (show SpSt b bd r (r : Int) r ((ts ++ [(seg b F la,Value.slice Ac (la - F) cc)]).map (·.1)) by rw [List.map_append]; exact HSK.out)
        clear HSK
        have HSK := HSK2
        gi_wp2
        have kS0 : W6.drew.cell? ⟨Lp,2,none⟩ = some (.int .i64 r) := k62
        have kS1 : ∀ v,(W6.drew.setCell ⟨w1.heap.size,0,none⟩ v).cell? ⟨Lp,2,none⟩ = some (.int .i64 r) := fun v => (World.cell?_setCell_other _ _ _ _ (fun e => hLF (by rw [Addr.mk.injEq] at e; exact e.1.symm))).trans kS0
        have kS2 : ∀ v u,((W6.drew.setCell ⟨w1.heap.size,0,none⟩ v).setCell ⟨w1.heap.size + 1,0,none⟩ u).cell? ⟨Lp,2,none⟩ = some (.int .i64 r) := fun v u => (World.cell?_setCell_other _ _ _ _ (fun e => hLN (by rw [Addr.mk.injEq] at e; exact e.1.symm))).trans (kS1 v)
        refine wpIn_region_round (S := fun w' => w'.cell? ⟨Lp,2,none⟩ = some (.int .i64 r)) (by kernel_rfl) (by kernel_rfl) (by rintro ⟨a,w,h⟩; exact h) (by first | exact kS0) (fun hHeld => ?_)
        (refine wpAnyH_take (i := 0) (v := ?_) rfl (by kernel_rfl) (by kernel_rfl) (by kernel_rfl) (fun _ _ _ h => h) (Or.inl ⟨by rfl,?_⟩) (by assumption) ?_; rotate_left 1; (focus (intro w hSw; (try dsimp only at hSw); go_simp; (try with_reducible rfl))); (try simp only [Act.put,List.setIfInBounds_toArray,List.set_cons_zero,List.set_cons_succ,List.getElem_toArray,List.getElem_cons_zero,List.getElem_cons_succ]))
        (refine wpAnyH_take (i := 1) (v := ?_) rfl (by kernel_rfl) (by kernel_rfl) (by kernel_rfl) (fun _ _ _ h => h) (Or.inl ⟨by rfl,?_⟩) (by assumption) ?_; rotate_left 1; (focus (intro w hSw; (try dsimp only at hSw); go_simp; (try with_reducible rfl))); (try simp only [Act.put,List.setIfInBounds_toArray,List.set_cons_zero,List.set_cons_succ,List.getElem_toArray,List.getElem_cons_zero,List.getElem_cons_succ]))
        (refine wpAnyH_take (i := 2) (v := ?_) rfl (by kernel_rfl) (by kernel_rfl) (by kernel_rfl) (fun _ _ _ h => h) (Or.inl ⟨by rfl,?_⟩) (by assumption) ?_; rotate_left 1; (focus (intro w hSw; (try dsimp only at hSw); go_simp; (try with_reducible rfl))); (try simp only [Act.put,List.setIfInBounds_toArray,List.set_cons_zero,List.set_cons_succ,List.getElem_toArray,List.getElem_cons_zero,List.getElem_cons_succ]))
        (refine wpAnyH_take (i := 3) (v := ?_) rfl (by kernel_rfl) (by kernel_rfl) (by kernel_rfl) (fun _ _ _ h => h) (Or.inl ⟨by rfl,?_⟩) (by assumption) ?_; rotate_left 1; (focus (intro w hSw; (try dsimp only at hSw); go_simp; (try with_reducible rfl))); (try simp only [Act.put,List.setIfInBounds_toArray,List.set_cons_zero,List.set_cons_succ,List.getElem_toArray,List.getElem_cons_zero,List.getElem_cons_succ]))
        refine wpAnyH_ready (rs := [4]) (by kernel_rfl) (by simp) ?_
        refine AllReadyH.cons rfl (fun K hK => ?_) AllReadyH.nil
        go_simp
        refine hK.out _ _ (by first | exact kS1 _) (fun hHeld => ?_)
        clear hK K
        (try simp only [Act.put,List.setIfInBounds_toArray,List.set_cons_zero,List.set_cons_succ,List.getElem_toArray,List.getElem_cons_zero,List.getElem_cons_succ])
        refine wpAnyH_ready (rs := [5]) (by kernel_rfl) (by simp) ?_
        refine AllReadyH.cons rfl (fun K hK => ?_) AllReadyH.nil
        go_simp
        refine hK.out _ _ (by first | exact kS2 _ _) (fun hHeld => ?_)
        clear hK K
        (try simp only [Act.put,List.setIfInBounds_toArray,List.set_cons_zero,List.set_cons_succ,List.getElem_toArray,List.getElem_cons_zero,List.getElem_cons_succ])
        refine wpAnyH_done (by kernel_rfl) ?_ _
        gi_wp2
        have hMq := ((hMa.below ((Below.refl _ _).drew)).setF hA0 hz1 (r : Int)).setL hA0 hz1 r
        have hk := hM.kept hz1 ((hext6.drew.set ⟨w1.heap.size,0,none⟩ (.int .i64 (r : Int)) (.inr (.inl rfl))).set ⟨w1.heap.size + 1,0,none⟩ (.int .i64 (r : Int)) (.inr (.inr (.inl rfl)))) hMq.rb
        rw [← hsz] at hk
        exact ⟨hk.1,hk.2,(r : Int),r,_,_,hMq,by rw [trEnd_snoc]; exact HSK⟩
       ·go_simp
        refine hK.out _ _ (by first | exact hSx _ x6 | exact hSx _ x5 | exact hSx _ x4a | exact hSx _ x4 | exact hSx _ x0) (fun hHeld => ?_)
        clear hK K
        (try simp only [Act.put,List.setIfInBounds_toArray,List.set_cons_zero,List.set_cons_succ,List.getElem_toArray,List.getElem_cons_zero,List.getElem_cons_succ])
        refine wpAnyH_ready (rs := [0]) (by kernel_rfl) (by simp) ?_
        refine AllReadyH.cons rfl (fun K hK => ?_) AllReadyH.nil
        go_simp
        refine hK.out _ _ (by first | exact hSx _ x6 | exact hSx _ x5 | exact hSx _ x4a | exact hSx _ x4 | exact hSx _ x0) (fun hHeld => ?_)
        clear hK K
        (try simp only [Act.put,List.setIfInBounds_toArray,List.set_cons_zero,List.set_cons_succ,List.getElem_toArray,List.getElem_cons_zero,List.getElem_cons_succ])
        refine wpAnyH_ready (rs := [9]) (by kernel_rfl) (by simp) ?_
        refine AllReadyH.cons rfl (fun K hK => ?_) AllReadyH.nil
        refine step_appM rfl _ _ _ _ rfl TBs hown4 rfl (Src_rv (news := [.slice Ac (la - F) cc]) Tryz.underlying66 rfl (Rv_new W4 _ _ _ rfl) (by simp [Value.oneCell']) (by omega)) rfl (by omega) (by simp; omega) ?_
        intro v5 W5 own5 gr5 at5
        obtain ⟨A5,c5,hv5,_,_,_,_,_,_⟩ := own5.form
        subst hv5
        have x5 : Ext (fun k => k = w.heap.size + 1 + 1 ∨ nb (.slice Ao ts.length co) k) W3 W5 := x4a.trans (Ext.of_grown (S := fun k => nb (.slice Ao ts.length co) k) gr5 (fun k e => e)) (fun k hk => .inl (.inr hk))
        have b5O : Boxed W5 (w.heap.size + 1 + 1) 66 (.slice Ao ts.length co) := (b4O.alloc _).kept gr5 (fun e => by have := (hM3.ow.lt _ e.symm).1; omega)
        have c5O := b5O.cell
        have f5O := b5O.frozen
        have x6 := x5.set ⟨w.heap.size + 1 + 1,0,none⟩ (.slice A5 (ts.length + 1) c5) (.inl rfl)
        refine hK.out _ _ (by first | exact hSx _ x6 | exact hSx _ x5 | exact hSx _ x4a | exact hSx _ x4 | exact hSx _ x0) (fun hHeld => ?_)
        clear hK K
        (try simp only [Act.put,List.setIfInBounds_toArray,List.set_cons_zero,List.set_cons_succ,List.getElem_toArray,List.getElem_cons_zero,List.getElem_cons_succ])
        refine wpAnyH_ready (rs := [10]) (by kernel_rfl) (by simp) ?_
        refine AllReadyH.cons rfl (fun K hK => ?_) AllReadyH.nil
        go_simp
        refine hK.out _ _ (by first | exact hSx _ x6 | exact hSx _ x5 | exact hSx _ x4a | exact hSx _ x4 | exact hSx _ x0) (fun hHeld => ?_)
        clear hK K
        (try simp only [Act.put,List.setIfInBounds_toArray,List.set_cons_zero,List.set_cons_succ,List.getElem_toArray,List.getElem_cons_zero,List.getElem_cons_succ])
        refine wpAnyH_done (by kernel_rfl) ?_ _
        have b6O := b5O.set (.slice A5 (ts.length + 1) c5)
        have x56 : Ext (fun k => k = w.heap.size + 1 + 1) W5 (W5.setCell ⟨w.heap.size + 1 + 1,0,none⟩ (.slice A5 (ts.length + 1) c5)) := Ext.setCell _ W5 ⟨w.heap.size + 1 + 1,0,none⟩ _ rfl
        have own6 := x56.own own5 (fun k hk e => by have := (own5.lt k hk).1; omega)
        have x46 : Ext (fun k => k = w.heap.size + 1 + 1 ∨ nb (.slice Ao ts.length co) k) W4 (W5.setCell ⟨w.heap.size + 1 + 1,0,none⟩ (.slice A5 (ts.length + 1) c5)) := (((Ext.refl _ W4).alloc _).trans (Ext.of_grown (S := fun k => nb (.slice Ao ts.length co) k) gr5 (fun k e => e)) (fun k hk => .inl (.inr hk))).set ⟨w.heap.size + 1 + 1,0,none⟩ _ (.inl rfl)
        have hCl : ∀ k,nb (.slice Ac (la - F) cc) k → W3.heap.size ≤ k ∧ k < W4.heap.size := fun k hk => (OwnM.of hC).lt k hk
        have own6C : OwnM (W5.setCell ⟨w.heap.size + 1 + 1,0,none⟩ (.slice A5 (ts.length + 1) c5)) (w1.heap.size + 3) 5 1 (.slice Ac (la - F) cc) (seg b F la).length ((seg b F la).map bv) := by
         rw [HL2.out]
         refine x46.own ((OwnM.of hC).rebase (by exact hz3)) fun k hk hs => ?_
         have h1 := (hCl k hk).1
         rcases hs with h2 | h2
         ·omega
         ·have := (hM3.ow.lt k h2).2
          omega
        have hMa := hM3.app hA0 hz1 x6 b6O own6 own6C (fun k hk => by
         unfold nb at hk ⊢
         rcases at5 with h | h
         ·rw [h] at hk; exact .inl hk
         ·rw [h] at hk; have := Option.some.inj hk; simp at this; exact .inr (by omega)) (fun k hk hk2 => by
         have h1 := hCl k hk
         unfold nb at hk2
         rcases at5 with h | h
         ·rw [h] at hk2; have := (hM3.ow.lt k hk2).2; omega
         ·rw [h] at hk2; have := Option.some.inj hk2; simp at this; omega)
        have hline6 : (W5.setCell ⟨w.heap.size + 1 + 1,0,none⟩ (.slice A5 (ts.length + 1) c5)).heap[Lp]? = some (.cells #[.int .i64 p,.int .i64 q,.int .i64 r] 97) := by
         refine (x6.block Lp (Array.getElem?_eq_some_iff.1 hline3).1 ?_).trans hline3
         rintro (h1 | h1)
         ·rw [h1,show W3.heap[_]? = _ from hM3.bO] at hline3
          simp at hline3
         ·obtain ⟨cur,fzz,hg⟩ := hM3.ow.ty h1
          rw [hg] at hline3
          simp at hline3
        have hext6 : Ext (SpW w w1.heap.size (.slice Ao ts.length co)) W (W5.setCell ⟨w.heap.size + 1 + 1,0,none⟩ (.slice A5 (ts.length + 1) c5)) := hext.trans x6 (by
         rintro k (h1 | h1)
         ·exact .inl (.inl h1)
         ·exact .inl (.inr (.inr (.inr (.inl h1)))))
        obtain ⟨W6,hW6⟩ : ∃ W6,W5.setCell ⟨w.heap.size + 1 + 1,0,none⟩ (.slice A5 (ts.length + 1) c5) = W6 := ⟨_,rfl⟩
        rw [hW6] at hMa hline6 hext6 ⊢
        have k62 : W6.drew.cell? ⟨Lp,2,none⟩ = some (.int .i64 r) := by
         have : W6.cell? ⟨Lp,2,none⟩ = some (.int .i64 r) := by simp [World.cell?,hline6]
         exact this
        have k62' : W6.cell? ⟨Lp,2,none⟩ = some (.int .i64 r) := by simp [World.cell?,hline6]
        clear hW6 hline6 x6 x46 x56 x5 x4a x4 x0 own6 own6C own5 gr5 at5 b6O b5O b4O hown4 hC hCl hSx hsx hcl c5O c4O cO cB cL cF fF fL f5O hb4 hb4' k0 k1 k2 cD
        have cD := hMa.bD.cell
        have cF := hMa.bF.cell
        have cL := hMa.bL.cell
        have fF := hMa.bF.frozen
        have fL := hMa.bL.frozen
        have cO := hMa.bO.cell
        have fO := hMa.bO.frozen
        have cC := hMa.bC.cell
        have fC := hMa.bC.frozen
        have HSK2 := Lib.hid (show SpSt b bd r (r : Int) r ((ts ++ [(seg b F la,Value.slice Ac (la - F) cc)]).map (·.1)) by rw [List.map_append]; exact HSK.out)
        clear HSK
        have HSK := HSK2
        gi_wp2
        have kS0 : W6.drew.cell? ⟨Lp,2,none⟩ = some (.int .i64 r) := k62
        have kS1 : ∀ v,(W6.drew.setCell ⟨w1.heap.size,0,none⟩ v).cell? ⟨Lp,2,none⟩ = some (.int .i64 r) := fun v => (World.cell?_setCell_other _ _ _ _ (fun e => hLF (by rw [Addr.mk.injEq] at e; exact e.1.symm))).trans kS0
        have kS2 : ∀ v u,((W6.drew.setCell ⟨w1.heap.size,0,none⟩ v).setCell ⟨w1.heap.size + 1,0,none⟩ u).cell? ⟨Lp,2,none⟩ = some (.int .i64 r) := fun v u => (World.cell?_setCell_other _ _ _ _ (fun e => hLN (by rw [Addr.mk.injEq] at e; exact e.1.symm))).trans (kS1 v)
        refine wpIn_region_round (S := fun w' => w'.cell? ⟨Lp,2,none⟩ = some (.int .i64 r)) (by kernel_rfl) (by kernel_rfl) (by rintro ⟨a,w,h⟩; exact h) (by first | exact kS0) (fun hHeld => ?_)
        (refine wpAnyH_take (i := 0) (v := ?_) rfl (by kernel_rfl) (by kernel_rfl) (by kernel_rfl) (fun _ _ _ h => h) (Or.inl ⟨by rfl,?_⟩) (by assumption) ?_; rotate_left 1; (focus (intro w hSw; (try dsimp only at hSw); go_simp; (try with_reducible rfl))); (try simp only [Act.put,List.setIfInBounds_toArray,List.set_cons_zero,List.set_cons_succ,List.getElem_toArray,List.getElem_cons_zero,List.getElem_cons_succ]))
        (refine wpAnyH_take (i := 1) (v := ?_) rfl (by kernel_rfl) (by kernel_rfl) (by kernel_rfl) (fun _ _ _ h => h) (Or.inl ⟨by rfl,?_⟩) (by assumption) ?_; rotate_left 1; (focus (intro w hSw; (try dsimp only at hSw); go_simp; (try with_reducible rfl))); (try simp only [Act.put,List.setIfInBounds_toArray,List.set_cons_zero,List.set_cons_succ,List.getElem_toArray,List.getElem_cons_zero,List.getElem_cons_succ]))
        (refine wpAnyH_take (i := 2) (v := ?_) rfl (by kernel_rfl) (by kernel_rfl) (by kernel_rfl) (fun _ _ _ h => h) (Or.inl ⟨by rfl,?_⟩) (by assumption) ?_; rotate_left 1; (focus (intro w hSw; (try dsimp only at hSw); go_simp; (try with_reducible rfl))); (try simp only [Act.put,List.setIfInBounds_toArray,List.set_cons_zero,List.set_cons_succ,List.getElem_toArray,List.getElem_cons_zero,List.getElem_cons_succ]))
        (refine wpAnyH_take (i := 3) (v := ?_) rfl (by kernel_rfl) (by kernel_rfl) (by kernel_rfl) (fun _ _ _ h => h) (Or.inl ⟨by rfl,?_⟩) (by assumption) ?_; rotate_left 1; (focus (intro w hSw; (try dsimp only at hSw); go_simp; (try with_reducible rfl))); (try simp only [Act.put,List.setIfInBounds_toArray,List.set_cons_zero,List.set_cons_succ,List.getElem_toArray,List.getElem_cons_zero,List.getElem_cons_succ]))
        refine wpAnyH_ready (rs := [4]) (by kernel_rfl) (by simp) ?_
        refine AllReadyH.cons rfl (fun K hK => ?_) AllReadyH.nil
        go_simp
        refine hK.out _ _ (by first | exact kS1 _) (fun hHeld => ?_)
        clear hK K
        (try simp only [Act.put,List.setIfInBounds_toArray,List.set_cons_zero,List.set_cons_succ,List.getElem_toArray,List.getElem_cons_zero,List.getElem_cons_succ])
        refine wpAnyH_ready (rs := [5]) (by kernel_rfl) (by simp) ?_
        refine AllReadyH.cons rfl (fun K hK => ?_) AllReadyH.nil
        go_simp
        refine hK.out _ _ (by first | exact kS2 _ _) (fun hHeld => ?_)
        clear hK K
        (try simp only [Act.put,List.setIfInBounds_toArray,List.set_cons_zero,List.set_cons_succ,List.getElem_toArray,List.getElem_cons_zero,List.getElem_cons_succ])
        refine wpAnyH_done (by kernel_rfl) ?_ _
        gi_wp2
        have hMq := ((hMa.below ((Below.refl _ _).drew)).setF hA0 hz1 (r : Int)).setL hA0 hz1 r
        have hk := hM.kept hz1 ((hext6.drew.set ⟨w1.heap.size,0,none⟩ (.int .i64 (r : Int)) (.inr (.inl rfl))).set ⟨w1.heap.size + 1,0,none⟩ (.int .i64 (r : Int)) (.inr (.inr (.inl rfl)))) hMq.rb
        rw [← hsz] at hk
        exact ⟨hk.1,hk.2,(r : Int),r,_,_,hMq,by rw [trEnd_snoc]; exact HSK⟩
    ·have e1 : (L == 45 :: 45 :: bd) = false := by simpa using h1
     by_cases hz : fz < 0
     ·have HSK := Lib.hid (HST.out.skip HPR.out (fun h => h1 (m1.1 h)) (.inl hz))
      by_cases h2 : L = [45,45] ++ bd ++ [45,45]
      ·have e2 : (L == 45 :: 45 :: (bd ++ [45,45])) = true := by simpa using h2
       clear m0 m1 m2 h1 h2
       gi_wp2
       have hMq := hM3.setL hA0 hz1 q
       have hk := hM.kept hz1 (hext.set ⟨w1.heap.size + 1,0,none⟩ _ (.inr (.inr (.inl rfl)))) hMq.rb
       rw [← hsz] at hk
       exact ⟨hk.1,hk.2,fz,q,ov,ts,hMq,by rw [trEnd_snoc]; exact HSK⟩
      ·have e2 : (L == 45 :: 45 :: (bd ++ [45,45])) = false := by simpa using h2
       clear m0 m1 m2 h1 h2
       gi_wp2
       have hMq := hM3.setL hA0 hz1 q
       have hk := hM.kept hz1 (hext.set ⟨w1.heap.size + 1,0,none⟩ _ (.inr (.inr (.inl rfl)))) hMq.rb
       rw [← hsz] at hk
       exact ⟨hk.1,hk.2,fz,q,ov,ts,hMq,by rw [trEnd_snoc]; exact HSK⟩
     ·by_cases h2 : L = [45,45] ++ bd ++ [45,45]
      ·have e2 : (L == 45 :: 45 :: (bd ++ [45,45])) = true := by simpa using h2
       have HM := Lib.hid (m2.2 h2)
       clear m0 m1 m2 h1 h2
       have hz0 : 0 ≤ fz := by omega
       obtain ⟨F,rfl,hFla⟩ := HST.out.from_le (by omega)
       have hlab : la ≤ n := by have h1 := HST.out.1; have h2 := HST.out.2.1; rw [HN.out] at h2; omega
       have htl : ts.length ≤ n := by have h1 := HST.out.2.2.1; have h2 := HST.out.2.1; rw [HN.out] at h2; rw [List.length_map] at h1; omega
       obtain ⟨A2,hs2,hr2,hp2⟩ := slice_part (P := Tryz.prog) Tryz.underlying22 Tryz.sizeOf5 A n c F la hFla hlab hnc hpl
       have hR2 : Rb W3.drew A2 (seg b F la) := hr2 W3.drew b HN.out (hM3.rb.below ((Below.refl _ _).drew))
       have hl2 : (seg b F la).length = la - F := seg_len (by rw [HN.out]; omega)
       have hcl := clone_any A2 (seg b F la) (la - F) (c - F) W3.drew hl2 hR2 (by omega) hp2 (by omega)
       have HL2 := Lib.hid hl2
       have hmx : max (F : Int) (la : Int) = (la : Int) := by omega
       have cB := hM3.bB.cell
       have cO := hM3.bO.cell
       have hsx : ∀ k,k < w1.heap.size + 3 → k ≠ w.heap.size + 1 + 1 → ¬ (k = w.heap.size + 1 + 1 ∨ nb ov k) := by
        rintro k h1 h2 (h3 | h3)
        ·exact h2 h3
        ·have := (hM3.ow.lt k h3).1
         omega
       have hSx : ∀ W',Ext (fun k => k = w.heap.size + 1 + 1 ∨ nb ov k) W3 W' → W'.cell? ⟨w.heap.size,0,none⟩ = some (.slice A n c) ∧ W'.cell? ⟨w1.heap.size,0,none⟩ = some (.int .i64 (F : Int)) ∧ W'.cell? ⟨w1.heap.size + 1,0,none⟩ = some (.int .i64 (la : Int)) :=
        fun W' hx => ⟨(box_ext2 hM3.bB hx (hsx _ (by omega) (by omega))).cell,(box_ext2 hM3.bF hx (hsx _ (by omega) (by omega))).cell,(box_ext2 hM3.bL hx (hsx _ (by omega) (by omega))).cell⟩
       have x0 : Ext (fun k => k = w.heap.size + 1 + 1 ∨ nb ov k) W3 W3.drew := (Ext.refl _ W3).drew
       have hz3 : w1.heap.size + 3 ≤ W3.heap.size := hM3.sz
       obtain ⟨Ao,co,hov,_,_,_,_,_,_⟩ := hM3.ow.form
       subst hov
       clear hr2 hl2 hR2
       have HSK := Lib.hid (HST.out.last HPR.out (F := F) rfl HM.out)
       gi_wp2
       refine wpIn_region_round (S := fun w' => w'.cell? ⟨w.heap.size,0,none⟩ = some (.slice A n c) ∧ w'.cell? ⟨w1.heap.size,0,none⟩ = some (.int .i64 (F : Int)) ∧ w'.cell? ⟨w1.heap.size + 1,0,none⟩ = some (.int .i64 (la : Int))) (by kernel_rfl) (by kernel_rfl) (by rintro ⟨a,w,h⟩; exact h) (by first | exact hSx _ x0) (fun hHeld => ?_)
       (refine wpAnyH_take (i := 1) (v := ?_) rfl (by kernel_rfl) (by kernel_rfl) (by kernel_rfl) (fun _ _ _ h => h) (Or.inl ⟨by rfl,?_⟩) (by assumption) ?_; rotate_left 1; (focus (intro w hSw; (try dsimp only at hSw); go_simp; (try with_reducible rfl))); (try simp only [Act.put,List.setIfInBounds_toArray,List.set_cons_zero,List.set_cons_succ,List.getElem_toArray,List.getElem_cons_zero,List.getElem_cons_succ]))
       (refine wpAnyH_take (i := 2) (v := ?_) rfl (by kernel_rfl) (by kernel_rfl) (by kernel_rfl) (fun _ _ _ h => h) (Or.inl ⟨by rfl,?_⟩) (by assumption) ?_; rotate_left 1; (focus (intro w hSw; (try dsimp only at hSw); go_simp; (try with_reducible rfl))); (try simp only [Act.put,List.setIfInBounds_toArray,List.set_cons_zero,List.set_cons_succ,List.getElem_toArray,List.getElem_cons_zero,List.getElem_cons_succ]))
       (refine wpAnyH_take (i := 3) (v := ?_) rfl (by kernel_rfl) (by kernel_rfl) (by kernel_rfl) (fun _ _ _ h => h) (Or.inl ⟨by rfl,?_⟩) (by assumption) ?_; rotate_left 1; (focus (intro w hSw; (try dsimp only at hSw); go_simp; (try with_reducible rfl))); (try simp only [Act.put,List.setIfInBounds_toArray,List.set_cons_zero,List.set_cons_succ,List.getElem_toArray,List.getElem_cons_zero,List.getElem_cons_succ]))
       (refine wpAnyH_take (i := 4) (v := ?_) rfl (by kernel_rfl) (by kernel_rfl) (by kernel_rfl) (fun _ _ _ h => h) (Or.inl ⟨by rfl,?_⟩) (by assumption) ?_; rotate_left 1; (focus (intro w hSw; (try dsimp only at hSw); go_simp; (try with_reducible rfl))); (try simp only [Act.put,List.setIfInBounds_toArray,List.set_cons_zero,List.set_cons_succ,List.getElem_toArray,List.getElem_cons_zero,List.getElem_cons_succ]))
       (refine wpAnyH_take (i := 5) (v := ?_) rfl (by kernel_rfl) (by kernel_rfl) (by kernel_rfl) (fun _ _ _ h => h) (Or.inl ⟨by rfl,?_⟩) (by assumption) ?_; rotate_left 1; (focus (intro w hSw; (try dsimp only at hSw); go_simp; (try with_reducible rfl))); (try simp only [Act.put,List.setIfInBounds_toArray,List.set_cons_zero,List.set_cons_succ,List.getElem_toArray,List.getElem_cons_zero,List.getElem_cons_succ]))
       (refine wpAnyH_take (i := 6) (v := ?_) rfl (by kernel_rfl) (by kernel_rfl) (by kernel_rfl) (fun _ _ _ h => h) (Or.inl ⟨by rfl,?_⟩) (by assumption) ?_; rotate_left 1; (focus (intro w hSw; (try dsimp only at hSw); go_simp; (try with_reducible rfl))); (try simp only [Act.put,List.setIfInBounds_toArray,List.set_cons_zero,List.set_cons_succ,List.getElem_toArray,List.getElem_cons_zero,List.getElem_cons_succ]))
       refine wpAnyH_ready (rs := [0,7]) (by kernel_rfl) (by simp) ?_
       refine AllReadyH.cons rfl (fun K hK => ?_) (AllReadyH.cons rfl (fun K hK => ?_) AllReadyH.nil)
       ·go_simp
        refine hK.out _ _ (by first | exact hSx _ x6 | exact hSx _ x5 | exact hSx _ x4a | exact hSx _ x4 | exact hSx _ x0) (fun hHeld => ?_)
        clear hK K
        (try simp only [Act.put,List.setIfInBounds_toArray,List.set_cons_zero,List.set_cons_succ,List.getElem_toArray,List.getElem_cons_zero,List.getElem_cons_succ])
        refine wpAnyH_ready (rs := [7]) (by kernel_rfl) (by simp) ?_
        refine AllReadyH.cons rfl (fun K hK => ?_) AllReadyH.nil
        go_simp
        go_wp2_with (go_at_call 63; refine hcl.mono ?_; rintro e W4 ⟨⟨vC,rfl,hC⟩,hb4⟩)
        obtain ⟨Ac,cc,rfl,hcc1,hcc2,_,_⟩ := own_slice hC
        have hb4' : Below W3.heap.size W3 W4 := ((Below.refl _ W3).drew).trans hb4
        have hz4 := hb4'.size
        have x4 : Ext (fun k => k = w.heap.size + 1 + 1 ∨ nb (.slice Ao ts.length co) k) W3 W4 := Ext.of_below _ hb4'
        have x4a : Ext (fun k => k = w.heap.size + 1 + 1 ∨ nb (.slice Ao ts.length co) k) W3 (W4.alloc (.cells #[.slice Ac (la - F) cc] 22)) := x4.alloc _
        have b4O := box_below hM3.bO hb4'
        have c4O := b4O.cell
        have l4O : w.heap.size + 1 + 1 < W4.heap.size := by omega
        have hown4 := (hM3.ow.below hb4').alloc (.cells #[.slice Ac (la - F) cc] 22)
        refine hK.out _ _ (by first | exact hSx _ x6 | exact hSx _ x5 | exact hSx _ x4a | exact hSx _ x4 | exact hSx _ x0) (fun hHeld => ?_)
        clear hK K
        (try simp only [Act.put,List.setIfInBounds_toArray,List.set_cons_zero,List.set_cons_succ,List.getElem_toArray,List.getElem_cons_zero,List.getElem_cons_succ])
        refine wpAnyH_ready (rs := [8]) (by kernel_rfl) (by simp) ?_
        refine AllReadyH.cons rfl (fun K hK => ?_) AllReadyH.nil
        go_simp
        refine hK.out _ _ (by first | exact hSx _ x6 | exact hSx _ x5 | exact hSx _ x4a | exact hSx _ x4 | exact hSx _ x0) (fun hHeld => ?_)
        clear hK K
        (try simp only [Act.put,List.setIfInBounds_toArray,List.set_cons_zero,List.set_cons_succ,List.getElem_toArray,List.getElem_cons_zero,List.getElem_cons_succ])
        refine wpAnyH_ready (rs := [9]) (by kernel_rfl) (by simp) ?_
        refine AllReadyH.cons rfl (fun K hK => ?_) AllReadyH.nil
        refine step_appM rfl _ _ _ _ rfl TBs hown4 rfl (Src_rv (news := [.slice Ac (la - F) cc]) Tryz.underlying66 rfl (Rv_new W4 _ _ _ rfl) (by simp [Value.oneCell']) (by omega)) rfl (by omega) (by simp; omega) ?_
        intro v5 W5 own5 gr5 at5
        obtain ⟨A5,c5,hv5,_,_,_,_,_,_⟩ := own5.form
        subst hv5
        have x5 : Ext (fun k => k = w.heap.size + 1 + 1 ∨ nb (.slice Ao ts.length co) k) W3 W5 := x4a.trans (Ext.of_grown (S := fun k => nb (.slice Ao ts.length co) k) gr5 (fun k e => e)) (fun k hk => .inl (.inr hk))
        have b5O : Boxed W5 (w.heap.size + 1 + 1) 66 (.slice Ao ts.length co) := (b4O.alloc _).kept gr5 (fun e => by have := (hM3.ow.lt _ e.symm).1; omega)
        have c5O := b5O.cell
        have f5O := b5O.frozen
        have x6 := x5.set ⟨w.heap.size + 1 + 1,0,none⟩ (.slice A5 (ts.length + 1) c5) (.inl rfl)
        refine hK.out _ _ (by first | exact hSx _ x6 | exact hSx _ x5 | exact hSx _ x4a | exact hSx _ x4 | exact hSx _ x0) (fun hHeld => ?_)
        clear hK K
        (try simp only [Act.put,List.setIfInBounds_toArray,List.set_cons_zero,List.set_cons_succ,List.getElem_toArray,List.getElem_cons_zero,List.getElem_cons_succ])
        refine wpAnyH_ready (rs := [10]) (by kernel_rfl) (by simp) ?_
        refine AllReadyH.cons rfl (fun K hK => ?_) AllReadyH.nil
        go_simp
        refine hK.out _ _ (by first | exact hSx _ x6 | exact hSx _ x5 | exact hSx _ x4a | exact hSx _ x4 | exact hSx _ x0) (fun hHeld => ?_)
        clear hK K
        (try simp only [Act.put,List.setIfInBounds_toArray,List.set_cons_zero,List.set_cons_succ,List.getElem_toArray,List.getElem_cons_zero,List.getElem_cons_succ])
        refine wpAnyH_done (by kernel_rfl) ?_ _
        have b6O := b5O.set (.slice A5 (ts.length + 1) c5)
        have x56 : Ext (fun k => k = w.heap.size + 1 + 1) W5 (W5.setCell ⟨w.heap.size + 1 + 1,0,none⟩ (.slice A5 (ts.length + 1) c5)) := Ext.setCell _ W5 ⟨w.heap.size + 1 + 1,0,none⟩ _ rfl
        have own6 := x56.own own5 (fun k hk e => by have := (own5.lt k hk).1; omega)
        have x46 : Ext (fun k => k = w.heap.size + 1 + 1 ∨ nb (.slice Ao ts.length co) k) W4 (W5.setCell ⟨w.heap.size + 1 + 1,0,none⟩ (.slice A5 (ts.length + 1) c5)) := (((Ext.refl _ W4).alloc _).trans (Ext.of_grown (S := fun k => nb (.slice Ao ts.length co) k) gr5 (fun k e => e)) (fun k hk => .inl (.inr hk))).set ⟨w.heap.size + 1 + 1,0,none⟩ _ (.inl rfl)
        have hCl : ∀ k,nb (.slice Ac (la - F) cc) k → W3.heap.size ≤ k ∧ k < W4.heap.size := fun k hk => (OwnM.of hC).lt k hk
        have own6C : OwnM (W5.setCell ⟨w.heap.size + 1 + 1,0,none⟩ (.slice A5 (ts.length + 1) c5)) (w1.heap.size + 3) 5 1 (.slice Ac (la - F) cc) (seg b F la).length ((seg b F la).map bv) := by
         rw [HL2.out]
         refine x46.own ((OwnM.of hC).rebase (by exact hz3)) fun k hk hs => ?_
         have h1 := (hCl k hk).1
         rcases hs with h2 | h2
         ·omega
         ·have := (hM3.ow.lt k h2).2
          omega
        have hMa := hM3.app hA0 hz1 x6 b6O own6 own6C (fun k hk => by
         unfold nb at hk ⊢
         rcases at5 with h | h
         ·rw [h] at hk; exact .inl hk
         ·rw [h] at hk; have := Option.some.inj hk; simp at this; exact .inr (by omega)) (fun k hk hk2 => by
         have h1 := hCl k hk
         unfold nb at hk2
         rcases at5 with h | h
         ·rw [h] at hk2; have := (hM3.ow.lt k hk2).2; omega
         ·rw [h] at hk2; have := Option.some.inj hk2; simp at this; omega)
        have hline6 : (W5.setCell ⟨w.heap.size + 1 + 1,0,none⟩ (.slice A5 (ts.length + 1) c5)).heap[Lp]? = some (.cells #[.int .i64 p,.int .i64 q,.int .i64 r] 97) := by
         refine (x6.block Lp (Array.getElem?_eq_some_iff.1 hline3).1 ?_).trans hline3
         rintro (h1 | h1)
         ·rw [h1,show W3.heap[_]? = _ from hM3.bO] at hline3
          simp at hline3
         ·obtain ⟨cur,fzz,hg⟩ := hM3.ow.ty h1
          rw [hg] at hline3
          simp at hline3
        have hext6 : Ext (SpW w w1.heap.size (.slice Ao ts.length co)) W (W5.setCell ⟨w.heap.size + 1 + 1,0,none⟩ (.slice A5 (ts.length + 1) c5)) := hext.trans x6 (by
         rintro k (h1 | h1)
         ·exact .inl (.inl h1)
         ·exact .inl (.inr (.inr (.inr (.inl h1)))))
        obtain ⟨W6,hW6⟩ : ∃ W6,W5.setCell ⟨w.heap.size + 1 + 1,0,none⟩ (.slice A5 (ts.length + 1) c5) = W6 := ⟨_,rfl⟩
        rw [hW6] at hMa hline6 hext6 ⊢
        have k62 : W6.drew.cell? ⟨Lp,2,none⟩ = some (.int .i64 r) := by
         have : W6.cell? ⟨Lp,2,none⟩ = some (.int .i64 r) := by simp [World.cell?,hline6]
         exact this
        have k62' : W6.cell? ⟨Lp,2,none⟩ = some (.int .i64 r) := by simp [World.cell?,hline6]
        clear hW6 hline6 x6 x46 x56 x5 x4a x4 x0 own6 own6C own5 gr5 at5 b6O b5O b4O hown4 hC hCl hSx hsx hcl c5O c4O cO cB cL cF fF fL f5O hb4 hb4' k0 k1 k2 cD
        have cD := hMa.bD.cell
        have cF := hMa.bF.cell
        have cL := hMa.bL.cell
        have fF := hMa.bF.frozen
        have fL := hMa.bL.frozen
        have cO := hMa.bO.cell
        have fO := hMa.bO.frozen
        have cC := hMa.bC.cell
        have fC := hMa.bC.frozen
        gi_wp2
        have hMq := hMa.again hA0 hz1
        have hk := hM.kept hz1 ((hext6.set ⟨w.heap.size + 1 + 1,0,none⟩ (.slice A5 (ts.length + 1) c5) (.inl rfl)).set ⟨w.heap.size + 1 + 1 + 1,0,none⟩ (.int .i64 0) (.inr (.inr (.inr (.inr rfl))))) hMq.rb
        rw [← hsz] at hk
        exact ⟨hk.1,rfl,_,_,_,_,hMq,Lib.hid (by rw [List.map_append]; exact HSK.out)⟩
       ·go_simp
        go_wp2_with (go_at_call 63; refine hcl.mono ?_; rintro e W4 ⟨⟨vC,rfl,hC⟩,hb4⟩)
        obtain ⟨Ac,cc,rfl,hcc1,hcc2,_,_⟩ := own_slice hC
        have hb4' : Below W3.heap.size W3 W4 := ((Below.refl _ W3).drew).trans hb4
        have hz4 := hb4'.size
        have x4 : Ext (fun k => k = w.heap.size + 1 + 1 ∨ nb (.slice Ao ts.length co) k) W3 W4 := Ext.of_below _ hb4'
        have x4a : Ext (fun k => k = w.heap.size + 1 + 1 ∨ nb (.slice Ao ts.length co) k) W3 (W4.alloc (.cells #[.slice Ac (la - F) cc] 22)) := x4.alloc _
        have b4O := box_below hM3.bO hb4'
        have c4O := b4O.cell
        have l4O : w.heap.size + 1 + 1 < W4.heap.size := by omega
        have hown4 := (hM3.ow.below hb4').alloc (.cells #[.slice Ac (la - F) cc] 22)
        refine hK.out _ _ (by first | exact hSx _ x6 | exact hSx _ x5 | exact hSx _ x4a | exact hSx _ x4 | exact hSx _ x0) (fun hHeld => ?_)
        clear hK K
        (try simp only [Act.put,List.setIfInBounds_toArray,List.set_cons_zero,List.set_cons_succ,List.getElem_toArray,List.getElem_cons_zero,List.getElem_cons_succ])
        refine wpAnyH_ready (rs := [0,8]) (by kernel_rfl) (by simp) ?_
        refine AllReadyH.cons rfl (fun K hK => ?_) (AllReadyH.cons rfl (fun K hK => ?_) AllReadyH.nil)
        ·go_simp
         refine hK.out _ _ (by first | exact hSx _ x6 | exact hSx _ x5 | exact hSx _ x4a | exact hSx _ x4 | exact hSx _ x0) (fun hHeld => ?_)
         clear hK K
         (try simp only [Act.put,List.setIfInBounds_toArray,List.set_cons_zero,List.set_cons_succ,List.getElem_toArray,List.getElem_cons_zero,List.getElem_cons_succ])
         refine wpAnyH_ready (rs := [8]) (by kernel_rfl) (by simp) ?_
         refine AllReadyH.cons rfl (fun K hK => ?_) AllReadyH.nil
         go_simp
         refine hK.out _ _ (by first | exact hSx _ x6 | exact hSx _ x5 | exact hSx _ x4a | exact hSx _ x4 | exact hSx _ x0) (fun hHeld => ?_)
         clear hK K
         (try simp only [Act.put,List.setIfInBounds_toArray,List.set_cons_zero,List.set_cons_succ,List.getElem_toArray,List.getElem_cons_zero,List.getElem_cons_succ])
         refine wpAnyH_ready (rs := [9]) (by kernel_rfl) (by simp) ?_
         refine AllReadyH.cons rfl (fun K hK => ?_) AllReadyH.nil
         refine step_appM rfl _ _ _ _ rfl TBs hown4 rfl (Src_rv (news := [.slice Ac (la - F) cc]) Tryz.underlying66 rfl (Rv_new W4 _ _ _ rfl) (by simp [Value.oneCell']) (by omega)) rfl (by omega) (by simp; omega) ?_
         intro v5 W5 own5 gr5 at5
         obtain ⟨A5,c5,hv5,_,_,_,_,_,_⟩ := own5.form
         subst hv5
         have x5 : Ext (fun k => k = w.heap.size + 1 + 1 ∨ nb (.slice Ao ts.length co) k) W3 W5 := x4a.trans (Ext.of_grown (S := fun k => nb (.slice Ao ts.length co) k) gr5 (fun k e => e)) (fun k hk => .inl (.inr hk))
         have b5O : Boxed W5 (w.heap.size + 1 + 1) 66 (.slice Ao ts.length co) := (b4O.alloc _).kept gr5 (fun e => by have := (hM3.ow.lt _ e.symm).1; omega)
         have c5O := b5O.cell
         have f5O := b5O.frozen
         have x6 := x5.set ⟨w.heap.size + 1 + 1,0,none⟩ (.slice A5 (ts.length + 1) c5) (.inl rfl)
         refine hK.out _ _ (by first | exact hSx _ x6 | exact hSx _ x5 | exact hSx _ x4a | exact hSx _ x4 | exact hSx _ x0) (fun hHeld => ?_)
         clear hK K
         (try simp only [Act.put,List.setIfInBounds_toArray,List.set_cons_zero,List.set_cons_succ,List.getElem_toArray,List.getElem_cons_zero,List.getElem_cons_succ])
         refine wpAnyH_ready (rs := [10]) (by kernel_rfl) (by simp) ?_
         refine AllReadyH.cons rfl (fun K hK => ?_) AllReadyH.nil
         go_simp
         refine hK.out _ _ (by first | exact hSx _ x6 | exact hSx _ x5 | exact hSx _ x4a | exact hSx _ x4 | exact hSx _ x0) (fun hHeld => ?_)
         clear hK K
         (try simp only [Act.put,List.setIfInBounds_toArray,List.set_cons_zero,List.set_cons_succ,List.getElem_toArray,List.getElem_cons_zero,List.getElem_cons_succ])
         refine wpAnyH_done (by kernel_rfl) ?_ _
         have b6O := b5O.set (.slice A5 (ts.length + 1) c5)
         have x56 : Ext (fun k => k = w.heap.size + 1 + 1) W5 (W5.setCell ⟨w.heap.size + 1 + 1,0,none⟩ (.slice A5 (ts.length + 1) c5)) := Ext.setCell _ W5 ⟨w.heap.size + 1 + 1,0,none⟩ _ rfl
         have own6 := x56.own own5 (fun k hk e => by have := (own5.lt k hk).1; omega)
         have x46 : Ext (fun k => k = w.heap.size + 1 + 1 ∨ nb (.slice Ao ts.length co) k) W4 (W5.setCell ⟨w.heap.size + 1 + 1,0,none⟩ (.slice A5 (ts.length + 1) c5)) := (((Ext.refl _ W4).alloc _).trans (Ext.of_grown (S := fun k => nb (.slice Ao ts.length co) k) gr5 (fun k e => e)) (fun k hk => .inl (.inr hk))).set ⟨w.heap.size + 1 + 1,0,none⟩ _ (.inl rfl)
         have hCl : ∀ k,nb (.slice Ac (la - F) cc) k → W3.heap.size ≤ k ∧ k < W4.heap.size := fun k hk => (OwnM.of hC).lt k hk
         have own6C : OwnM (W5.setCell ⟨w.heap.size + 1 + 1,0,none⟩ (.slice A5 (ts.length + 1) c5)) (w1.heap.size + 3) 5 1 (.slice Ac (la - F) cc) (seg b F la).length ((seg b F la).map bv) := by
          rw [HL2.out]
          refine x46.own ((OwnM.of hC).rebase (by exact hz3)) fun k hk hs => ?_
          have h1 := (hCl k hk).1
          rcases hs with h2 | h2
          ·omega
          ·have := (hM3.ow.lt k h2).2
           omega
         have hMa := hM3.app hA0 hz1 x6 b6O own6 own6C (fun k hk => by
          unfold nb at hk ⊢
          rcases at5 with h | h
          ·rw [h] at hk; exact .inl hk
          ·rw [h] at hk; have := Option.some.inj hk; simp at this; exact .inr (by omega)) (fun k hk hk2 => by
          have h1 := hCl k hk
          unfold nb at hk2
          rcases at5 with h | h
          ·rw [h] at hk2; have := (hM3.ow.lt k hk2).2; omega
          ·rw [h] at hk2; have := Option.some.inj hk2; simp at this; omega)
         have hline6 : (W5.setCell ⟨w.heap.size + 1 + 1,0,none⟩ (.slice A5 (ts.length + 1) c5)).heap[Lp]? = some (.cells #[.int .i64 p,.int .i64 q,.int .i64 r] 97) := by
          refine (x6.block Lp (Array.getElem?_eq_some_iff.1 hline3).1 ?_).trans hline3
          rintro (h1 | h1)
          ·rw [h1,show W3.heap[_]? = _ from hM3.bO] at hline3
           simp at hline3
          ·obtain ⟨cur,fzz,hg⟩ := hM3.ow.ty h1
           rw [hg] at hline3
           simp at hline3
         have hext6 : Ext (SpW w w1.heap.size (.slice Ao ts.length co)) W (W5.setCell ⟨w.heap.size + 1 + 1,0,none⟩ (.slice A5 (ts.length + 1) c5)) := hext.trans x6 (by
          rintro k (h1 | h1)
          ·exact .inl (.inl h1)
          ·exact .inl (.inr (.inr (.inr (.inl h1)))))
         obtain ⟨W6,hW6⟩ : ∃ W6,W5.setCell ⟨w.heap.size + 1 + 1,0,none⟩ (.slice A5 (ts.length + 1) c5) = W6 := ⟨_,rfl⟩
         rw [hW6] at hMa hline6 hext6 ⊢
         have k62 : W6.drew.cell? ⟨Lp,2,none⟩ = some (.int .i64 r) := by
          have : W6.cell? ⟨Lp,2,none⟩ = some (.int .i64 r) := by simp [World.cell?,hline6]
          exact this
         have k62' : W6.cell? ⟨Lp,2,none⟩ = some (.int .i64 r) := by simp [World.cell?,hline6]
         clear hW6 hline6 x6 x46 x56 x5 x4a x4 x0 own6 own6C own5 gr5 at5 b6O b5O b4O hown4 hC hCl hSx hsx hcl c5O c4O cO cB cL cF fF fL f5O hb4 hb4' k0 k1 k2 cD
         have cD := hMa.bD.cell
         have cF := hMa.bF.cell
         have cL := hMa.bL.cell
         have fF := hMa.bF.frozen
         have fL := hMa.bL.frozen
         have cO := hMa.bO.cell
         have fO := hMa.bO.frozen
         have cC := hMa.bC.cell
         have fC := hMa.bC.frozen
         gi_wp2
         have hMq := hMa.again hA0 hz1
         have hk := hM.kept hz1 ((hext6.set ⟨w.heap.size + 1 + 1,0,none⟩ (.slice A5 (ts.length + 1) c5) (.inl rfl)).set ⟨w.heap.size + 1 + 1 + 1,0,none⟩ (.int .i64 0) (.inr (.inr (.inr (.inr rfl))))) hMq.rb
         rw [← hsz] at hk
         exact ⟨hk.1,rfl,_,_,_,_,hMq,Lib.hid (by rw [List.map_append]; exact HSK.out)⟩
        ·go_simp
         refine hK.out _ _ (by first | exact hSx _ x6 | exact hSx _ x5 | exact hSx _ x4a | exact hSx _ x4 | exact hSx _ x0) (fun hHeld => ?_)
         clear hK K
         (try simp only [Act.put,List.setIfInBounds_toArray,List.set_cons_zero,List.set_cons_succ,List.getElem_toArray,List.getElem_cons_zero,List.getElem_cons_succ])
         refine wpAnyH_ready (rs := [0]) (by kernel_rfl) (by simp) ?_
         refine AllReadyH.cons rfl (fun K hK => ?_) AllReadyH.nil
         go_simp
         refine hK.out _ _ (by first | exact hSx _ x6 | exact hSx _ x5 | exact hSx _ x4a | exact hSx _ x4 | exact hSx _ x0) (fun hHeld => ?_)
         clear hK K
         (try simp only [Act.put,List.setIfInBounds_toArray,List.set_cons_zero,List.set_cons_succ,List.getElem_toArray,List.getElem_cons_zero,List.getElem_cons_succ])
         refine wpAnyH_ready (rs := [9]) (by kernel_rfl) (by simp) ?_
         refine AllReadyH.cons rfl (fun K hK => ?_) AllReadyH.nil
         refine step_appM rfl _ _ _ _ rfl TBs hown4 rfl (Src_rv (news := [.slice Ac (la - F) cc]) Tryz.underlying66 rfl (Rv_new W4 _ _ _ rfl) (by simp [Value.oneCell']) (by omega)) rfl (by omega) (by simp; omega) ?_
         intro v5 W5 own5 gr5 at5
         obtain ⟨A5,c5,hv5,_,_,_,_,_,_⟩ := own5.form
         subst hv5
         have x5 : Ext (fun k => k = w.heap.size + 1 + 1 ∨ nb (.slice Ao ts.length co) k) W3 W5 := x4a.trans (Ext.of_grown (S := fun k => nb (.slice Ao ts.length co) k) gr5 (fun k e => e)) (fun k hk => .inl (.inr hk))
         have b5O : Boxed W5 (w.heap.size + 1 + 1) 66 (.slice Ao ts.length co) := (b4O.alloc _).kept gr5 (fun e => by have := (hM3.ow.lt _ e.symm).1; omega)
         have c5O := b5O.cell
         have f5O := b5O.frozen
         have x6 := x5.set ⟨w.heap.size + 1 + 1,0,none⟩ (.slice A5 (ts.length + 1) c5) (.inl rfl)
         refine hK.out _ _ (by first | exact hSx _ x6 | exact hSx _ x5 | exact hSx _ x4a | exact hSx _ x4 | exact hSx _ x0) (fun hHeld => ?_)
         clear hK K
         (try simp only [Act.put,List.setIfInBounds_toArray,List.set_cons_zero,List.set_cons_succ,List.getElem_toArray,List.getElem_cons_zero,List.getElem_cons_succ])
         refine wpAnyH_ready (rs := [10]) (by kernel_rfl) (by simp) ?_
         refine AllReadyH.cons rfl (fun K hK => ?_) AllReadyH.nil
         go_simp
         refine hK.out _ _ (by first | exact hSx _ x6 | exact hSx _ x5 | exact hSx _ x4a | exact hSx _ x4 | exact hSx _ x0) (fun hHeld => ?_)
         clear hK K
         (try simp only [Act.put,List.setIfInBounds_toArray,List.set_cons_zero,List.set_cons_succ,List.getElem_toArray,List.getElem_cons_zero,List.getElem_cons_succ])
         refine wpAnyH_done (by kernel_rfl) ?_ _
         have b6O := b5O.set (.slice A5 (ts.length + 1) c5)
         have x56 : Ext (fun k => k = w.heap.size + 1 + 1) W5 (W5.setCell ⟨w.heap.size + 1 + 1,0,none⟩ (.slice A5 (ts.length + 1) c5)) := Ext.setCell _ W5 ⟨w.heap.size + 1 + 1,0,none⟩ _ rfl
         have own6 := x56.own own5 (fun k hk e => by have := (own5.lt k hk).1; omega)
         have x46 : Ext (fun k => k = w.heap.size + 1 + 1 ∨ nb (.slice Ao ts.length co) k) W4 (W5.setCell ⟨w.heap.size + 1 + 1,0,none⟩ (.slice A5 (ts.length + 1) c5)) := (((Ext.refl _ W4).alloc _).trans (Ext.of_grown (S := fun k => nb (.slice Ao ts.length co) k) gr5 (fun k e => e)) (fun k hk => .inl (.inr hk))).set ⟨w.heap.size + 1 + 1,0,none⟩ _ (.inl rfl)
         have hCl : ∀ k,nb (.slice Ac (la - F) cc) k → W3.heap.size ≤ k ∧ k < W4.heap.size := fun k hk => (OwnM.of hC).lt k hk
         have own6C : OwnM (W5.setCell ⟨w.heap.size + 1 + 1,0,none⟩ (.slice A5 (ts.length + 1) c5)) (w1.heap.size + 3) 5 1 (.slice Ac (la - F) cc) (seg b F la).length ((seg b F la).map bv) := by
          rw [HL2.out]
          refine x46.own ((OwnM.of hC).rebase (by exact hz3)) fun k hk hs => ?_
          have h1 := (hCl k hk).1
          rcases hs with h2 | h2
          ·omega
          ·have := (hM3.ow.lt k h2).2
           omega
         have hMa := hM3.app hA0 hz1 x6 b6O own6 own6C (fun k hk => by
          unfold nb at hk ⊢
          rcases at5 with h | h
          ·rw [h] at hk; exact .inl hk
          ·rw [h] at hk; have := Option.some.inj hk; simp at this; exact .inr (by omega)) (fun k hk hk2 => by
          have h1 := hCl k hk
          unfold nb at hk2
          rcases at5 with h | h
          ·rw [h] at hk2; have := (hM3.ow.lt k hk2).2; omega
          ·rw [h] at hk2; have := Option.some.inj hk2; simp at this; omega)
         have hline6 : (W5.setCell ⟨w.heap.size + 1 + 1,0,none⟩ (.slice A5 (ts.length + 1) c5)).heap[Lp]? = some (.cells #[.int .i64 p,.int .i64 q,.int .i64 r] 97) := by
          refine (x6.block Lp (Array.getElem?_eq_some_iff.1 hline3).1 ?_).trans hline3
          rintro (h1 | h1)
          ·rw [h1,show W3.heap[_]? = _ from hM3.bO] at hline3
           simp at hline3
          ·obtain ⟨cur,fzz,hg⟩ := hM3.ow.ty h1
           rw [hg] at hline3
           simp at hline3
         have hext6 : Ext (SpW w w1.heap.size (.slice Ao ts.length co)) W (W5.setCell ⟨w.heap.size + 1 + 1,0,none⟩ (.slice A5 (ts.length + 1) c5)) := hext.trans x6 (by
          rintro k (h1 | h1)
          ·exact .inl (.inl h1)
          ·exact .inl (.inr (.inr (.inr (.inl h1)))))
         obtain ⟨W6,hW6⟩ : ∃ W6,W5.setCell ⟨w.heap.size + 1 + 1,0,none⟩ (.slice A5 (ts.length + 1) c5) = W6 := ⟨_,rfl⟩
         rw [hW6] at hMa hline6 hext6 ⊢
         have k62 : W6.drew.cell? ⟨Lp,2,none⟩ = some (.int .i64 r) := by
          have : W6.cell? ⟨Lp,2,none⟩ = some (.int .i64 r) := by simp [World.cell?,hline6]
          exact this
         have k62' : W6.cell? ⟨Lp,2,none⟩ = some (.int .i64 r) := by simp [World.cell?,hline6]
         clear hW6 hline6 x6 x46 x56 x5 x4a x4 x0 own6 own6C own5 gr5 at5 b6O b5O b4O hown4 hC hCl hSx hsx hcl c5O c4O cO cB cL cF fF fL f5O hb4 hb4' k0 k1 k2 cD
         have cD := hMa.bD.cell
         have cF := hMa.bF.cell
         have cL := hMa.bL.cell
         have fF := hMa.bF.frozen
         have fL := hMa.bL.frozen
         have cO := hMa.bO.cell
         have fO := hMa.bO.frozen
         have cC := hMa.bC.cell
         have fC := hMa.bC.frozen
         gi_wp2
         have hMq := hMa.again hA0 hz1
         have hk := hM.kept hz1 ((hext6.set ⟨w.heap.size + 1 + 1,0,none⟩ (.slice A5 (ts.length + 1) c5) (.inl rfl)).set ⟨w.heap.size + 1 + 1 + 1,0,none⟩ (.int .i64 0) (.inr (.inr (.inr (.inr rfl))))) hMq.rb
         rw [← hsz] at hk
         exact ⟨hk.1,rfl,_,_,_,_,hMq,Lib.hid (by rw [List.map_append]; exact HSK.out)⟩
      ·have e2 : (L == 45 :: 45 :: (bd ++ [45,45])) = false := by simpa using h2
       have HSK := Lib.hid (HST.out.skip HPR.out (fun h => h1 (m1.1 h)) (.inr (m0.2 ⟨h1,h2⟩)))
       clear m0 m1 m2 h1 h2
       gi_wp2
       have hMq := hM3.setL hA0 hz1 q
       have hk := hM.kept hz1 (hext.set ⟨w1.heap.size + 1,0,none⟩ _ (.inr (.inr (.inl rfl)))) hMq.rb
       rw [← hsz] at hk
       exact ⟨hk.1,hk.2,fz,q,ov,ts,hMq,by rw [trEnd_snoc]; exact HSK⟩
   case done =>
    rintro D xs W hD hS ⟨fz,la,ov,ts,hM,hSt⟩ hK
    have HS : Hid (splitS b bd = ([],3)) := Lib.hid (by
     unfold splitS
     rw [hok,hSt.out.none hS]
     rfl)
    clear hok hSt hS
    have cO := hM.bO.cell
    have fO := hM.bO.frozen
    have cC := hM.bC.cell
    have fC := hM.bC.frozen
    have l2' : w.heap.size + 1 + 1 < W.heap.size := hM.bO.lt
    have l3' : w.heap.size + 1 + 1 + 1 < W.heap.size := hM.bC.lt
    have g3 := ((hM.bO.set (.slice none 0 0)).other (B' := w.heap.size + 1 + 1 + 1) (by omega) (.int .i64 3))
    have g4 := ((hM.bC.other (B' := w.heap.size + 1 + 1) (by omega) (.slice none 0 0)).set (.int .i64 3))
    have hK2 := (KeepsOthers.setCell (W.setCell ⟨w.heap.size + 1 + 1,0,none⟩ (.slice none 0 0)) ⟨w.heap.size + 1 + 1 + 1,0,none⟩ (.int .i64 3)).same D _ ((KeepsOthers.setCell W ⟨w.heap.size + 1 + 1,0,none⟩ (.slice none 0 0)).same D _ hK rfl) rfl
    have hbe := ((hM.be.setCell (p := ⟨w.heap.size + 1 + 1,0,none⟩) (by simp; omega) (.slice none 0 0)).setCell (p := ⟨w.heap.size + 1 + 1 + 1,0,none⟩) (by simp; omega) (.int .i64 3))
    gi_wp2
    obtain ⟨W9,hW9⟩ : ∃ W9,(W.setCell ⟨w.heap.size + 1 + 1,0,none⟩ (.slice none 0 0)).setCell ⟨w.heap.size + 1 + 1 + 1,0,none⟩ (.int .i64 3) = W9 := ⟨_,rfl⟩
    rw [hW9] at g3 g4 hK2 hbe ⊢
    have hx9 := ext_putObj W9 D (.deferred none)
    have g3' := (box_ext g3 hx9 (not_cells hK2 rfl)).cell
    have g4' := (box_ext g4 hx9 (not_cells hK2 rfl)).cell
    refine ⟨by simp,.inl ⟨_,_,rfl,run_takeDeferred hK2,?_⟩⟩
    refine ⟨.tuple #[.slice none 0 0,.int .i64 3],by simp [results,Tryz.f30,go_sem,g3',g4'],⟨.slice none 0 0,[],by rw [HS.out],by rw [HS.out]; rfl,OwnM.nil _ _ _ _,fun t ht => by simp at ht⟩,hx9.below hbe hbe.size (fun k e => by omega)⟩
   case stop =>
    rintro D cd pre W hD _ ⟨rfl,fz,la,ov,ts,hM,hSt⟩ hK
    have HS : Hid (splitS b bd = (ts.map (·.1),0)) := Lib.hid (by
     unfold splitS
     rw [hok,hSt.out]
     rfl)
    clear hok hSt
    obtain ⟨Ao,co,rfl,_,_,_,_,_,_⟩ := hM.ow.form
    gi_wp2
    have hx9 := ext_putObj W D (.deferred none)
    have hM9 := hM.next hx9 (not_cells hK rfl) (fun k e => by subst e; omega)
    have g3' := hM9.bO.cell
    have g4' := hM9.bC.cell
    refine ⟨by simp,.inl ⟨_,_,rfl,run_takeDeferred hK,?_⟩⟩
    refine ⟨.tuple #[.slice Ao ts.length co,.int .i64 0],by simp [results,Tryz.f30,go_sem,g3',g4'],⟨_,ts,by rw [HS.out],by rw [HS.out],hM9.ow.rebase (by omega),fun t ht => ⟨(hM9.ls t ht).1.rebase (by omega),(hM9.ls t ht).2⟩⟩,hM9.be⟩
end
end Go.Proofs.YtkllecicddfjpaaGreatDoor
