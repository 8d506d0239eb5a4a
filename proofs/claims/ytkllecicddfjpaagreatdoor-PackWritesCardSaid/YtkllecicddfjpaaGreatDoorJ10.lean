/- The walk of the law, part 10. -/
import Derived.Test.YtkllecicddfjpaaGreatDoorJ02
import Derived.Test.YtkllecicddfjpaaGreatDoorJ09
import Derived.Deep.Slices
import Derived.ChangeSame
set_option maxRecDepth 100000
set_option maxHeartbeats 16000000
set_option linter.unusedVariables false
set_option linter.unusedSimpArgs false
namespace Go.Proofs.YtkllecicddfjpaaGreatDoor
section
open Go.RowKit
theorem elem_of {P : Program} {t e : TypeId} (ht : P.underlying t = some (.slice e)) : P.underlying t = some (.slice (P.elem t)) := by
 simp [Program.elem,ht]
theorem elem_eq {P : Program} {t e : TypeId} (ht : P.underlying t = some (.slice e)) : P.elem t = e := by
 simp [Program.elem,ht]
theorem slice_from {P : Program} {t e : TypeId} {s : Nat} (ht : P.underlying t = some (.slice e)) (hsz : ∀ w,(sizeOf e).run P w = .ok s w) (A : Option Addr) (n c k : Nat) (hk : k ≤ n) (hnc : n ≤ c) :
  ∃ A',(∀ K w,(Instr.slice t (.slice A n c) (some (.int K (k : Int))) none none).run P w = .ok (.slice A' (n - k) (c - k)) w) ∧ (∀ w xs,xs.length = n * s → Rv w A xs → Rv w A' (xs.drop (k * s))) ∧ (A = none → A' = none) ∧ (∀ b o,A = some ⟨b,o,none⟩ → ∃ o',A' = some ⟨b,o',none⟩) ∧ (A' = A ∨ A' = A.map (·.add (k * s))) := by
 refine ⟨if c = k then A else A.map (·.add (k * s)),fun K w => ?_,fun w xs hl h => ?_,?_,?_,?_⟩
 ·rw [run_slice_l w t A n c (elem_of ht) K (k : Int) (by omega) (by omega),elem_eq ht,hsz]
  simp [Result.andThen,sliced]
 ·by_cases hc : c = k
  ·have e : xs.drop (k * s) = [] := List.drop_eq_nil_of_le (by rw [hl]; exact Nat.mul_le_mul_right _ (by omega))
   rw [e]
   exact Rv.nil _ _
  ·rw [if_neg hc]
   intro hp
   have hp' : 0 < xs.length := by simp at hp; omega
   obtain ⟨b,o,rfl,hcell⟩ := h hp'
   have hd := Rv.drop (b := b) (o := o) (xs := xs) (w := w) (fun _ => ⟨b,o,rfl,hcell⟩) (k * s)
   have e : Option.map (fun x : Addr => x.add (k * s)) (some ⟨b,o,none⟩) = some ⟨b,o + k * s,none⟩ := by
    rw [Option.map_some]
    congr 1
    unfold Addr.add
    split <;> simp_all
   rw [e]
   exact hd hp
 ·rintro rfl
  split <;> rfl
 ·rintro b o rfl
  split
  ·exact ⟨o,rfl⟩
  ·refine ⟨o + k * s,?_⟩
   rw [Option.map_some]
   congr 1
   unfold Addr.add
   split <;> simp_all
 ·split
  ·exact .inl rfl
  ·exact .inr rfl
theorem add_zero (a : Addr) : a.add 0 = a := by unfold Addr.add; simp
theorem slice_to {P : Program} {t e : TypeId} {s : Nat} (ht : P.underlying t = some (.slice e)) (hsz : ∀ w,(sizeOf e).run P w = .ok s w) (A : Option Addr) (n c k : Nat) (hk : k ≤ c) :
  ∀ K w,(Instr.slice t (.slice A n c) none (some (.int K (k : Int))) none).run P w = .ok (.slice A k c) w := by
 intro K w
 rw [run_slice_h w t A n c (elem_of ht) K (k : Int) (by omega) (by omega),elem_eq ht,hsz]
 have e : A.map (fun x => x.add 0) = A := by cases A <;> simp [add_zero]
 simp [Result.andThen,sliced,e]
end
section
namespace Tk
open Go.RowKit
def pcells (ms : List (List UInt8 × List UInt8)) : List Value := ms.flatMap fun p => [sv p.1,sv p.2]
theorem pcells_len (ms : List (List UInt8 × List UInt8)) : (pcells ms).length = ms.length * 2 := by
 induction ms with
 | nil => rfl
 | cons p ms ih =>
  have : pcells (p :: ms) = sv p.1 :: sv p.2 :: pcells ms := rfl
  rw [this]
  simp [ih]
  omega
theorem pcells_snoc (ms : List (List UInt8 × List UInt8)) (p : List UInt8 × List UInt8) : pcells (ms ++ [p]) = pcells ms ++ [sv p.1,sv p.2] := by simp [pcells]
theorem infoParam : (Tryz.prog.info? 36).map (fun i => (i.zero,i.size,i.bytes)) = some (some (.agg #[.string ⟨#[]⟩,.string ⟨#[]⟩]),2,32) := by kernel_rfl
theorem TParam : ElT Tryz.prog 31 36 2 32 := ElT.mk' (z := .agg #[.string ⟨#[]⟩,.string ⟨#[]⟩]) Tryz.underlying31 (by omega) (by omega) rfl infoParam
theorem semP_len : ∀ (n : Nat) (l : List UInt8) (ps : List (List UInt8)),l.length ≤ n → semP l = some ps → (∀ p ∈ ps,p.length ≤ l.length) ∧ ps.length ≤ l.length + 1
 | _,[],ps,_,h => by
  have : ps = [[]] := by simpa [semP,semN,eq_comm] using h
  simp [this]
 | 0,c :: r,_,hl,_ => by simp at hl
 | n + 1,c :: r,ps,hl,h => by
  simp only [List.length_cons] at hl
  have key : ∀ (a t : List UInt8) (qs : List (List UInt8)),semP t = some qs → t.length ≤ n → (∀ p ∈ pre a qs,p.length ≤ a.length + t.length) ∧ (pre a qs).length ≤ t.length + 1 := by
   intro a t qs hq ht
   obtain ⟨h1,h2⟩ := semP_len n t qs ht hq
   cases qs with
   | nil => exact absurd rfl (semP_ne hq)
   | cons q qs =>
    refine ⟨fun p hp => ?_,by simpa [pre] using h2⟩
    rcases List.mem_cons.1 hp with rfl | hp
    ·have := h1 q (by simp)
     simp
     omega
    ·have := h1 p (by simp [hp])
     omega
  rw [semP_cons] at h
  split at h
  ·cases hg : qGo r with
   | none => rw [hg] at h; cases h
   | some x =>
    obtain ⟨a,t⟩ := x
    rw [hg] at h
    simp only at h
    rw [Option.map_eq_some_iff] at h
    obtain ⟨qs,hq,rfl⟩ := h
    have h1 := congrArg List.length (qGo_len _ _ _ _ (Nat.le_refl _) hg).1
    simp at h1
    obtain ⟨k1,k2⟩ := key (34 :: a) t qs hq (by omega)
    refine ⟨fun p hp => ?_,?_⟩
    ·have := k1 p hp
     simp at this ⊢
     omega
    ·simp only [List.length_cons]
     omega
  ·split at h
   ·rw [Option.map_eq_some_iff] at h
    obtain ⟨qs,hq,rfl⟩ := h
    obtain ⟨h1,h2⟩ := semP_len n r qs (by omega) hq
    refine ⟨fun p hp => ?_,by simp; omega⟩
    rcases List.mem_cons.1 hp with rfl | hp
    ·simp
    ·have := h1 p hp
     simp
     omega
   ·rw [Option.map_eq_some_iff] at h
    obtain ⟨qs,hq,rfl⟩ := h
    obtain ⟨k1,k2⟩ := key [c] r qs hq (by omega)
    refine ⟨fun p hp => ?_,?_⟩
    ·have := k1 p hp
     simp at this ⊢
     omega
    ·simp only [List.length_cons]
     omega
def partR (p : List UInt8) : List UInt8 × List UInt8 × Bool × Bool := match quoP (trimB (cutV 61 p).2.1) with
 | some u => (trimB (cutV 61 p).1,u,(cutV 61 p).2.2,valB u)
 | none => (trimB (cutV 61 p).1,trimB (cutV 61 p).2.1,(cutV 61 p).2.2,onlyB loc' (trimB (cutV 61 p).2.1))
theorem partV_R (p : List UInt8) : partV p = ((partR p).1.map small,(partR p).2.1,(partR p).2.2.1 && (partR p).2.2.2 && atomB (partR p).1) := by
 unfold partV partR cutV
 cases cutAt 61 p with
 | none => rfl
 | some x =>
  obtain ⟨a,b⟩ := x
  simp only
  cases quoP (trimB b) <;> simp
theorem cutV_len (s : UInt8) (l : List UInt8) : (cutV s l).1.length ≤ l.length ∧ (cutV s l).2.1.length ≤ l.length := by
 unfold cutV
 cases h : cutAt s l with
 | none => simp
 | some x =>
  obtain ⟨a,b⟩ := x
  have := cutAt_len h
  simp only
  omega
theorem quoOut_one {r : Option Nat} {e : Ending} (h : QuoOut r e) : ∃ (n : Nat) (wh : Bool),e = .returned (.tuple #[.int .i64 (n : Int),.bool wh]) ∧ r = if wh then some n else none := by
 rcases quoOut_elim h with ⟨n,h1,h2⟩ | ⟨h1,h2⟩
 ·exact ⟨n,true,h2,h1⟩
 ·exact ⟨0,false,h2,h1⟩
theorem quoP_cases (t : List UInt8) : (Lib.hasPrefix t [34] = false ∧ quoP t = none) ∨ (Lib.hasPrefix t [34] = true ∧ quoAt t 1 = none ∧ quoP t = none) ∨
  (Lib.hasPrefix t [34] = true ∧ ∃ n,quoAt t 1 = some n ∧ n ≠ t.length ∧ quoP t = none) ∨
  (Lib.hasPrefix t [34] = true ∧ quoAt t 1 = some t.length ∧ quoP t = some (unq (t.drop 1)) ∧ QAt t 1) := by
 cases t with
 | nil => exact .inl ⟨rfl,rfl⟩
 | cons c r =>
  by_cases hc : c = 34
  ·have hp : Lib.hasPrefix (c :: r) [34] = true := by rw [hc]; simp [Lib.hasPrefix,List.isPrefixOf]
   right
   cases hg : qGo r with
   | none =>
    left
    refine ⟨hp,by unfold quoAt; rw [List.drop_one,List.tail_cons,hg]; rfl,?_⟩
    unfold quoP
    simp only
    rw [if_pos hc,hg]
   | some x =>
    obtain ⟨a,u⟩ := x
    have hu := congrArg List.length (qGo_len _ _ _ _ (Nat.le_refl _) hg).1
    rw [List.length_append] at hu
    have hn : quoAt (c :: r) 1 = some (1 + a.length) := by unfold quoAt; rw [List.drop_one,List.tail_cons,hg]; rfl
    right
    cases u with
    | nil =>
     right
     have ha : r = a := by simpa using (qGo_len _ _ _ _ (Nat.le_refl _) hg).1
     refine ⟨hp,?_,?_,?_⟩
     ·rw [hn,List.length_cons,hu,List.length_nil]
      congr 1
      omega
     ·unfold quoP
      simp only
      rw [if_pos hc,hg]
      simp only
      rw [List.drop_one,List.tail_cons,← ha]
     ·unfold QAt
      rw [List.drop_one,List.tail_cons,hg,← ha]
    | cons y u =>
     left
     refine ⟨hp,_,hn,?_,?_⟩
     ·rw [List.length_cons,hu,List.length_cons]
      omega
     ·unfold quoP
      simp only
      rw [if_pos hc,hg]
  ·left
   refine ⟨?_,?_⟩
   ·have : ((34 : UInt8) == c) = false := by rw [beq_eq_false_iff_ne]; exact Ne.symm hc
    simp [Lib.hasPrefix,List.isPrefixOf,this]
   ·unfold quoP
    simp only
    rw [if_neg hc]
theorem hpre_any (l : List UInt8) (s : UInt8) (w : World) :
  Calls Tryz.prog 65 #[.string (bs l),.string ⟨#[s]⟩] w fun e w' => e = .returned (.bool (Lib.hasPrefix l [s])) ∧ w' = w := by
 have h := Tryz.strings_HasPrefix (bs l) ⟨#[s]⟩ w
 rw [bs_toList] at h
 exact h
def PrmOut (l : List UInt8) (w : World) (e : Ending) (w' : World) : Prop := match parmP l with
 | .ok (k,ms) => ∃ v,e = .returned (.tuple #[.string (bs k),v,.int .i64 0]) ∧ w'.ownsRow w.heap.size 36 2 v ms.length (pcells ms)
 | .error x => e = .returned (.tuple #[.string (bs []),.slice none 0 0,.int .i64 (x : Int)])
theorem prmOut_err {l : List UInt8} {w w' : World} {x : Nat} {e : Ending} (h : parmP l = .error x) (he : e = .returned (.tuple #[.string (bs []),.slice none 0 0,.int .i64 (x : Int)])) : PrmOut l w e w' := by
 unfold PrmOut
 rw [h]
 exact he
theorem prmOut_ok {l k : List UInt8} {ms : List (List UInt8 × List UInt8)} {w w' : World} {e : Ending} {v : Value} (h : parmP l = .ok (k,ms)) (he : e = .returned (.tuple #[.string (bs k),v,.int .i64 0])) (ho : w'.ownsRow w.heap.size 36 2 v ms.length (pcells ms)) : PrmOut l w e w' := by
 unfold PrmOut
 rw [h]
 exact ⟨v,he,ho⟩
def nv (p : List UInt8) : List UInt8 × List UInt8 := ((partV p).1,(partV p).2.1)
def third (p : List UInt8) : Bool := (partV p).2.2
theorem params_any (l : List UInt8) (w : World) (hw : Mx w) (hl : l.length ≤ 1000000) :
  Calls Tryz.prog 68 #[.string (bs l)] w fun e w' => PrmOut l w e w' ∧ Below w.heap.size w w' := by
 have hb := bare_any l w (by omega)
 cases hbp : bareP l with
 | error k =>
  have hk : ((k : Int) != 0) = true := by have := bareP_err _ _ _ (Nat.le_refl _) hbp; rw [bne_iff_ne]; omega
  have hr : parmP l = .error k := by unfold parmP; rw [hbp]
  have HR := Lib.hid hr
  rw [hbp] at hb
  have hb' : Calls Tryz.prog 130 #[.string (bs l)] w fun e w' => e = .returned (.tuple #[.string (bs []),.int .i64 (k : Int)]) ∧ Below w.heap.size w w' := hb
  clear hb hbp hr
  go_enter Tryz.func68,Tryz.ntmps68
  go_wp2_with fail
  refine hb'.mono ?_
  rintro e w1 ⟨rfl,hb1⟩
  go_wp2_with fail
  go_ret3
  exact ⟨prmOut_err HR.out rfl,hb1⟩
 | ok b =>
  have hbl := bareP_len _ _ _ (Nat.le_refl _) hbp
  obtain ⟨ps,hps⟩ := bare_sem _ _ _ (Nat.le_refl _) hbp
  obtain ⟨hpl,hpn⟩ := semP_len _ _ _ (Nat.le_refl _) hps
  obtain ⟨p0,pr,rfl⟩ : ∃ p0 pr,ps = p0 :: pr := by
   cases ps with
   | nil => exact absurd rfl (semP_ne hps)
   | cons p0 pr => exact ⟨p0,pr,rfl⟩
  have hr : parmP l = if kindB (trimB p0) && pr.all third then .ok ((trimB p0).map small,pr.map nv) else .error 3 := by
   unfold parmP
   rw [hbp]
   simp only
   rw [hps]
   rfl
  have HR := Lib.hid hr
  rw [hbp] at hb
  have hb' : Calls Tryz.prog 130 #[.string (bs l)] w fun e w' => e = .returned (.tuple #[.string (bs b),.int .i64 0]) ∧ Below w.heap.size w w' := hb
  have hsplit := fun W => tksplit_any b (p0 :: pr) W hps (by omega)
  have hp0 : p0.length ≤ 1000000 := by have := hpl p0 (by simp); omega
  have hpr : ∀ p ∈ pr,p.length ≤ 1000000 := fun p hp => by have := hpl p (by simp [hp]); omega
  have htl := trimB_len p0
  have htrim := fun W => tktrim_any p0 W (by omega)
  have hkind := fun W hW => kindly_any (trimB p0) W hW (by omega)
  obtain ⟨g,hg⟩ : ∃ g,kindB (trimB p0) = g := ⟨_,rfl⟩
  obtain ⟨m,hm⟩ : ∃ m,pr.length = m := ⟨_,rfl⟩
  have hm2 : m ≤ 1000000 := by simp at hpn; omega
  rw [hg] at hkind HR
  have HM := Lib.hid hm
  have HPR := Lib.hid hpr
  rw [show (p0 :: pr).length = m + 1 by simp [hm]] at hsplit
  clear hb hbp hps hpl hpn hr hg hm hpr
  generalize trimB p0 = t0 at *
  go_enter Tryz.func68,Tryz.ntmps68
  go_wp2_with fail
  refine hb'.mono ?_
  rintro e w1 ⟨rfl,hb1⟩
  go_wp2_with fail
  refine (hsplit _).mono ?_
  rintro e w2 ⟨⟨v,rfl,hown⟩,hb2⟩
  obtain ⟨A,c,rfl,hnc,hcm,hRv,_⟩ := own_form hown
  have hB2 := hb1.trans (hb2.mono hb1.size)
  obtain ⟨b0,o0,vp,hA0,hvp,hcell0⟩ := hRv.one (k := 0) (by simp)
  have hvp2 : vp = .string (bs p0) := by
   have := hvp.out
   simp at this
   exact this.symm
  subst hvp2
  subst hA0
  obtain ⟨A',hfrom,hA',_,_⟩ := slice_from (P := Tryz.prog) (t := 65) Tryz.underlying65 Tryz.sizeOf9 (some ⟨b0,o0,none⟩) (m + 1) c 1 (by omega) hnc
  have hfrom2 : ∀ K w,(Instr.slice 65 (.slice (some ⟨b0,o0,none⟩) (m + 1) c) (some (.int K 1)) none none).run Tryz.prog w = .ok (.slice A' m (c - 1)) w := fun K w => by
   have := hfrom K w
   simpa using this
  have hR2 : Rv w2 A' (pr.map sv) := by
   have := hA' w2 _ (by simp [HM.out]) hRv
   simpa using this
  clear hb1 hb2 hsplit hown hRv hA' hfrom hvp hb'
  rw [Nat.add_zero] at hcell0
  go_wp2_with fail
  refine (htrim _).mono ?_
  rintro e w3 ⟨rfl,hb3⟩
  have hB3 := hB2.trans (hb3.mono hB2.size)
  go_wp2_with fail
  refine (hkind _ (hw.below hB3)).mono ?_
  rintro e w4 ⟨rfl,hb4⟩
  have hC4 := hb3.trans (hb4.mono hb3.size)
  have hw2 := hw.below hB2
  clear hb3 hb4 htrim hkind hcell0 hB3
  go_wp2_with fail
  go_loopw [3,6,36] (fun v s6 i wr => ∃ (q : Nat) (ok : Bool),i = .int .i64 q ∧ q ≤ m ∧ s6 = .bool ok ∧ Hid (ok = (g && (pr.take q).all third)) ∧ wr.ownsRow w2.heap.size 36 2 v q (pcells ((pr.take q).map nv)) ∧ Below w2.heap.size w2 wr) (fun _ _ i _ => m - (intOf i).toNat)
  case atStart => exact ⟨0,g,rfl,by omega,rfl,Lib.hid (by simp),World.ownsRow_nil _ _ _ _,hC4⟩
  case round =>
   clear hC4
   obtain ⟨q,ok,rfl,hq,rfl,hok,hown,hC⟩ := hrel
   have hsC := hC.size
   by_cases hlt : q < m
   ·obtain ⟨b,o,vx,rfl,hvx,hcell⟩ := (hR2.below hC).one (k := q) (by rw [List.length_map,HM.out]; exact hlt)
    obtain ⟨p,hp⟩ : ∃ p,pr[q]? = some p := ⟨_,List.getElem?_eq_getElem (by rw [HM.out]; exact hlt)⟩
    have hvp : vx = .string (bs p) := by
     have := hvx.out
     rw [List.getElem?_map,hp] at this
     exact (Option.some.inj this).symm
    subst hvp
    have hpl := HPR.out p (List.mem_of_getElem? hp)
    have hnv : nv p = ((partR p).1.map small,(partR p).2.1) := by unfold nv; rw [partV_R]
    have hth : third p = ((partR p).2.2.1 && (partR p).2.2.2 && atomB (partR p).1) := by unfold third; rw [partV_R]
    have hst : pcells ((pr.take (q + 1)).map nv) = pcells ((pr.take q).map nv) ++ [sv ((partR p).1.map small),sv (partR p).2.1] := by
     rw [take_succ_of hp,List.map_append,List.map_singleton,pcells_snoc,hnv]
    have hok2 : (ok && (partR p).2.2.1 && (partR p).2.2.2 && atomB (partR p).1) = (g && (pr.take (q + 1)).all third) := by
     rw [take_succ_of hp,List.all_append,hok.out]
     simp [hth,Bool.and_assoc]
    have HST := Lib.hid hst
    have HOK := Lib.hid hok2
    have HV := Lib.hid hvx
    clear hvx hp hnv hth hst hok2 hok
    have hww := hw2.below hC
    have hcv := cutV_len 61 p
    have hcut := cut_any p 61 wr hww (by omega)
    have hprR : partR p = match quoP (trimB (cutV 61 p).2.1) with
     | some u => (trimB (cutV 61 p).1,u,(cutV 61 p).2.2,valB u)
     | none => (trimB (cutV 61 p).1,trimB (cutV 61 p).2.1,(cutV 61 p).2.2,onlyB loc' (trimB (cutV 61 p).2.1)) := rfl
    generalize partR p = R at *
    generalize cutV 61 p = C at *
    obtain ⟨a,bb,f⟩ := C
    simp only at hcv hcut hprR
    have hta := fun W => tktrim_any a W (by omega)
    have htb := fun W => tktrim_any bb W (by omega)
    have htal := trimB_len a
    have htbl := trimB_len bb
    generalize trimB a = ta at *
    generalize trimB bb = tb at *
    have hon := fun W => only_loose tb W (by omega)
    have HPC := Lib.hid hprR
    clear hprR hww
    generalize onlyB loc' tb = ol at *
    go_wp2_with fail
    refine hcut.mono ?_
    rintro e w5 ⟨rfl,hb5⟩
    go_wp2_with fail
    refine (hta _).mono ?_
    rintro e w6 ⟨rfl,hb6⟩
    have hb6 := hb5.trans (hb6.mono hb5.size)
    go_wp2_with fail
    refine (htb _).mono ?_
    rintro e w7 ⟨rfl,hb7⟩
    have hb7 := hb6.trans (hb7.mono hb6.size)
    go_wp2_with fail
    refine (hon _).mono ?_
    rintro e w8 ⟨rfl,hb8⟩
    have hb8 := hb7.trans (hb8.mono hb7.size)
    clear hcut hta htb hon hb5 hb6 hb7
    have hquo := fun W => quoted_any tb W (by omega)
    go_wp2_with fail
    refine (hquo _).mono ?_
    rintro e w9 ⟨hqo,rfl⟩
    obtain ⟨n,wh,rfl,hqn⟩ := quoOut_one hqo
    clear hquo hqo
    go_upto_region 13 with fail
    go_cut [67] (fun s67 wx => ∃ cnd : Bool,s67 = .bool cnd ∧ Hid ((cnd = true ∧ quoP tb = some (unq (tb.drop 1)) ∧ QAt tb 1) ∨ (cnd = false ∧ quoP tb = none)) ∧ w9 = wx)
    case first => as_aux_lemma =>
     have hhp := fun W => hpre_any tb 34 W
     have hqc := quoP_cases tb
     clear HST HOK HV hR2 hw2 hown hC hw HR HM HPR hB2 HPC
     rcases hqc with ⟨h1,h2⟩ | ⟨h1,h3,h2⟩ | ⟨h1,n',h3,h4,h2⟩ | ⟨h1,h3,h2,h4⟩
     ·rw [h1] at hhp
      clear hqn
      go_wp2_with fail
      refine (hhp _).mono ?_
      rintro e w10 ⟨rfl,rfl⟩
      go_wp2_with fail
      go_meet
      exact ⟨_,rfl,Lib.hid (.inr ⟨rfl,h2⟩),rfl⟩
     ·rw [h1] at hhp
      have hwh : wh = false := by
       rw [h3] at hqn
       cases wh with
       | false => rfl
       | true => cases hqn
      subst hwh
      go_wp2_with fail
      refine (hhp _).mono ?_
      rintro e w10 ⟨rfl,rfl⟩
      go_wp2_with fail
      go_meet
      exact ⟨_,rfl,Lib.hid (.inr ⟨rfl,h2⟩),rfl⟩
     ·rw [h1] at hhp
      have hwh : wh = true ∧ n = n' := by
       rw [h3] at hqn
       cases wh with
       | false => cases hqn
       | true => exact ⟨rfl,(Option.some.inj hqn).symm⟩
      obtain ⟨rfl,rfl⟩ := hwh
      have hne : ((n : Int) == (tb.length : Int)) = false := by rw [beq_eq_false_iff_ne]; omega
      clear hqn h3
      go_wp2_with fail
      refine (hhp _).mono ?_
      rintro e w10 ⟨rfl,rfl⟩
      go_wp2_with fail
      go_meet
      exact ⟨_,rfl,Lib.hid (.inr ⟨rfl,h2⟩),rfl⟩
     ·rw [h1] at hhp
      have hwh : wh = true ∧ n = tb.length := by
       rw [h3] at hqn
       cases wh with
       | false => cases hqn
       | true => exact ⟨rfl,(Option.some.inj hqn).symm⟩
      obtain ⟨rfl,rfl⟩ := hwh
      clear hqn h3
      go_wp2_with fail
      refine (hhp _).mono ?_
      rintro e w10 ⟨rfl,rfl⟩
      go_wp2_with fail
      go_meet
      exact ⟨_,rfl,Lib.hid (.inl ⟨by simp,h2,h4⟩),rfl⟩
    case rest =>
     obtain ⟨cnd,rfl,hcnd,rfl⟩ := hcut
     clear hqn
     go_upto_if 67 with fail
     go_cut [10,12] (fun s10 s12 wx => ∃ (vv : List UInt8) (r : Bool),s10 = .string (bs vv) ∧ s12 = .bool r ∧ Hid (R = (ta,vv,f,r)) ∧ Below wr.heap.size wr wx)
     case first => as_aux_lemma =>
      clear HST HOK HV hR2 hw2 hown hC hw HR HM HPR hB2
      rcases hcnd.out with ⟨rfl,h2,h4⟩ | ⟨rfl,h2⟩
      ·rw [h2] at HPC
       have htext := fun W => text_any tb W h4 (by omega)
       generalize unq (tb.drop 1) = u at *
       clear h4 hcnd
       go_wp2_with fail
       refine (htext _).mono ?_
       rintro e w11 ⟨rfl,hb11⟩
       go_wp2_with fail
       go_meet
       exact ⟨_,_,rfl,rfl,HPC,hb8.trans (hb11.mono hb8.size)⟩
      ·rw [h2] at HPC
       clear hcnd
       go_wp2_with fail
       go_meet
       exact ⟨_,_,rfl,rfl,HPC,hb8⟩
     case rest =>
      obtain ⟨vv,r,rfl,rfl,HRR,hb9⟩ := hcut
      obtain ⟨wd,hwd⟩ : ∃ wd,wd = wc := ⟨_,rfl⟩
      rw [← hwd] at hb9 ⊢
      rw [HRR.out] at HST HOK
      have HST2 := Lib.hid (show pcells ((pr.take (q + 1)).map nv) = pcells ((pr.take q).map nv) ++ [sv (ta.map small),sv vv] from HST.out)
      have HOK2 := Lib.hid (show (ok && f && r && atomB ta) = (g && (pr.take (q + 1)).all third) from HOK.out)
      have hownd := own_below hown (hb9.mono (Nat.le_refl _))
      have hCd := hC.trans (hb9.mono hsC)
      have hsd := hCd.size
      clear hwd HST HOK HRR HPC hb9 hb8 hown hC hcnd hw
      have hta := fun W => atom_any ta W (by omega)
      have hlow := fun W => lower_any ta W (by omega)
      obtain ⟨at',hat'⟩ : ∃ z,atomB ta = z := ⟨_,rfl⟩
      rw [hat'] at hta HOK2
      clear hat'
      go_upto_region 15 with fail
      go_cut [6] (fun s6 wx => s6 = .bool (ok && f && r && at') ∧ Below wd.heap.size wd wx)
      case first => as_aux_lemma =>
       clear HST2 HOK2 HV hR2 hw2 hownd hCd HR HM HPR hB2 hlow hcell
       cases ok with
       | false =>
        go_wp2_with fail
        go_meet
        exact ⟨rfl,Below.refl _ _⟩
       | true =>
        cases f with
        | false =>
         go_wp2_with fail
         go_meet
         exact ⟨rfl,Below.refl _ _⟩
        | true =>
         cases r with
         | false =>
          go_wp2_with fail
          go_meet
          exact ⟨rfl,Below.refl _ _⟩
         | true =>
          go_wp2_with fail
          refine (hta _).mono ?_
          rintro e w12 ⟨rfl,hb12⟩
          go_wp2_with fail
          go_meet
          exact ⟨rfl,hb12⟩
      case rest =>
       obtain ⟨rfl,hb12⟩ := hcut
       obtain ⟨we,hwe⟩ : ∃ we,we = wc := ⟨_,rfl⟩
       rw [← hwe] at hb12 ⊢
       have howne := own_below hownd hb12
       have hCe := hCd.trans (hb12.mono hsd)
       clear hwe hb12 hownd hCd hta
       obtain ⟨z,hz⟩ : ∃ z,(ok && f && r && at') = z := ⟨_,rfl⟩
       rw [hz] at HOK2
       generalize ta.map small = tm at *
       go_wp2_with fail
       refine (hlow _).mono ?_
       rintro e w13 ⟨rfl,hb13⟩
       have hown13 := own_below howne hb13
       have hC13 := hCe.trans (hb13.mono hCe.size)
       have hs13 := hC13.size
       clear hlow hb13 howne hCe
       go_wp2_with (at_builtin; refine wpList_app rfl (.tmp 84) (.tmp 89) _ _ rfl TParam (hown13.alloc (.cells #[sv tm,sv vv] 36)) rfl (Src_rv (news := [sv tm,sv vv]) Tryz.underlying31 rfl (Rv_new w13 _ _ _ rfl) (by simp [Value.oneCell',sv]) (by omega)) rfl (by omega) (by simp; omega) ?_; intro v2 w14 hown14 hgr14 hat14; have hB14 := below_app (hC13.alloc hs13 (.cells #[sv tm,sv vv] 36)) (hown13.alloc _) hgr14 (by simp; omega) (Nat.le_refl _))
       go_roundw
       case rel => exact ⟨q + 1,z,by go_num,by omega,by first | rfl | rw [hz] | rw [← hz],HOK2,by rw [HST2.out]; exact hown14,hB14⟩
       case measure => simp [intOf]; omega
   ·obtain rfl : q = m := by omega
    have hta : pr.take q = pr := take_all pr (by rw [HM.out]; exact Nat.le_refl _)
    rw [hta] at hok hown
    have hlm : (pr.map nv).length = q := by rw [List.length_map]; exact HM.out
    have hrr := HR.out
    rw [← hok.out] at hrr
    have HLM := Lib.hid hlm
    have HRR := Lib.hid hrr
    clear hta hlm hrr hok hw hw2 hR2 HR
    cases ok with
    | false =>
     go_wp2_with fail
     go_ret3
     exact ⟨prmOut_err HRR.out rfl,hB2.trans (hC.mono hB2.size)⟩
    | true =>
     go_wp2_with fail
     go_ret3
     exact ⟨prmOut_ok HRR.out rfl (by rw [HLM.out]; exact own_base hown hB2.size),hB2.trans (hC.mono hB2.size)⟩
end Tk
end
section
namespace Tk
open Go.RowKit Go.ChangeShapes Go.WideShapes Go.Deep
theorem pcells_get {fs : List (List UInt8 × List UInt8)} {k : Nat} {p : List UInt8 × List UInt8} (h : fs[k]? = some p) : (pcells fs)[2 * k]? = some (sv p.1) ∧ (pcells fs)[2 * k + 1]? = some (sv p.2) := by
 induction fs generalizing k with
 | nil => simp at h
 | cons f fs ih =>
  have e : pcells (f :: fs) = sv f.1 :: sv f.2 :: pcells fs := rfl
  rw [e]
  cases k with
  | zero =>
   simp at h
   subst h
   exact ⟨rfl,rfl⟩
  | succ k =>
   simp at h
   obtain ⟨h1,h2⟩ := ih h
   rw [show 2 * (k + 1) = 2 * k + 1 + 1 by omega,show 2 * k + 1 + 1 + 1 = (2 * k + 1) + 1 + 1 by omega]
   simp only [List.getElem?_cons_succ]
   exact ⟨h1,h2⟩
end Tk
end
end Go.Proofs.YtkllecicddfjpaaGreatDoor
