/- The walk of the law, part 5. -/
import Derived.Test.YtkllecicddfjpaaGreatDoorJ04
import Derived.Test.YtkllecicddfjpaaGreatDoorJ03
import Derived.Test.YtkllecicddfjpaaGreatDoorChecked
set_option maxRecDepth 100000
set_option maxHeartbeats 16000000
set_option linter.unusedVariables false
set_option linter.unusedSimpArgs false
namespace Go.Proofs.YtkllecicddfjpaaGreatDoor
section
namespace Tk
def esc (v : List UInt8) : List UInt8 := v.flatMap fun c => if c = 34 ∨ c = 92 then [92,c] else [c]
def valW (v : List UInt8) : List UInt8 := if onlyB loc' v then v else 34 :: (esc v ++ [34])
def parW (p : List UInt8 × List UInt8) : List UInt8 := [59,32] ++ p.1 ++ [61] ++ valW p.2
def writeB (kind : List UInt8) (ms : List (List UInt8 × List UInt8)) : List UInt8 := kind ++ ms.flatMap parW
def parOk (p : List UInt8 × List UInt8) : Bool := atomB p.1 && decide (p.1.map small = p.1) && valB p.2
def rightB (kind : List UInt8) (ms : List (List UInt8 × List UInt8)) : Bool := kindB kind && decide (kind.map small = kind) && ms.all parOk
theorem qGo_esc (r : List UInt8) : ∀ v : List UInt8,qGo (esc v ++ 34 :: r) = some (esc v ++ [34],r)
 | [] => by
  show qGo (34 :: r) = some ([34],r)
  rw [qGo.eq_def]
  simp
 | c :: v => by
  have ih := qGo_esc r v
  by_cases h : c = 34 ∨ c = 92
  ·have e : esc (c :: v) = 92 :: c :: esc v := by simp [esc,h]
   rw [e]
   show qGo (92 :: c :: (esc v ++ 34 :: r)) = _
   rw [qGo.eq_def]
   simp only
   rw [if_pos trivial,ih]
   rfl
  ·have e : esc (c :: v) = c :: esc v := by simp [esc,h]
   rw [e]
   show qGo (c :: (esc v ++ 34 :: r)) = _
   rw [not_or] at h
   rw [qGo.eq_def]
   simp only
   rw [if_neg h.2,if_neg h.1,ih]
   rfl
theorem unq_esc : ∀ v : List UInt8,unq (esc v ++ [34]) = v
 | [] => by simp [esc,unq]
 | c :: v => by
  have ih := unq_esc v
  by_cases h : c = 34 ∨ c = 92
  ·have e : esc (c :: v) = 92 :: c :: esc v := by simp [esc,h]
   rw [e]
   show unq (92 :: c :: (esc v ++ [34])) = _
   rw [unq.eq_def]
   simp only
   rw [if_neg (by decide),if_pos trivial,ih]
  ·have e : esc (c :: v) = c :: esc v := by simp [esc,h]
   rw [e]
   show unq (c :: (esc v ++ [34])) = _
   rw [not_or] at h
   rw [unq.eq_def]
   simp only
   rw [if_neg h.1,if_neg h.2,ih]
theorem quoP_valW (v : List UInt8) : quoP (34 :: (esc v ++ [34])) = some v := by
 unfold quoP
 simp only
 rw [if_pos trivial,qGo_esc [] v]
 simp only
 rw [unq_esc]
theorem loc_not {c : UInt8} (h : loc' c = true) : c ≠ 40 ∧ c ≠ 34 ∧ c ≠ 41 ∧ c ≠ 59 ∧ blk c = false ∧ sgc c = true := by
 have key : ∀ n : Fin 256,loc' (UInt8.ofNat n.1) = true → UInt8.ofNat n.1 ≠ 40 ∧ UInt8.ofNat n.1 ≠ 34 ∧ UInt8.ofNat n.1 ≠ 41 ∧ UInt8.ofNat n.1 ≠ 59 ∧ blk (UInt8.ofNat n.1) = false ∧ sgc (UInt8.ofNat n.1) = true := by decide +kernel
 have := key ⟨c.toNat,c.toNat_lt⟩
 simp only [UInt8.ofNat_toNat] at this
 exact this h
theorem atc_not2 {c : UInt8} (h : atc c = true) : c ≠ 40 ∧ c ≠ 34 ∧ c ≠ 41 ∧ c ≠ 59 ∧ c ≠ 61 ∧ blk c = false ∧ sgc c = true := by
 have key : ∀ n : Fin 256,atc (UInt8.ofNat n.1) = true → UInt8.ofNat n.1 ≠ 40 ∧ UInt8.ofNat n.1 ≠ 34 ∧ UInt8.ofNat n.1 ≠ 41 ∧ UInt8.ofNat n.1 ≠ 59 ∧ UInt8.ofNat n.1 ≠ 61 ∧ blk (UInt8.ofNat n.1) = false ∧ sgc (UInt8.ofNat n.1) = true := by decide +kernel
 have := key ⟨c.toNat,c.toNat_lt⟩
 simp only [UInt8.ofNat_toNat] at this
 exact this h
theorem emap_id {α : Type} (r : Except Nat α) (f : α → α) (h : ∀ x,f x = x) : r.map f = r := by cases r <;> simp [Except.map,h]
def Thru (a : List UInt8) : Prop := ∀ r,(bareP (a ++ r) = (bareP r).map fun o => a ++ o) ∧ semP (a ++ r) = (semP r).map (pre a)
theorem Thru.nil : Thru [] := fun r => ⟨by rw [List.nil_append]; exact (emap_id _ _ fun x => rfl).symm,by
 rw [List.nil_append]
 cases h : semP r with
 | none => rfl
 | some ps =>
  rw [Option.map_some,pre_nil (semP_ne h)]⟩
theorem Thru.app {a b : List UInt8} (ha : Thru a) (hb : Thru b) : Thru (a ++ b) := fun r => by
 refine ⟨?_,?_⟩
 ·rw [List.append_assoc,(ha _).1,(hb _).1,emap_map]
  simp
 ·rw [List.append_assoc,(ha _).2,(hb _).2,Option.map_map]
  congr 1
  funext ps
  exact pre_pre a b ps
theorem Thru.one {c : UInt8} (h1 : c ≠ 40) (h2 : c ≠ 34) (h3 : c ≠ 41) (h4 : c ≠ 59) : Thru [c] := fun r => by
 refine ⟨bareP_plain h1 h2 h3,?_⟩
 show semP (c :: r) = _
 rw [semP_cons,if_neg h2,if_neg h4]
theorem Thru.all : ∀ (a : List UInt8),(∀ c ∈ a,c ≠ 40 ∧ c ≠ 34 ∧ c ≠ 41 ∧ c ≠ 59) → Thru a
 | [],_ => Thru.nil
 | c :: a,h => by
  have hc := h c (by simp)
  exact (Thru.one hc.1 hc.2.1 hc.2.2.1 hc.2.2.2).app (Thru.all a fun x hx => h x (by simp [hx]))
theorem Thru.quo (v : List UInt8) : Thru (34 :: (esc v ++ [34])) := fun r => by
 have e : 34 :: (esc v ++ [34]) ++ r = 34 :: (esc v ++ 34 :: r) := by simp
 refine ⟨?_,?_⟩
 ·rw [e,bareP_cons,if_neg (by decide),if_pos rfl,qGo_esc]
  rfl
 ·rw [e,semP_cons,if_pos rfl,qGo_esc]
theorem Thru.val (v : List UInt8) : Thru (valW v) := by
 unfold valW
 by_cases h : onlyB loc' v = true
 ·rw [if_pos h]
  refine Thru.all v fun c hc => ?_
  unfold onlyB at h
  rw [Bool.and_eq_true,List.all_eq_true] at h
  have := loc_not (h.1 c hc)
  exact ⟨this.1,this.2.1,this.2.2.1,this.2.2.2.1⟩
 ·rw [if_neg h]
  exact Thru.quo v
theorem Thru.atom {a : List UInt8} (h : ∀ c ∈ a,atc c = true) : Thru a := Thru.all a fun c hc => by
 have := atc_not2 (h c hc)
 exact ⟨this.1,this.2.1,this.2.2.1,this.2.2.2.1⟩
theorem atomB_mem {a : List UInt8} (h : atomB a = true) : a ≠ [] ∧ ∀ c ∈ a,atc c = true := by
 unfold atomB at h
 rw [Bool.and_eq_true,List.all_eq_true] at h
 exact ⟨by have := h.2; simpa using this,h.1⟩
theorem kindB_parts {l : List UInt8} (h : kindB l = true) : ∃ a b,l = a ++ 47 :: b ∧ atomB a = true ∧ atomB b = true := by
 unfold kindB at h
 cases hc : cutAt 47 l with
 | none => rw [hc] at h; cases h
 | some p =>
  obtain ⟨a,b⟩ := p
  rw [hc] at h
  simp only [Bool.and_eq_true] at h
  exact ⟨a,b,(cutAt_some hc).1,h.1,h.2⟩
theorem Thru.kind {k : List UInt8} (h : kindB k = true) : Thru k := by
 obtain ⟨a,b,rfl,ha,hb⟩ := kindB_parts h
 rw [show a ++ 47 :: b = a ++ ([47] ++ b) by simp]
 exact (Thru.atom (atomB_mem ha).2).app ((Thru.one (by decide) (by decide) (by decide) (by decide)).app (Thru.atom (atomB_mem hb).2))
def parT (p : List UInt8 × List UInt8) : List UInt8 := [32] ++ p.1 ++ [61] ++ valW p.2
theorem Thru.par {p : List UInt8 × List UInt8} (h : atomB p.1 = true) : Thru (parT p) := by
 unfold parT
 exact (((Thru.one (by decide) (by decide) (by decide) (by decide)).app (Thru.atom (atomB_mem h).2)).app (Thru.one (by decide) (by decide) (by decide) (by decide))).app (Thru.val p.2)
theorem parW_T (p : List UInt8 × List UInt8) : parW p = 59 :: parT p := rfl
def post (t : List UInt8) : List (List UInt8) → List (List UInt8)
 | [] => []
 | [p] => [p ++ t]
 | p :: q :: ps => p :: post t (q :: ps)
theorem sem_end {t : List UInt8} (ht : Thru t) : semP t = some [t] := by
 have := (ht []).2
 rw [List.append_nil] at this
 rw [this]
 simp [semP,semN,pre]
theorem bare_end {t : List UInt8} (ht : Thru t) : bareP t = .ok t := by
 have := (ht []).1
 rw [List.append_nil] at this
 rw [this]
 simp [bareP,bareN,Except.map]
theorem pars_thru (t : List UInt8) (ht : Thru t) : ∀ (ms : List (List UInt8 × List UInt8)) (a : List UInt8),Thru a → (∀ p ∈ ms,atomB p.1 = true) →
  bareP (a ++ (ms.flatMap parW ++ t)) = .ok (a ++ (ms.flatMap parW ++ t)) ∧ semP (a ++ (ms.flatMap parW ++ t)) = some (post t (a :: ms.map parT))
 | [],a,ha,_ => by
  rw [List.flatMap_nil,List.nil_append]
  have := ha.app ht
  exact ⟨bare_end this,by rw [sem_end this]; rfl⟩
 | p :: ms,a,ha,h => by
  have hp := h p (by simp)
  obtain ⟨i1,i2⟩ := pars_thru t ht ms (parT p) (Thru.par hp) (fun x hx => h x (by simp [hx]))
  have e : (p :: ms).flatMap parW ++ t = 59 :: (parT p ++ (ms.flatMap parW ++ t)) := by
   rw [List.flatMap_cons,parW_T]
   simp
  rw [e]
  refine ⟨?_,?_⟩
  ·rw [(ha _).1,bareP_plain (by decide) (by decide) (by decide),i1]
   rfl
  ·rw [(ha _).2,semP_cons,if_neg (by decide),if_pos rfl,i2]
   simp [pre,post]
theorem trim_thru {a x b : List UInt8} (ha : ∀ c ∈ a,blk c = true) (hb : ∀ c ∈ b,blk c = true) (h1 : ∀ c,x.head? = some c → blk c = false) (h2 : ∀ c,x.getLast? = some c → blk c = false) : trimB (a ++ x ++ b) = x := by
 have left : ∀ (a r : List UInt8),(∀ c ∈ a,blk c = true) → trimB (a ++ r) = trimB r := by
  intro a
  induction a with
  | nil => exact fun _ _ => rfl
  | cons c a ih =>
   intro r h
   have hc := h c (by simp)
   rw [List.cons_append,← ih r (fun x hx => h x (by simp [hx]))]
   rw [trimB_def,trimB_def,List.reverse_cons,List.dropWhile_append]
   by_cases he : (((a ++ r).reverse).dropWhile blk).isEmpty = true
   ·rw [if_pos he]
    have : ((a ++ r).reverse).dropWhile blk = [] := by simpa using he
    rw [this]
    simp [hc]
   ·rw [if_neg he,List.reverse_append]
    simp [hc]
 have right : ∀ (b r : List UInt8),(∀ c ∈ b,blk c = true) → trimB (r ++ b) = trimB r := by
  intro b r h
  rw [trimB_def,trimB_def,List.reverse_append]
  congr 2
  have : ∀ (l s : List UInt8),(∀ c ∈ l,blk c = true) → (l ++ s).dropWhile blk = s.dropWhile blk := by
   intro l
   induction l with
   | nil => exact fun _ _ => rfl
   | cons c l ih =>
    intro s hl
    rw [List.cons_append,List.dropWhile_cons_of_pos (hl c (by simp))]
    exact ih s fun x hx => hl x (by simp [hx])
  rw [this b.reverse r.reverse (fun c hc => h c (by simpa using hc))]
 rw [List.append_assoc,left a _ ha,right b _ hb,trimB_self' h1 h2]
theorem ends_all {x : List UInt8} (h : ∀ c ∈ x,blk c = false) : (∀ c,x.head? = some c → blk c = false) ∧ ∀ c,x.getLast? = some c → blk c = false :=
 ⟨fun c hc => h c (List.mem_of_head? hc),fun c hc => h c (List.mem_of_getLast? hc)⟩
theorem valW_ends (v : List UInt8) : (∀ c,(valW v).head? = some c → blk c = false) ∧ ∀ c,(valW v).getLast? = some c → blk c = false := by
 unfold valW
 by_cases h : onlyB loc' v = true
 ·rw [if_pos h]
  unfold onlyB at h
  rw [Bool.and_eq_true,List.all_eq_true] at h
  exact ends_all fun c hc => (loc_not (h.1 c hc)).2.2.2.2.1
 ·rw [if_neg h]
  refine ⟨fun c hc => ?_,fun c hc => ?_⟩
  ·simp at hc
   rw [← hc]
   decide
  ·rw [show 34 :: (esc v ++ [34]) = (34 :: esc v) ++ [34] by simp,List.getLast?_concat] at hc
   rw [← Option.some.inj hc]
   decide
theorem partV_T {p : List UInt8 × List UInt8} {t : List UInt8} (h : parOk p = true) (ht : ∀ c ∈ t,blk c = true) : partV (parT p ++ t) = (p.1,p.2,true) := by
 unfold parOk at h
 rw [Bool.and_eq_true,Bool.and_eq_true,decide_eq_true_iff] at h
 obtain ⟨⟨h1,h2⟩,h3⟩ := h
 obtain ⟨n,v⟩ := p
 simp only at h1 h2 h3
 obtain ⟨hne,hat⟩ := atomB_mem h1
 have hcut : cutAt 61 (parT (n,v) ++ t) = some ([32] ++ n,valW v ++ t) := by
  have e : parT (n,v) ++ t = ([32] ++ n) ++ 61 :: (valW v ++ t) := by unfold parT; simp
  rw [e]
  apply cutAt_app
  intro hm
  rcases List.mem_append.1 hm with hm | hm
  ·revert hm
   decide
  ·exact (atc_not2 (hat 61 hm)).2.2.2.2.1 rfl
 have t1 : trimB ([32] ++ n) = n := by
  have := trim_thru (a := [32]) (x := n) (b := []) (by intro c hc; simp at hc; rw [hc]; decide) (by simp) (ends_all fun c hc => (atc_not2 (hat c hc)).2.2.2.2.2.1).1 (ends_all fun c hc => (atc_not2 (hat c hc)).2.2.2.2.2.1).2
  simpa using this
 have t2 : trimB (valW v ++ t) = valW v := by
  have := trim_thru (a := []) (x := valW v) (b := t) (by simp) ht (valW_ends v).1 (valW_ends v).2
  simpa using this
 unfold partV
 rw [hcut]
 simp only
 rw [t1,t2,h2]
 unfold valW
 by_cases hl : onlyB loc' v = true
 ·rw [if_pos hl]
  have hq : quoP v = none := by
   cases v with
   | nil => rfl
   | cons c r =>
    unfold quoP
    simp only
    rw [if_neg]
    intro hc
    unfold onlyB at hl
    rw [Bool.and_eq_true,List.all_eq_true] at hl
    exact (loc_not (hl.1 c (by simp))).2.1 hc
  rw [hq]
  simp only
  rw [hl,h1]
  rfl
 ·rw [if_neg hl,quoP_valW]
  simp only
  rw [h3,h1]
  rfl
theorem post_map {t : List UInt8} (ht : ∀ c ∈ t,blk c = true) : ∀ (ms : List (List UInt8 × List UInt8)),ms ≠ [] → (∀ p ∈ ms,parOk p = true) →
  (post t (ms.map parT)).map partV = ms.map fun p => (p.1,p.2,true)
 | [],h,_ => absurd rfl h
 | [p],_,h => by
  simp only [List.map_cons,List.map_nil,post]
  rw [partV_T (h p (by simp)) ht]
 | p :: q :: ms,_,h => by
  have ih := post_map ht (q :: ms) (by simp) (fun x hx => h x (by simp [hx]))
  have h0 := partV_T (t := []) (h p (by simp)) (by simp)
  rw [List.append_nil] at h0
  simp only [List.map_cons,post] at ih ⊢
  rw [h0,ih]
theorem kind_ends {k : List UInt8} (h : kindB k = true) : (∀ c,k.head? = some c → blk c = false) ∧ ∀ c,k.getLast? = some c → blk c = false := by
 obtain ⟨a,b,rfl,ha,hb⟩ := kindB_parts h
 refine ends_all fun c hc => ?_
 rcases List.mem_append.1 hc with hc | hc
 ·exact (atc_not2 ((atomB_mem ha).2 c hc)).2.2.2.2.2.1
 ·rcases List.mem_cons.1 hc with rfl | hc
  ·decide
  ·exact (atc_not2 ((atomB_mem hb).2 c hc)).2.2.2.2.2.1
theorem parm_of {l b p0 : List UInt8} {pr : List (List UInt8)} (hb : bareP l = .ok b) (hs : semP b = some (p0 :: pr)) :
  parmP l = if kindB (trimB p0) && pr.all (fun p => (partV p).2.2) then .ok ((trimB p0).map small,pr.map fun p => ((partV p).1,(partV p).2.1)) else .error 3 := by
 unfold parmP
 rw [hb]
 simp only
 rw [hs]
 rfl
theorem parm_ends {l a t : List UInt8} {kind : List UInt8} {ms : List (List UInt8 × List UInt8)} (hr : rightB kind ms = true) (ha : ∀ c ∈ a,blk c = true) (ht : ∀ c ∈ t,blk c = true)
  (hb : bareP l = .ok (a ++ (writeB kind ms ++ t))) : parmP l = .ok (kind,ms) := by
 unfold rightB at hr
 rw [Bool.and_eq_true,Bool.and_eq_true,decide_eq_true_iff,List.all_eq_true] at hr
 obtain ⟨⟨hk,hs⟩,hm⟩ := hr
 have blkT : ∀ x : List UInt8,(∀ c ∈ x,blk c = true) → Thru x := fun x hx => Thru.all x fun c hc => by
  have h := (blk_iff c).1 (hx c hc)
  refine ⟨fun e => ?_,fun e => ?_,fun e => ?_,fun e => ?_⟩ <;> rw [e] at h <;> simp at h
 have hat : ∀ p ∈ ms,atomB p.1 = true := fun p hp => by
  have := hm p hp
  unfold parOk at this
  rw [Bool.and_eq_true,Bool.and_eq_true] at this
  exact this.1.1
 obtain ⟨_,hsem⟩ := pars_thru t (blkT t ht) ms (a ++ kind) ((blkT a ha).app (Thru.kind hk)) hat
 have e : a ++ (writeB kind ms ++ t) = (a ++ kind) ++ (ms.flatMap parW ++ t) := by unfold writeB; simp
 rw [e] at hb
 have ke := kind_ends hk
 cases ms with
 | nil =>
  have t1 : trimB (a ++ kind ++ t) = kind := trim_thru ha ht ke.1 ke.2
  rw [parm_of hb (show _ = some ((a ++ kind ++ t) :: []) from hsem),t1,hk,hs]
  rfl
 | cons p ms =>
  have t1 : trimB (a ++ kind) = kind := by
   have := trim_thru (b := []) ha (by simp) ke.1 ke.2
   simpa using this
  have hpm := post_map ht (p :: ms) (by simp) hm
  have hall : (post t ((p :: ms).map parT)).all (fun p => (partV p).2.2) = true := by
   rw [List.all_eq_true]
   intro x hx
   have : partV x ∈ (post t ((p :: ms).map parT)).map partV := List.mem_map_of_mem hx
   rw [hpm] at this
   obtain ⟨y,_,hy⟩ := List.mem_map.1 this
   rw [← hy]
  have hmap : (post t ((p :: ms).map parT)).map (fun p => ((partV p).1,(partV p).2.1)) = p :: ms := by
   have : (post t ((p :: ms).map parT)).map (fun p => ((partV p).1,(partV p).2.1)) = ((post t ((p :: ms).map parT)).map partV).map fun z => (z.1,z.2.1) := by
    rw [List.map_map]
    rfl
   rw [this,hpm,List.map_map]
   conv => rhs; rw [← List.map_id (p :: ms)]
   rfl
  rw [parm_of hb (show _ = some ((a ++ kind) :: post t ((p :: ms).map parT)) from hsem),t1,hk,hs,hall,hmap]
  rfl
theorem write_bare {kind : List UInt8} {ms : List (List UInt8 × List UInt8)} (hr : rightB kind ms = true) : bareP (writeB kind ms) = .ok (writeB kind ms) := by
 unfold rightB at hr
 rw [Bool.and_eq_true,Bool.and_eq_true,List.all_eq_true] at hr
 have := (pars_thru [] Thru.nil ms kind (Thru.kind hr.1.1) (fun p hp => by
  have := hr.2 p hp
  unfold parOk at this
  rw [Bool.and_eq_true,Bool.and_eq_true] at this
  exact this.1.1)).1
 simpa [writeB] using this
theorem write_read {kind : List UInt8} {ms : List (List UInt8 × List UInt8)} (hr : rightB kind ms = true) : parmP (writeB kind ms) = .ok (kind,ms) :=
 parm_ends (a := []) (t := []) hr (by simp) (by simp) (by simpa using write_bare hr)
end Tk
end
section
namespace Tk
open Go.RowKit
theorem rin_any (c : UInt8) (l : List UInt8) (w : World) (hl : l.length ≤ 1000000000) :
  Calls Tryz.prog 172 #[.int .u8 (c.toNat : Int),.string (bs l)] w fun e w' => e = .returned (.bool (l.contains c)) ∧ w = w' := by
 go_enter Tryz.func172,Tryz.ntmps172
 go_wp2_with fail
 go_loop [5] (fun i => ∃ k : Nat,i = .int .i64 k ∧ k ≤ l.length ∧ Hid ((l.take k).contains c = false)) (fun i => l.length - (intOf i).toNat)
 case atStart => exact ⟨0,rfl,by omega,Lib.hid (by simp)⟩
 case round =>
  obtain ⟨k,rfl,hk,hno⟩ := hrel
  by_cases hlt : k < l.length
  ·obtain ⟨x,hx⟩ : ∃ x,l[k]? = some x := ⟨_,List.getElem?_eq_getElem hlt⟩
   have hi := str_index (P := Tryz.prog) Tryz.underlying9 hx .i64
   have hbb := u8_beq x c
   by_cases h : x = c
   ·have hin : l.contains c = true := by
     rw [List.contains_iff_mem]
     rw [← h]
     exact List.mem_of_getElem? hx
    have HIN := Lib.hid hin
    have hb2 : ((x.toNat : Int) == (c.toNat : Int)) = true := by rw [hbb,h]; simp
    clear hbb hin hx h
    go_wp2_with fail
    go_ret
    exact ⟨ret_bool (by rw [← List.contains_eq_mem]; exact HIN.out.symm),rfl⟩
   ·have hst : (l.take (k + 1)).contains c = false := by
     have h2 := hno.out
     rw [take_succ_of hx]
     simp [List.contains_eq_mem] at h2 ⊢
     exact ⟨h2,fun e => h e.symm⟩
    have HST := Lib.hid hst
    have hb2 : ((x.toNat : Int) == (c.toNat : Int)) = false := by rw [hbb]; simp [h]
    clear hbb hst hx h
    go_wp2_with fail
    go_round
    case rel => exact ⟨k + 1,by go_num,by omega,HST⟩
    case measure => simp [intOf]; omega
  ·have hall : l.contains c = false := by
    have h2 := hno.out
    rwa [take_all l (by omega)] at h2
   have HA := Lib.hid hall
   clear hall
   go_wp2_with fail
   go_ret
   exact ⟨ret_bool (by rw [← List.contains_eq_mem]; exact HA.out.symm),rfl⟩
end Tk
end
end Go.Proofs.YtkllecicddfjpaaGreatDoor
