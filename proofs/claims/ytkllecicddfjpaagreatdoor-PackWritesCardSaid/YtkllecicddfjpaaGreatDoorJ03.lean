/- The walk of the law, part 3. -/
import Derived.Test.YtkllecicddfjpaaGreatDoorJ02
import Derived.Test.YtkllecicddfjpaaGreatDoorJ01
import Derived.Lib.Split
import Derived.Lib.SplitLaws
import Derived.Lib.SlTrimSet
import Derived.Lib.LastIndexByte
set_option maxRecDepth 100000
set_option maxHeartbeats 16000000
set_option linter.unusedVariables false
set_option linter.unusedSimpArgs false
namespace Go.Proofs.YtkllecicddfjpaaGreatDoor
section
open Go.RowKit
structure Ow where
 e : TypeId
 size : Nat
 v : Value
 n : Nat
 xs : List Value
def obs (v : Value) (l : List UInt8) : Ow := ⟨5,1,v,l.length,l.map bv⟩
def orr (v : Value) (ts : List Tl) : Ow := ⟨22,1,v,ts.length,ts.map (·.2)⟩
structure Mem (w : World) (base : Nat) (vs : List Ow) (T : List Tl) : Prop where
 own : ∀ o ∈ vs,OwnM w base o.e o.size o.v o.n o.xs
 sep : Sep (vs.map (·.v))
 ls : LsOk w base (vs.map (·.v)) T
section
variable {w w' : World} {base : Nat} {vs : List Ow} {T : List Tl} {i : Nat} {o o' : Ow}
theorem Mem.get (h : Mem w base vs T) (hi : vs[i]? = some o) : OwnM w base o.e o.size o.v o.n o.xs := h.own o (List.mem_of_getElem? hi)
theorem Mem.lt (h : Mem w base vs T) : ∀ u ∈ vs.map (·.v),∀ k,nb u k → k < w.heap.size := by
 intro u hu k hk
 obtain ⟨o,ho,rfl⟩ := List.mem_map.1 hu
 exact ((h.own o ho).lt k hk).2
theorem Mem.below (h : Mem w base vs T) (hb : Below w.heap.size w w') : Mem w' base vs T := ⟨fun o ho => (h.own o ho).below hb,h.sep,h.ls.below hb⟩
theorem Mem.upd (h : Mem w base vs T) (hi : vs[i]? = some o) (hx : Ext (fun k => nb o.v k) w w') (ho : OwnM w' base o'.e o'.size o'.v o'.n o'.xs) (hv : ∀ k,nb o'.v k → nb o.v k ∨ w.heap.size ≤ k) : Mem w' base (vs.set i o') T := by
 have him : (vs.map (·.v))[i]? = some o.v := by rw [List.getElem?_map,hi]; rfl
 refine ⟨fun u hu => ?_,?_,?_⟩
 ·obtain ⟨j,hj⟩ := List.mem_iff_getElem?.1 hu
  rw [List.getElem?_set] at hj
  by_cases hij : i = j
  ·rw [if_pos hij] at hj
   split at hj
   ·cases hj
    exact ho
   ·cases hj
  ·rw [if_neg hij] at hj
   refine hx.own (h.own u (List.mem_of_getElem? hj)) fun k h1 h2 => ?_
   exact h.sep i j o.v u.v hij him (by rw [List.getElem?_map,hj]; rfl) k h2 h1
 ·rw [List.map_set]
  exact h.sep.upd him h.lt hv
 ·rw [List.map_set]
  exact h.ls.next hx (fun k _ hk => ⟨o.v,List.mem_of_getElem? him,hk⟩) (mem_upd him hv)
theorem Mem.push (h : Mem w base vs T) {v : Value} {l : List UInt8} (hi : vs[i]? = some (obs v l)) (hb : Below w.heap.size w w') (ho : OwnM w' base o'.e o'.size o'.v o'.n o'.xs) (hv : ∀ k,nb o'.v k → w.heap.size ≤ k) : Mem w' base (vs.set i o') (T ++ [(l,v)]) := by
 have him : (vs.map (·.v))[i]? = some v := by rw [List.getElem?_map,hi]; rfl
 have h2 := h.upd (o' := o') hi (Ext.of_below _ hb) ho (fun k hk => .inr (hv k hk))
 refine ⟨h2.own,h2.sep,fun t ht => ?_⟩
 rcases List.mem_append.1 ht with ht | ht
 ·exact h2.ls t ht
 ·simp only [List.mem_singleton] at ht
  subst ht
  have h3 := h.get hi
  refine ⟨h3.below hb,fun k hk u hu hku => ?_⟩
  have hkl := (h3.lt k hk).2
  obtain ⟨j,hj⟩ := List.mem_iff_getElem?.1 hu
  rw [List.map_set,List.getElem?_set] at hj
  by_cases hij : i = j
  ·rw [if_pos hij] at hj
   split at hj
   ·cases hj
    have := hv k hku
    omega
   ·cases hj
  ·rw [if_neg hij] at hj
   exact h.sep i j v u hij him hj k hk hku
theorem Mem.add (h : Mem w base vs T) {v : Value} {l : List UInt8} (hb : Below w.heap.size w w') (ho : OwnM w' base 5 1 v l.length (l.map bv)) (hv : ∀ k,nb v k → w.heap.size ≤ k) : Mem w' base vs (T ++ [(l,v)]) := by
 have h2 := h.below hb
 refine ⟨h2.own,h2.sep,fun t ht => ?_⟩
 rcases List.mem_append.1 ht with ht | ht
 ·exact h2.ls t ht
 ·simp only [List.mem_singleton] at ht
  subst ht
  refine ⟨ho,fun k hk u hu hku => ?_⟩
  have := h.lt u hu k hku
  have := hv k hk
  omega
theorem Mem.cons (h : Mem w base vs T) (hb : Below w.heap.size w w') (ho : OwnM w' base o'.e o'.size o'.v o'.n o'.xs) (hv : ∀ k,nb o'.v k → w.heap.size ≤ k) : Mem w' base (vs ++ [o']) T := by
 have h2 := h.below hb
 refine ⟨fun u hu => ?_,fun a b x y hab hx hy k hk1 hk2 => ?_,fun t ht => ⟨(h2.ls t ht).1,fun k hk u hu hku => ?_⟩⟩
 ·rcases List.mem_append.1 hu with hu | hu
  ·exact h2.own u hu
  ·simp only [List.mem_singleton] at hu
   subst hu
   exact ho
 ·rw [List.map_append,List.getElem?_append] at hx hy
  simp only [List.map_cons,List.map_nil] at hx hy
  split at hx <;> split at hy
  ·exact h.sep a b x y hab hx hy k hk1 hk2
  ·rename_i h3 h4
   rcases hb0 : b - (vs.map (·.v)).length with _ | b'
   ·rw [hb0] at hy
    cases hy
    have := hv k hk2
    have := h.lt x (List.mem_of_getElem? hx) k hk1
    omega
   ·rw [hb0] at hy
    simp at hy
  ·rename_i h3 h4
   rcases ha0 : a - (vs.map (·.v)).length with _ | a'
   ·rw [ha0] at hx
    cases hx
    have := hv k hk1
    have := h.lt y (List.mem_of_getElem? hy) k hk2
    omega
   ·rw [ha0] at hx
    simp at hx
  ·rename_i h3 h4
   rcases ha0 : a - (vs.map (·.v)).length with _ | a'
   ·rcases hb0 : b - (vs.map (·.v)).length with _ | b'
    ·omega
    ·rw [hb0] at hy
     simp at hy
   ·rw [ha0] at hx
    simp at hx
 ·rw [List.map_append] at hu
  rcases List.mem_append.1 hu with hu | hu
  ·exact (h2.ls t ht).2 k hk u hu hku
  ·simp only [List.map_cons,List.map_nil,List.mem_singleton] at hu
   subst hu
   have := hv k hku
   have := (((h.ls t ht).1).lt k hk).2
   omega
end
theorem Mem.nil (w : World) (base : Nat) : Mem w base [] [] := ⟨(fun _ h => by cases h),(fun i j u v _ h => by simp at h),(fun _ h => by cases h)⟩
theorem OwnM.cut {w : World} {base : Nat} {e : TypeId} {A : Option Addr} {n c k : Nat} {xs : List Value} (h : OwnM w base e 1 (.slice A n c) n xs) (hk : k ≤ n) : OwnM w base e 1 (.slice A k c) k (xs.take k) := by
 refine ⟨by have := h.1; simp at this ⊢; omega,?_⟩
 rcases h.2 with ⟨hv,h0⟩ | ⟨g,cap,cur,fz,hv,hb,hg,hfz,h1,h2,h3,h4⟩
 ·cases hv
  exact .inl ⟨by rw [show k = 0 by omega],by omega⟩
 ·cases hv
  refine .inr ⟨g,c,cur,fz,rfl,hb,hg,hfz,by omega,h2,h3,?_⟩
  rw [← h4,List.take_take]
  congr 1
  omega
def RR (w : World) (A : Option Addr) (ls : List (List UInt8)) : Prop := ∃ vs : List Value,Rv w A vs ∧ vs.length = ls.length ∧ ∀ (j : Nat) (l : List UInt8),ls[j]? = some l → ∃ B c,vs[j]? = some (.slice B l.length c) ∧ l.length ≤ c ∧ c ≤ maxLen ∧ (B = none → c = 0) ∧ (B = none ∨ ∃ b o,B = some ⟨b,o,none⟩) ∧ Rb w B l
theorem RR.below {w w' : World} {A : Option Addr} {ls : List (List UInt8)} (h : RR w A ls) (hb : Below w.heap.size w w') : RR w' A ls := by
 obtain ⟨vs,h1,h2,h3⟩ := h
 refine ⟨vs,Rv.below h1 hb,h2,fun j l hl => ?_⟩
 obtain ⟨B,c,a1,a2,a3,a4,a5,a6⟩ := h3 j l hl
 exact ⟨B,c,a1,a2,a3,a4,a5,a6.below hb⟩
theorem RR.one {w : World} {A : Option Addr} {ls : List (List UInt8)} (h : RR w A ls) {k : Nat} (hk : k < ls.length) :
  ∃ b o B c l,A = some ⟨b,o,none⟩ ∧ Hid (ls[k]? = some l) ∧ w.cell? ⟨b,o + k,none⟩ = some (.slice B l.length c) ∧ l.length ≤ c ∧ c ≤ maxLen ∧ (B = none → c = 0) ∧ (B = none ∨ ∃ b o,B = some ⟨b,o,none⟩) ∧ Rb w B l := by
 obtain ⟨vs,h1,h2,h3⟩ := h
 obtain ⟨b,o,e,hc⟩ := h1 (by omega)
 have hl : ls[k]? = some ls[k] := List.getElem?_eq_getElem hk
 obtain ⟨B,c,a1,a2,a3,a4,a5,a6⟩ := h3 k _ hl
 exact ⟨b,o,B,c,ls[k],e,Lib.hid hl,hc k _ a1,a2,a3,a4,a5,a6⟩
theorem RR_of {w : World} {base : Nat} {A : Option Addr} {n c : Nat} {ts T : List Tl} {vs : List Value} (ho : OwnM w base 22 1 (.slice A n c) n (ts.map (·.2))) (hl : LsOk w base vs T) (hs : ∀ t ∈ ts,t ∈ T) : RR w A (ts.map (·.1)) := by
 obtain ⟨A',c',e,_,_,hr,_,_,_⟩ := ho.form
 cases e
 refine ⟨ts.map (·.2),hr,by simp,fun j l hj => ?_⟩
 rw [List.getElem?_map,Option.map_eq_some_iff] at hj
 obtain ⟨t,ht,rfl⟩ := hj
 obtain ⟨B,d,e2,h1,h2,h3,_,h4,h5⟩ := ((hl t (hs t (List.mem_of_getElem? ht))).1).form
 refine ⟨B,d,by rw [List.getElem?_map,ht]; exact congrArg some e2,h1,h2,h4,?_,h3⟩
 rcases h5 with h5 | ⟨b,h5⟩
 ·exact .inl h5
 ·exact .inr ⟨b,0,h5⟩
end
section
namespace Tk
def cmtGo : Nat → List UInt8 → Except Nat (List UInt8)
 | _,[] => .error 3
 | d,c :: r =>
  if c = 92 then (match r with | [] => .error 3 | _ :: r' => cmtGo d r')
  else if c = 40 then (if 9 < d + 1 then .error 5 else cmtGo (d + 1) r)
  else if c = 41 then (if d = 1 then .ok r else cmtGo (d - 1) r)
  else cmtGo d r
def qGo : List UInt8 → Option (List UInt8 × List UInt8)
 | [] => none
 | c :: r =>
  if c = 92 then (match r with | [] => none | x :: r' => (qGo r').map fun p => (92 :: x :: p.1,p.2))
  else if c = 34 then some ([34],r)
  else (qGo r).map fun p => (c :: p.1,p.2)
theorem cmtGo_len : ∀ (n : Nat) (l : List UInt8) (d : Nat) (r : List UInt8),l.length ≤ n → cmtGo d l = .ok r → r.length < l.length
 | 0,[],_,_,_,h => by simp [cmtGo] at h
 | n + 1,[],_,_,_,h => by simp [cmtGo] at h
 | n + 1,c :: l,d,r,hl,h => by
  simp only [List.length_cons] at hl
  rw [cmtGo.eq_def] at h
  simp only at h
  split at h
  ·split at h
   ·cases h
   ·rename_i x r'
    have := cmtGo_len n r' d r (by simp at hl; omega) h
    simp
    omega
  ·split at h
   ·split at h
    ·cases h
    ·have := cmtGo_len n l (d + 1) r (by omega) h
     simp
     omega
   ·split at h
    ·split at h
     ·cases h
      simp
     ·have := cmtGo_len n l (d - 1) r (by omega) h
      simp
      omega
    ·have := cmtGo_len n l d r (by omega) h
     simp
     omega
theorem qGo_len : ∀ (n : Nat) (l a b : List UInt8),l.length ≤ n → qGo l = some (a,b) → l = a ++ b ∧ 0 < a.length
 | 0,[],_,_,_,h => by simp [qGo] at h
 | n + 1,[],_,_,_,h => by simp [qGo] at h
 | n + 1,c :: l,a,b,hl,h => by
  simp only [List.length_cons] at hl
  rw [qGo.eq_def] at h
  simp only at h
  split at h
  ·rename_i hc
   split at h
   ·cases h
   ·rename_i x r'
    rw [Option.map_eq_some_iff] at h
    obtain ⟨⟨a',b'⟩,h1,h2⟩ := h
    cases h2
    have := (qGo_len n r' a' b' (by simp at hl; omega) h1).1
    rw [this,hc]
    simp
  ·split at h
   ·rename_i hc
    cases h
    rw [hc]
    simp
   ·rw [Option.map_eq_some_iff] at h
    obtain ⟨⟨a',b'⟩,h1,h2⟩ := h
    cases h2
    have := (qGo_len n l a' b' (by omega) h1).1
    rw [this]
    simp
def bareN : Nat → List UInt8 → Except Nat (List UInt8)
 | _,[] => .ok []
 | 0,_ => .ok []
 | n + 1,c :: r =>
  if c = 40 then (match cmtGo 1 r with | .error e => .error e | .ok t => (bareN n t).map fun o => 32 :: o)
  else if c = 34 then (match qGo r with | none => .error 3 | some (a,t) => (bareN n t).map fun o => 34 :: (a ++ o))
  else if c = 41 then .error 3
  else (bareN n r).map fun o => c :: o
def bareP (l : List UInt8) : Except Nat (List UInt8) := bareN l.length l
theorem bareN_fuel : ∀ (n m : Nat) (l : List UInt8),l.length ≤ n → l.length ≤ m → bareN n l = bareN m l
 | n,m,[],_,_ => by cases n <;> cases m <;> rfl
 | n + 1,m + 1,c :: r,hn,hm => by
  simp only [List.length_cons] at hn hm
  have ih : ∀ t : List UInt8,t.length ≤ r.length → bareN n t = bareN m t := fun t ht => bareN_fuel n m t (by omega) (by omega)
  rw [bareN,bareN]
  split
  ·cases h : cmtGo 1 r with
   | error e => rfl
   | ok t =>
    have := cmtGo_len r.length r 1 t (Nat.le_refl _) h
    simp only
    rw [ih t (by omega)]
  ·split
   ·cases h : qGo r with
    | none => rfl
    | some p =>
     obtain ⟨a,t⟩ := p
     have := (qGo_len r.length r a t (Nat.le_refl _) h).1
     have hl : t.length ≤ r.length := by rw [this]; simp
     simp only
     rw [ih t hl]
   ·split
    ·rfl
    ·rw [ih r (Nat.le_refl _)]
 | 0,_,c :: r,hn,_ => by simp at hn
 | _ + 1,0,c :: r,_,hm => by simp at hm
theorem bareP_cons (c : UInt8) (r : List UInt8) : bareP (c :: r) =
  if c = 40 then (match cmtGo 1 r with | .error e => .error e | .ok t => (bareP t).map fun o => 32 :: o)
  else if c = 34 then (match qGo r with | none => .error 3 | some (a,t) => (bareP t).map fun o => 34 :: (a ++ o))
  else if c = 41 then .error 3
  else (bareP r).map fun o => c :: o := by
 show bareN (r.length + 1) (c :: r) = _
 rw [bareN]
 split
 ·cases h : cmtGo 1 r with
  | error e => rfl
  | ok t =>
   have := cmtGo_len r.length r 1 t (Nat.le_refl _) h
   simp only
   rw [bareN_fuel r.length t.length t (by omega) (Nat.le_refl _)]
   rfl
 ·split
  ·cases h : qGo r with
   | none => rfl
   | some p =>
    obtain ⟨a,t⟩ := p
    have := (qGo_len r.length r a t (Nat.le_refl _) h).1
    have hl : t.length ≤ r.length := by rw [this]; simp
    simp only
    rw [bareN_fuel r.length t.length t hl (Nat.le_refl _)]
    rfl
  ·rfl
def signGo : Nat → Bool → List UInt8 → List UInt8 → Except Nat (List UInt8)
 | d,ins,o,[] => if 0 < d ∨ ins = true then .error 3 else .ok o
 | d,ins,o,c :: r =>
  if c = 92 ∧ (0 < d ∨ ins = true) then (match r with | [] => (if ins then signGo d ins (o ++ [92]) [] else signGo d ins o []) | x :: r' => (if ins then signGo d ins (o ++ [92,x]) r' else signGo d ins o r'))
  else if ins then signGo d (c != 34) (o ++ [c]) r
  else if c = 40 then (if 9 < d + 1 then .error 5 else signGo (d + 1) false o r)
  else if c = 41 then (if d = 0 then .error 3 else if d = 1 then signGo 0 false (o ++ [32]) r else signGo (d - 1) false o r)
  else if d = 0 then signGo 0 (c == 34) (o ++ [c]) r
  else signGo d false o r
theorem signGo_q : ∀ (n : Nat) (l o : List UInt8),l.length ≤ n → signGo 0 true o l = match qGo l with | none => .error 3 | some (a,t) => signGo 0 false (o ++ a) t
 | 0,[],o,_ => by simp [signGo,qGo]
 | n + 1,[],o,_ => by simp [signGo,qGo]
 | n + 1,c :: r,o,hl => by
  simp only [List.length_cons] at hl
  rw [signGo.eq_def,qGo.eq_def]
  simp only
  by_cases h1 : c = 92
  ·subst h1
   simp only [true_and,or_true,if_true]
   cases r with
   | nil => simp [signGo]
   | cons x r' =>
    simp only
    rw [signGo_q n r' (o ++ [92,x]) (by simp at hl; omega)]
    cases h : qGo r' with
    | none => rfl
    | some p => simp
  ·rw [if_neg (by simp [h1]),if_pos trivial,if_neg h1]
   by_cases h2 : c = 34
   ·subst h2
    simp
   ·have h3 : (c != 34) = true := by simp [h2]
    rw [if_neg h2,h3,signGo_q n r (o ++ [c]) (by omega)]
    cases h : qGo r with
    | none => rfl
    | some p => simp
theorem signGo_c : ∀ (n : Nat) (l o : List UInt8) (d : Nat),l.length ≤ n → 1 ≤ d → signGo d false o l = match cmtGo d l with | .error e => .error e | .ok t => signGo 0 false (o ++ [32]) t
 | 0,[],o,d,_,hd => by simp [signGo,cmtGo]; omega
 | n + 1,[],o,d,_,hd => by simp [signGo,cmtGo]; omega
 | n + 1,c :: r,o,d,hl,hd => by
  simp only [List.length_cons] at hl
  rw [signGo.eq_def,cmtGo.eq_def]
  simp only
  by_cases h1 : c = 92
  ·subst h1
   rw [if_pos ⟨rfl,.inl (by omega)⟩,if_pos rfl]
   cases r with
   | nil => simp [signGo]; omega
   | cons x r' =>
    simp only [Bool.false_eq_true,if_false]
    exact signGo_c n r' o d (by simp at hl; omega) hd
  ·rw [if_neg (by simp [h1]),if_neg (by simp),if_neg h1]
   by_cases h2 : c = 40
   ·rw [if_pos h2,if_pos h2]
    by_cases h3 : 9 < d + 1
    ·rw [if_pos h3,if_pos h3]
    ·rw [if_neg h3,if_neg h3]
     exact signGo_c n r o (d + 1) (by omega) (by omega)
   ·rw [if_neg h2,if_neg h2]
    by_cases h3 : c = 41
    ·rw [if_pos h3,if_pos h3,if_neg (by omega : ¬ d = 0)]
     by_cases h4 : d = 1
     ·rw [if_pos h4,if_pos h4]
     ·rw [if_neg h4,if_neg h4]
      exact signGo_c n r o (d - 1) (by omega) (by omega)
    ·rw [if_neg h3,if_neg h3,if_neg (by omega : ¬ d = 0)]
     exact signGo_c n r o d (by omega) hd
theorem signGo_eq : ∀ (n : Nat) (l o : List UInt8),l.length ≤ n → signGo 0 false o l = (bareP l).map fun p => o ++ p
 | 0,[],o,_ => by simp [signGo,bareP,bareN,Except.map]
 | n + 1,[],o,_ => by simp [signGo,bareP,bareN,Except.map]
 | n + 1,c :: r,o,hl => by
  simp only [List.length_cons] at hl
  rw [signGo.eq_def,bareP_cons]
  simp only
  rw [if_neg (by simp),if_neg (by simp)]
  by_cases h1 : c = 40
  ·rw [if_pos h1,if_pos h1,if_neg (by omega),signGo_c n r o 1 (by omega) (by omega)]
   cases h : cmtGo 1 r with
   | error e => rfl
   | ok t =>
    have := cmtGo_len r.length r 1 t (Nat.le_refl _) h
    simp only
    rw [signGo_eq n t (o ++ [32]) (by omega)]
    cases bareP t <;> simp [Except.map]
  ·rw [if_neg h1,if_neg h1]
   by_cases h2 : c = 34
   ·subst h2
    rw [if_neg (by decide),if_pos trivial,if_pos rfl]
    rw [show ((34 : UInt8) == 34) = true by decide,signGo_q n r (o ++ [34]) (by omega)]
    cases h : qGo r with
    | none => rfl
    | some p =>
     obtain ⟨a,t⟩ := p
     have := (qGo_len r.length r a t (Nat.le_refl _) h).1
     have hl2 : t.length ≤ r.length := by rw [this]; simp
     simp only
     rw [signGo_eq n t (o ++ [34] ++ a) (by omega)]
     cases bareP t <;> simp [Except.map]
   ·by_cases h3 : c = 41
    ·rw [if_pos h3,if_pos trivial,if_neg h2,if_pos h3]
     rfl
    ·have h4 : (c == 34) = false := by simp [h2]
     rw [if_neg h3,if_pos trivial,if_neg h2,if_neg h3,h4,signGo_eq n r (o ++ [c]) (by omega)]
     cases bareP r <;> simp [Except.map]
theorem sign_bare (l : List UInt8) : signGo 0 false [] l = bareP l := by
 rw [signGo_eq l.length l [] (Nat.le_refl _)]
 cases bareP l <;> simp [Except.map]
end Tk
end
section
def blk (c : UInt8) : Bool := c == 32 || c == 9
def nmc (c : UInt8) : Bool := decide (33 ≤ c.toNat) && decide (c.toNat ≤ 126) && c != 58
def nmOk (l : List UInt8) : Bool := l.all nmc && decide (1 ≤ l.length ∧ l.length ≤ 64)
def sgc (c : UInt8) : Bool := c == 9 || (decide (32 ≤ c.toNat) && decide (c.toNat ≤ 126))
def edges (l : List UInt8) : Bool := l.head?.all (fun c => !blk c) && l.getLast?.all (fun c => !blk c)
def vlOk (l : List UInt8) : Bool := l.all sgc && decide (l.length ≤ 8192) && edges l
def small (c : UInt8) : UInt8 := if 65 ≤ c.toNat ∧ c.toNat ≤ 90 then c + 32 else c
def sameN (a b : List UInt8) : Bool := decide (a.map small = b.map small)
theorem blk_cases (c : UInt8) : (blk c = true ∧ ((c.toNat : Int) = 32 ∨ ((c.toNat : Int) ≠ 32 ∧ (c.toNat : Int) = 9))) ∨ (blk c = false ∧ (c.toNat : Int) ≠ 32 ∧ (c.toNat : Int) ≠ 9) := by
 have e : blk c = (decide (c.toNat = 32) || decide (c.toNat = 9)) := by
  unfold blk
  rw [Bool.eq_iff_iff]
  simp [← UInt8.toNat_inj]
 rw [e]
 by_cases h1 : c.toNat = 32 <;> by_cases h2 : c.toNat = 9 <;> simp [h1,h2] <;> omega
theorem blk_iff (c : UInt8) : blk c = true ↔ c.toNat = 32 ∨ c.toNat = 9 := by
 unfold blk
 simp [← UInt8.toNat_inj]
theorem nmc_iff (c : UInt8) : nmc c = true ↔ 33 ≤ c.toNat ∧ c.toNat ≤ 126 ∧ c.toNat ≠ 58 := by
 unfold nmc
 simp [← UInt8.toNat_inj,and_assoc]
theorem sgc_iff (c : UInt8) : sgc c = true ↔ c.toNat = 9 ∨ (32 ≤ c.toNat ∧ c.toNat ≤ 126) := by
 unfold sgc
 simp [← UInt8.toNat_inj]
theorem small_nat (c : UInt8) : (small c).toNat = if 65 ≤ c.toNat ∧ c.toNat ≤ 90 then c.toNat + 32 else c.toNat := by
 unfold small
 split
 ·rw [UInt8.toNat_add]
  simp
  omega
 ·rfl
theorem all_take {α : Type} (p : α → Bool) (l : List α) {q : Nat} {x : α} (h : l[q]? = some x) : (l.take (q + 1)).all p = ((l.take q).all p && p x) := by
 rw [take_succ_of h,List.all_append]
 simp
theorem all_hit {α : Type} (p : α → Bool) {l : List α} {q : Nat} {x : α} (h : l[q]? = some x) (hp : p x = false) : l.all p = false := by
 rw [List.all_eq_false]
 exact ⟨x,List.mem_of_getElem? h,by simp [hp]⟩
theorem nmOk_len {l : List UInt8} (h : nmOk l = true) : 1 ≤ l.length ∧ l.length ≤ 64 := by
 unfold nmOk at h
 rw [Bool.and_eq_true,decide_eq_true_iff] at h
 exact h.2
theorem vlOk_len {l : List UInt8} (h : vlOk l = true) : l.length ≤ 8192 := by
 unfold vlOk at h
 rw [Bool.and_eq_true,Bool.and_eq_true,decide_eq_true_iff] at h
 exact h.1.2
end
section
namespace Tk
def prc (c : UInt8) : Bool := decide (33 ≤ c.toNat) && decide (c.toNat ≤ 126)
def atc (c : UInt8) : Bool := decide (33 ≤ c.toNat) && decide (c.toNat ≤ 126) && !([40,41,60,62,64,44,59,58,92,34,47,91,93,63,61,46] : List UInt8).contains c
def loc' (c : UInt8) : Bool := atc c || ([46,47,58,63] : List UInt8).contains c
def idc (c : UInt8) : Bool := prc c && c != 60
def onlyB (p : UInt8 → Bool) (l : List UInt8) : Bool := l.all p && !l.isEmpty
def atomB (l : List UInt8) : Bool := l.all atc && !l.isEmpty
def valB (l : List UInt8) : Bool := l.all sgc
def cutAt (s : UInt8) : List UInt8 → Option (List UInt8 × List UInt8)
 | [] => none
 | c :: r => if c = s then some ([],r) else (cutAt s r).map fun p => (c :: p.1,p.2)
theorem cutAt_some {s : UInt8} : ∀ {l a b : List UInt8},cutAt s l = some (a,b) → l = a ++ s :: b ∧ s ∉ a ∧ Lib.index l [s] = (a.length : Int)
 | [],_,_,h => by simp [cutAt] at h
 | c :: r,a,b,h => by
  unfold cutAt at h
  by_cases hc : c = s
  ·rw [if_pos hc] at h
   cases h
   subst hc
   exact ⟨rfl,by simp,by simp [Lib.index,List.isPrefixOf]⟩
  ·rw [if_neg hc,Option.map_eq_some_iff] at h
   obtain ⟨⟨a',b'⟩,h1,h2⟩ := h
   cases h2
   obtain ⟨e,hn,hi⟩ := cutAt_some h1
   refine ⟨by rw [e]; rfl,by simp [hn,Ne.symm hc],?_⟩
   have hne : (s == c) = false := by simpa using Ne.symm hc
   have h1 : (((a'.length : Int)) == -1) = false := by rw [beq_eq_false_iff_ne]; omega
   simp [Lib.index,List.isPrefixOf,hne,hi,h1]
theorem cutAt_none {s : UInt8} : ∀ {l : List UInt8},cutAt s l = none → s ∉ l ∧ Lib.index l [s] = -1
 | [],_ => ⟨by simp,rfl⟩
 | c :: r,h => by
  unfold cutAt at h
  by_cases hc : c = s
  ·rw [if_pos hc] at h
   cases h
  ·rw [if_neg hc,Option.map_eq_none_iff] at h
   obtain ⟨hn,hi⟩ := cutAt_none h
   have hne : (s == c) = false := by simpa using Ne.symm hc
   exact ⟨by simp [hn,Ne.symm hc],by simp [Lib.index,List.isPrefixOf,hne,hi]⟩
theorem cutAt_not {s : UInt8} {l : List UInt8} (h : s ∉ l) : cutAt s l = none := by
 induction l with
 | nil => rfl
 | cons c r ih =>
  simp only [List.mem_cons,not_or] at h
  unfold cutAt
  rw [if_neg (Ne.symm h.1),ih h.2]
  rfl
theorem cutAt_app {s : UInt8} {a b : List UInt8} (h : s ∉ a) : cutAt s (a ++ s :: b) = some (a,b) := by
 induction a with
 | nil => simp [cutAt]
 | cons c r ih =>
  simp only [List.mem_cons,not_or] at h
  show cutAt s (c :: (r ++ s :: b)) = _
  unfold cutAt
  rw [if_neg (Ne.symm h.1),ih h.2]
  rfl
theorem lib_cut (s : UInt8) (l : List UInt8) : Lib.cut l [s] = match cutAt s l with | some (a,b) => (a,b,true) | none => (l,[],false) := by
 cases h : cutAt s l with
 | none =>
  have := (cutAt_none h).2
  unfold Lib.cut
  rw [this]
  rfl
 | some p =>
  obtain ⟨a,b⟩ := p
  obtain ⟨hl,_,hi⟩ := cutAt_some h
  unfold Lib.cut
  rw [hi,if_pos (by omega)]
  simp only [Int.toNat_natCast,List.length_cons,List.length_nil]
  rw [hl,List.take_left' rfl,show a ++ s :: b = (a ++ [s]) ++ b by simp,List.drop_left' (by simp)]
def splitP (s : UInt8) : List UInt8 → List (List UInt8)
 | [] => [[]]
 | c :: r => if c = s then [] :: splitP s r else match splitP s r with | [] => [[c]] | p :: ps => (c :: p) :: ps
theorem splitP_ne (s : UInt8) (l : List UInt8) : splitP s l ≠ [] := by
 cases l with
 | nil => simp [splitP]
 | cons c r =>
  unfold splitP
  split
  ·simp
  ·split <;> simp
theorem splitP_cut (s : UInt8) : ∀ l : List UInt8,splitP s l = match cutAt s l with | none => [l] | some (a,b) => a :: splitP s b
 | [] => rfl
 | c :: r => by
  rw [splitP,cutAt]
  by_cases hc : c = s
  ·rw [if_pos hc,if_pos hc]
  ·rw [if_neg hc,if_neg hc,splitP_cut s r]
   cases cutAt s r with
   | none => rfl
   | some p =>
    obtain ⟨a,b⟩ := p
    rfl
theorem splitK_P (s : UInt8) : ∀ (n : Nat) (l : List UInt8),Lib.count l [s] = n → Lib.splitK [s] 0 n l = splitP s l
 | 0,l,h => by
  rw [Lib.count_one] at h
  have : s ∉ l := fun hm => by have := List.count_pos_iff.2 hm; omega
  rw [splitP_cut,cutAt_not this]
  rfl
 | n + 1,l,h => by
  cases hc : cutAt s l with
  | none =>
   have := (cutAt_none hc).1
   rw [Lib.count_one,List.count_eq_zero_of_not_mem this] at h
   omega
  | some p =>
   obtain ⟨a,b⟩ := p
   obtain ⟨hl,hn,hi⟩ := cutAt_some hc
   have hb : Lib.count b [s] = n := by
    rw [Lib.count_one] at h ⊢
    rw [hl,List.count_append,List.count_eq_zero_of_not_mem hn,List.count_cons_self] at h
    omega
   have hne : ((a.length : Int) == -1) = false := by rw [beq_eq_false_iff_ne]; omega
   rw [splitP_cut,hc,Lib.splitK,hi,hne]
   simp only [Bool.false_eq_true,if_false,Int.toNat_natCast,Nat.add_zero,List.length_cons,List.length_nil]
   rw [show l.drop (a.length + (0 + 1)) = b by rw [hl,show a ++ s :: b = (a ++ [s]) ++ b by simp,List.drop_left' (by simp)],splitK_P s n b hb]
   rw [hl,List.take_left' rfl]
theorem splitB_P (s : UInt8) (l : List UInt8) : (Lib.splitB ⟨#[s]⟩ 0 (Lib.countB (bs l) ⟨#[s]⟩) (bs l)).map Value.string = (splitP s l).map fun p => Value.string (bs p) := by
 have h1 := Lib.splitB_data ⟨#[s]⟩ 0 (Lib.countB (bs l) ⟨#[s]⟩) (bs l)
 rw [bs_toList] at h1
 have h2 : Lib.countB (bs l) ⟨#[s]⟩ = Lib.count l [s] := by
  unfold Lib.countB
  rw [bs_toList]
 have h3 := splitK_P s _ l rfl
 rw [← h2] at h3
 rw [show (⟨#[s]⟩ : ByteArray).data.toList = [s] from rfl,h3] at h1
 rw [← h1,List.map_map]
 apply List.map_congr_left
 intro b _
 simp [bs_of]
theorem countB_P (s : UInt8) (l : List UInt8) : Lib.countB (bs l) ⟨#[s]⟩ + 1 = (splitP s l).length := by
 have := congrArg List.length (splitB_P s l)
 simp only [List.length_map] at this
 rw [← this,Lib.splitB_all ⟨#[s]⟩ (show 1 ≤ (#[s] : Array UInt8).size from Nat.le_refl 1) 0 _ _ rfl]
theorem splitP_len (s : UInt8) : ∀ l : List UInt8,(splitP s l).length ≤ l.length + 1
 | [] => by simp [splitP]
 | c :: r => by
  have := splitP_len s r
  unfold splitP
  split
  ·simp; omega
  ·split
   ·simp
   ·rename_i h
    rw [h] at this
    simp at this ⊢
    omega
theorem splitP_mem (s : UInt8) : ∀ (l p : List UInt8),p ∈ splitP s l → p.length ≤ l.length
 | [],p,h => by simp [splitP] at h; simp [h]
 | c :: r,p,h => by
  unfold splitP at h
  split at h
  ·rcases List.mem_cons.1 h with rfl | h
   ·simp
   ·have := splitP_mem s r p h
    simp
    omega
  ·split at h
   ·simp at h
    simp [h]
   ·rename_i q qs hq
    rcases List.mem_cons.1 h with rfl | h
    ·have := splitP_mem s r q (by rw [hq]; simp)
     simp
     omega
    ·have := splitP_mem s r p (by rw [hq]; simp [h])
     simp
     omega
def dotP (l : List UInt8) : Bool := (splitP 46 l).all atomB
def dotGo : UInt8 → List UInt8 → Bool
 | last,[] => last != 46
 | last,c :: r => if c = 46 then (if last = 46 then false else dotGo 46 r) else if atc c then dotGo c r else false
theorem dotGo_both : ∀ (l : List UInt8) (last : UInt8),dotGo last l = if last = 46 then (splitP 46 l).all atomB else match splitP 46 l with | [] => true | p :: ps => p.all atc && ps.all atomB
 | [],last => by
  unfold dotGo
  by_cases h : last = 46
  ·subst h
   rfl
  ·rw [if_neg h]
   simp [splitP,h]
 | c :: r,last => by
  have ih := dotGo_both r
  unfold dotGo
  rw [splitP]
  by_cases hc : c = 46
  ·rw [if_pos hc,if_pos hc]
   by_cases h : last = 46
   ·rw [if_pos h,if_pos h]
    simp [atomB]
   ·rw [if_neg h,if_neg h,ih]
    simp
  ·rw [if_neg hc,if_neg hc]
   have h2 : ∀ p ps,splitP 46 r = p :: ps → (if atc c then dotGo c r else false) = (if last = 46 then ((c :: p) :: ps).all atomB else match (c :: p) :: ps with | [] => true | p :: ps => p.all atc && ps.all atomB) := by
    intro p ps hp
    by_cases ha : atc c = true
    ·rw [if_pos ha,ih,if_neg hc,hp]
     simp [atomB,ha]
    ·have ha' : atc c = false := by simpa using ha
     rw [if_neg ha]
     simp [atomB,ha']
   cases hp : splitP 46 r with
   | nil => exact absurd hp (splitP_ne _ _)
   | cons p ps => exact h2 p ps hp
theorem dot_eq (l : List UInt8) : dotGo 46 l = dotP l := by rw [dotGo_both,if_pos rfl]; rfl
def trimB (l : List UInt8) : List UInt8 := Lib.trimS l [32,9]
theorem trimB_def (l : List UInt8) : trimB l = ((l.reverse.dropWhile blk).reverse).dropWhile blk := by
 have h : ([32,9] : List UInt8).contains = blk := by
  funext c
  unfold blk
  rw [List.contains_cons,List.contains_cons]
  simp
 unfold trimB Lib.trimS Lib.trimLeftS Lib.trimRightS
 rw [show (fun x => ([32,9] : List UInt8).contains x) = blk from h]
theorem trimB_len (l : List UInt8) : (trimB l).length ≤ l.length := by
 rw [trimB_def]
 have h1 := (List.dropWhile_sublist blk (l := (l.reverse.dropWhile blk).reverse)).length_le
 have h2 := (List.dropWhile_sublist blk (l := l.reverse)).length_le
 simp at h1 h2
 omega
def lastCut (s : UInt8) : List UInt8 → Option (List UInt8)
 | [] => none
 | c :: r => match lastCut s r with | some t => some t | none => if c = s then some r else none
theorem lastCut_none {s : UInt8} : ∀ {l : List UInt8},s ∉ l → lastCut s l = none
 | [],_ => rfl
 | c :: r,h => by
  simp only [List.mem_cons,not_or] at h
  unfold lastCut
  rw [lastCut_none h.2,if_neg (Ne.symm h.1)]
theorem lastCut_some {s : UInt8} : ∀ {a b : List UInt8},s ∉ b → lastCut s (a ++ s :: b) = some b
 | [],b,h => by simp [lastCut,lastCut_none h]
 | c :: a,b,h => by
  show lastCut s (c :: (a ++ s :: b)) = _
  unfold lastCut
  rw [lastCut_some h]
theorem lastCut_lib (s : UInt8) (l : List UInt8) : (Lib.lastIndexByte (bs l) (s.toNat : Int) = -1 ∧ lastCut s l = none) ∨
  (∃ i : Nat,Lib.lastIndexByte (bs l) (s.toNat : Int) = (i : Int) ∧ i < l.length ∧ lastCut s l = some (l.drop (i + 1))) := by
 have at' : ∀ j,j < l.length → (bs l).data[j]! = l[j]! := fun j hj => by simp [bs,hj]
 rcases Lib.lastIdx_spec (bs l) (s.toNat : Int) (bs l).size with ⟨h1,h2⟩ | ⟨i,h0,h1,h2,h3⟩
 ·refine .inl ⟨h1,lastCut_none fun hm => ?_⟩
  obtain ⟨j,hj,e⟩ := List.mem_iff_getElem.1 hm
  refine h2 j (by rw [bs_size]; exact hj) ?_
  rw [at' j hj]
  simp [hj,e]
 ·rw [bs_size] at h0 h3
  refine .inr ⟨i,h1,h0,?_⟩
  have e : l[i] = s := by
   rw [at' i h0] at h2
   simp only [h0,getElem!_pos] at h2
   exact u8_eq.1 h2
  have hsp : l = l.take i ++ s :: l.drop (i + 1) := by
   rw [← e]
   simp
  conv => lhs; rw [hsp]
  apply lastCut_some
  intro hm
  obtain ⟨j,hj,e2⟩ := List.mem_iff_getElem.1 hm
  simp only [List.length_drop] at hj
  rw [List.getElem_drop] at e2
  refine h3 (i + 1 + j) (by omega) (by omega) ?_
  rw [at' _ (by omega)]
  simp only [show i + 1 + j < l.length by omega,getElem!_pos]
  rw [e2]
def addrIn (b : List UInt8) : Option (List UInt8) := if (trimB b).getLast? = some 62 then (lastCut 60 ((trimB b).dropLast)).map trimB else some (trimB b)
def addrAt (t : List UInt8) : Except Nat (List UInt8) := match cutAt 64 t with
 | none => .error 3
 | some (x,y) => if dotP x && dotP y then .ok (x ++ 64 :: y.map small) else .error 3
def addrP (l : List UInt8) : Except Nat (List UInt8) := match bareP l with
 | .error e => .error e
 | .ok b => match addrIn b with | none => .error 3 | some t => addrAt t
def idsN : Nat → List UInt8 → Except Nat (List (List UInt8))
 | 0,_ => .error 3
 | n + 1,l => match trimB l with
  | [] => .ok []
  | c :: r => if c = 60 then (match cutAt 62 r with
    | none => .error 3
    | some (id,t) => if onlyB idc id then (idsN n t).map fun o => id :: o else .error 3) else .error 3
theorem cutAt_len {s : UInt8} {l a b : List UInt8} (h : cutAt s l = some (a,b)) : a.length + b.length + 1 = l.length := by
 have := (cutAt_some h).1
 rw [this]
 simp
 omega
theorem idsN_fuel : ∀ (n m : Nat) (l : List UInt8),l.length < n → l.length < m → idsN n l = idsN m l
 | n + 1,m + 1,l,hn,hm => by
  rw [idsN,idsN]
  have hl := trimB_len l
  cases ht : trimB l with
  | nil => rfl
  | cons c r =>
   rw [ht] at hl
   simp only [List.length_cons] at hl
   simp only
   split
   ·cases hc : cutAt 62 r with
    | none => rfl
    | some p =>
     obtain ⟨id,t⟩ := p
     have := cutAt_len hc
     simp only
     rw [idsN_fuel n m t (by omega) (by omega)]
   ·rfl
 | 0,_,_,h,_ => absurd h (Nat.not_lt_zero _)
 | _ + 1,0,_,_,h => absurd h (Nat.not_lt_zero _)
def idsIn (l : List UInt8) : Except Nat (List (List UInt8)) := idsN (l.length + 1) l
theorem idsIn_eq (l : List UInt8) : idsIn l = match trimB l with
  | [] => .ok []
  | c :: r => if c = 60 then (match cutAt 62 r with
    | none => .error 3
    | some (id,t) => if onlyB idc id then (idsIn t).map fun o => id :: o else .error 3) else .error 3 := by
 unfold idsIn
 rw [idsN]
 have hl := trimB_len l
 cases ht : trimB l with
 | nil => rfl
 | cons c r =>
  rw [ht] at hl
  simp only [List.length_cons] at hl
  simp only
  split
  ·cases hc : cutAt 62 r with
   | none => rfl
   | some p =>
    obtain ⟨id,t⟩ := p
    have := cutAt_len hc
    simp only
    rw [idsN_fuel l.length (t.length + 1) t (by omega) (by omega)]
  ·rfl
def idsP (l : List UInt8) : Except Nat (List (List UInt8)) := match bareP l with
 | .error e => .error e
 | .ok b => idsIn b
end Tk
end
end Go.Proofs.YtkllecicddfjpaaGreatDoor
