/- The walk of the law, part 29. -/
import Derived.Test.YtkllecicddfjpaaGreatDoorJ18
import Derived.Test.YtkllecicddfjpaaGreatDoorJ03
import Derived.Test.YtkllecicddfjpaaGreatDoorJ10
import Derived.Test.YtkllecicddfjpaaGreatDoorChecked
set_option maxRecDepth 100000
set_option maxHeartbeats 16000000
set_option linter.unusedVariables false
set_option linter.unusedSimpArgs false
namespace Go.Proofs.YtkllecicddfjpaaGreatDoor
section
open Go.RowKit
def LinOut (b : List UInt8) (w : World) (e : Ending) (w' : World) : Prop :=
 ∃ A c A2 c2,e = .returned (.tuple #[.slice A (lns b).length c,.slice A2 (lns b).length c2]) ∧ (lns b).length ≤ c ∧ (lns b).length ≤ c2 ∧ RR w' A ((lns b).map (·.1)) ∧ RR w' A2 ((lns b).map (·.2)) ∧ Below w.heap.size w w'
structure LnM (b : List UInt8) (w : World) (base : Nat) (ov ev lv : Value) (ts us T : List Tl) (line rest : List UInt8) : Prop where
 mem : Mem w base [orr ov ts,orr ev us,obs lv line] T
 st : ∀ t ∈ ts,t ∈ T
 su : ∀ t ∈ us,t ∈ T
 eq : lns b = (ts.map (·.1)).zip (us.map (·.1)) ++ lnA line rest
 ln : ts.length = us.length
theorem lnA_len : ∀ (r cur : List UInt8),(lnA cur r).length ≤ r.length + 1
 | [],cur => by unfold lnA; split <;> simp
 | x :: r,cur => by
   unfold lnA
   split
   ·have := lnA_len r []
    simp
    omega
   ·have := lnA_len r (cur ++ [x])
    simp
    omega
theorem zip_snoc {α β : Type} : ∀ {l : List α} {m : List β} (a : α) (b : β),l.length = m.length → (l ++ [a]).zip (m ++ [b]) = l.zip m ++ [(a,b)]
 | [],[],_,_,_ => rfl
 | [],_ :: _,_,_,h => by simp at h
 | _ :: _,[],_,_,h => by simp at h
 | x :: l,y :: m,a,b,h => by simp at h; simp [zip_snoc a b h]
theorem drop_at {l : List UInt8} {k : Nat} {x : UInt8} (h : l[k]? = some x) : l.drop k = x :: l.drop (k + 1) := by
 have hk := lt_of_get h
 rw [← List.getElem_cons_drop hk]
 rw [List.getElem?_eq_getElem hk] at h
 rw [Option.some.inj h]
theorem nb_some {g o n c k : Nat} : nb (.slice (some ⟨g,o,none⟩) n c) k ↔ k = g := by simp [nb,Value.ownBlock,eq_comm]
theorem fresh0 (w : World) (base : Nat) (e : TypeId) (h : base ≤ w.heap.size) : OwnM (w.alloc (.cells #[] e)) base e 1 (.slice (some ⟨w.heap.size,0,none⟩) 0 0) 0 [] :=
 (OwnM.of (World.ownsRow_made (base := w.heap.size) (e := e) (size := 1) w #[] 0 (Nat.le_refl _) (by unfold maxLen; omega) rfl)).rebase h
theorem fresh1 (w : World) (base : Nat) (e : TypeId) (h : base ≤ w.heap.size) {g : Nat} (hg : g = w.heap.size) : OwnM (w.alloc (.cells #[] e)) base e 1 (.slice (some ⟨g,0,none⟩) 0 0) 0 [] := by
 subst hg
 exact fresh0 w base e h
theorem freshB (w : World) (base : Nat) (l : List UInt8) (cs : Array Value) (hcs : cs = (l.map bv).toArray) (h : base ≤ w.heap.size) {g : Nat} (hg : g = w.heap.size) (hl : l.length ≤ 1000000) : OwnM (w.alloc (.cells cs 5)) base 5 1 (.slice (some ⟨g,0,none⟩) l.length l.length) l.length (l.map bv) := by
 subst hg
 subst hcs
 exact ⟨by simp,.inr ⟨w.heap.size,l.length,(l.map bv).toArray,(0,0),rfl,h,World.alloc_heap_new w _,.inl rfl,Nat.le_refl _,by unfold maxLen; omega,by simp,by simp only [Nat.mul_one,List.toList_toArray]; exact List.take_of_length_le (by simp)⟩⟩
theorem Rv_at (w : World) (cs : Array Value) (xs : List Value) (t : TypeId) (h : cs = xs.toArray) {g : Nat} (hg : g = w.heap.size) : Rv (w.alloc (.cells cs t)) (some ⟨g,0,none⟩) xs := by
 subst hg
 exact Rv_new w cs xs t h
theorem lnA_no {x : UInt8} {cur r : List UInt8} (h : x ≠ 10) : lnA cur (x :: r) = lnA (cur ++ [x]) r := by rw [lnA,if_neg h]
theorem lnA_last {cur : List UInt8} (h : cur ≠ []) : lnA cur [] = (cur,[]) :: lnA [] [] := by simp [lnA,h]
theorem ln_step {b l e rest : List UInt8} {v u : Value} {ts us : List Tl} (h : lns b = (ts.map (·.1)).zip (us.map (·.1)) ++ (l,e) :: lnA [] rest) (hl : ts.length = us.length) :
 lns b = ((ts ++ [(l,v)]).map (·.1)).zip ((us ++ [(e,u)]).map (·.1)) ++ lnA [] rest := by
 rw [h,List.map_append,List.map_append]
 show _ = (_ ++ [l]).zip (_ ++ [e]) ++ _
 rw [zip_snoc _ _ (by simp [hl])]
 simp
theorem own_orr {w : World} {base : Nat} {v V : Value} {ts : List Tl} {l : List UInt8} (h : OwnM w base 22 1 v (ts.length + 1) (ts.map (·.2) ++ [V])) :
 OwnM w base (orr v (ts ++ [(l,V)])).e (orr v (ts ++ [(l,V)])).size (orr v (ts ++ [(l,V)])).v (orr v (ts ++ [(l,V)])).n (orr v (ts ++ [(l,V)])).xs := by
 show OwnM w base _ 1 v (ts ++ [(l,V)]).length ((ts ++ [(l,V)]).map (·.2))
 rw [List.length_append,List.map_append]
 exact h
theorem own_obs {w : World} {base : Nat} {v : Value} {l m : List UInt8} (h : OwnM w base 5 1 v (l.length + m.length) (l.map bv ++ m.map bv)) :
 OwnM w base (obs v (l ++ m)).e (obs v (l ++ m)).size (obs v (l ++ m)).v (obs v (l ++ m)).n (obs v (l ++ m)).xs := by
 show OwnM w base _ 1 v (l ++ m).length ((l ++ m).map bv)
 rw [List.length_append,List.map_append]
 exact h
theorem at_new {v v' : Value} {N : Nat} {k : Nat} (h : v'.ownBlock = v.ownBlock ∨ v'.ownBlock = some N) (hk : nb v' k) : nb v k ∨ N ≤ k := by
 unfold nb at hk ⊢
 rcases h with h | h
 ·rw [h] at hk; exact .inl hk
 ·rw [h] at hk
  cases hk
  exact .inr (Nat.le_refl _)
theorem zip_fst {α β : Type} : ∀ {l : List α} {m : List β},l.length = m.length → (l.zip m).map (·.1) = l
 | [],[],_ => rfl
 | [],_ :: _,h => by simp at h
 | _ :: _,[],h => by simp at h
 | x :: l,y :: m,h => by simp at h; simp [zip_fst h]
theorem zip_snd {α β : Type} : ∀ {l : List α} {m : List β},l.length = m.length → (l.zip m).map (·.2) = m
 | [],[],_ => rfl
 | [],_ :: _,h => by simp at h
 | _ :: _,[],h => by simp at h
 | x :: l,y :: m,h => by simp at h; simp [zip_snd h]
theorem ln_fst {b l : List UInt8} {v : Value} {ts us : List Tl} (h : lns b = (ts.map (·.1)).zip (us.map (·.1)) ++ (l,[]) :: lnA [] []) (hl : ts.length = us.length) : (lns b).map (·.1) = (ts ++ [(l,v)]).map (·.1) := by
 rw [h,List.map_append,zip_fst (by simp [hl])]
 simp [lnA]
theorem ln_snd {b l : List UInt8} {v : Value} {ts us : List Tl} (h : lns b = (ts.map (·.1)).zip (us.map (·.1)) ++ (l,[]) :: lnA [] []) (hl : ts.length = us.length) : (lns b).map (·.2) = (us ++ [(([] : List UInt8),v)]).map (·.1) := by
 rw [h,List.map_append,zip_snd (by simp [hl])]
 simp [lnA]
theorem Mem.two {w : World} {base : Nat} {a b c : Ow} {T : List Tl} (h : Mem w base [a,b,c] T) : Mem w base [a,b] T := by
 refine ⟨fun o ho => h.own o (by simp at ho ⊢; rcases ho with h | h <;> simp [h]),fun i j u v hij hu hv => ?_,fun t ht => ⟨(h.ls t ht).1,fun k hk u hu => (h.ls t ht).2 k hk u (by simp at hu ⊢; rcases hu with h | h <;> simp [h])⟩⟩
 have e : ∀ (i : Nat) (u : Value),([a,b].map (·.v))[i]? = some u → ([a,b,c].map (·.v))[i]? = some u := by
  intro i u h
  rcases i with _ | _ | i
  ·exact h
  ·exact h
  ·simp at h
 exact h.sep i j u v hij (e i u hu) (e j v hv)
theorem fin_pre {w W3 : World} {v3 ve : Value} {ts us T : List Tl} {lv : Value} {line : List UInt8} (hm3 : Mem W3 w.heap.size [orr v3 ts,orr ve us,obs lv line] T) (hb3 : Below w.heap.size w W3) :
 Mem ((W3.alloc (.cells #[] 5)).alloc (.cells #[Value.slice (some ⟨W3.heap.size,0,none⟩) 0 0] 22)) w.heap.size [orr v3 ts,orr ve us,obs lv line] (T ++ [([],Value.slice (some ⟨W3.heap.size,0,none⟩) 0 0)]) ∧
 Below w.heap.size w ((W3.alloc (.cells #[] 5)).alloc (.cells #[Value.slice (some ⟨W3.heap.size,0,none⟩) 0 0] 22)) ∧
 OwnM ((W3.alloc (.cells #[] 5)).alloc (.cells #[Value.slice (some ⟨W3.heap.size,0,none⟩) 0 0] 22)) w.heap.size 22 1 ve us.length (us.map (·.2)) ∧
 Rv ((W3.alloc (.cells #[] 5)).alloc (.cells #[Value.slice (some ⟨W3.heap.size,0,none⟩) 0 0] 22)) (some ⟨W3.heap.size + 1,0,none⟩) [Value.slice (some ⟨W3.heap.size,0,none⟩) 0 0] ∧
 (∀ u ∈ [Value.slice (some ⟨W3.heap.size,0,none⟩) 0 0],u.oneCell' = true) ∧ [Value.slice (some ⟨W3.heap.size,0,none⟩) 0 0].length = 1 * 1 ∧
 w.heap.size ≤ ((W3.alloc (.cells #[] 5)).alloc (.cells #[Value.slice (some ⟨W3.heap.size,0,none⟩) 0 0] 22)).heap.size := by
 have hs := hb3.size
 have h1 : Below W3.heap.size W3 (W3.alloc (.cells #[] 5)) := (Below.refl _ _).alloc (Nat.le_refl _) _
 have h2 : Below (W3.alloc (.cells #[] 5)).heap.size (W3.alloc (.cells #[] 5)) ((W3.alloc (.cells #[] 5)).alloc (.cells #[Value.slice (some ⟨W3.heap.size,0,none⟩) 0 0] 22)) := (Below.refl _ _).alloc (Nat.le_refl _) _
 have hm4 := (hm3.add (v := Value.slice (some ⟨W3.heap.size,0,none⟩) 0 0) (l := []) h1 (fresh0 W3 w.heap.size 5 hs) (fun k hk => by have := nb_some.1 hk; omega)).below h2
 exact ⟨hm4,(hb3.trans (h1.mono hs)).trans (h2.mono (by simp; omega)),hm4.get (i := 1) rfl,Rv_at (W3.alloc (.cells #[] 5)) _ _ _ rfl (by simp),by simp [Value.oneCell'],rfl,by simp; omega⟩
theorem rlines_any (A : Option Addr) (b : List UInt8) (n c : Nat) (w : World) (hn : b.length = n) (hA : Rb w A b) (hnc : n ≤ c) (hb : n ≤ 2000000) :
 Calls Tryz.prog 144 #[.slice A n c] w (LinOut b w) := by
 have HN := Lib.hid hn
 have hpu : ∀ W,Sem.run Tryz.prog (pure #[] : Sem (Array Value)) W = .ok #[] W := fun _ => rfl
 have hst : ∀ a W,Sem.run Tryz.prog (storeCells a []) W = .ok () W := fun _ _ => rfl
 go_enter Tryz.func144,Tryz.ntmps144
 go_wp2_with fail
 have hB3 : Below w.heap.size w (((w.alloc (.cells #[] 22)).alloc (.cells #[] 22)).alloc (.cells #[] 5)) := (((Below.refl _ w).alloc (Nat.le_refl _) _).alloc (by simp) _).alloc (by simp; omega) _
 have hm0 : Mem (((w.alloc (.cells #[] 22)).alloc (.cells #[] 22)).alloc (.cells #[] 5)) w.heap.size [orr (.slice (some ⟨w.heap.size,0,none⟩) 0 0) [],orr (.slice (some ⟨w.heap.size + 1,0,none⟩) 0 0) [],obs (.slice (some ⟨w.heap.size + 1 + 1,0,none⟩) 0 0) []] [] := by
  have a1 := (Mem.nil w w.heap.size).cons (o' := orr (.slice (some ⟨w.heap.size,0,none⟩) 0 0) []) (w' := w.alloc (.cells #[] 22)) ((Below.refl _ _).alloc (Nat.le_refl _) _) (fresh0 w w.heap.size 22 (Nat.le_refl _)) (fun k hk => by have := nb_some.1 hk; omega)
  have a2 := a1.cons (o' := orr (.slice (some ⟨w.heap.size + 1,0,none⟩) 0 0) []) (w' := (w.alloc (.cells #[] 22)).alloc (.cells #[] 22)) ((Below.refl _ _).alloc (Nat.le_refl _) _) (fresh1 (w.alloc (.cells #[] 22)) w.heap.size 22 (by simp) (by simp)) (fun k hk => by have := nb_some.1 hk; simp; omega)
  exact a2.cons (o' := obs (.slice (some ⟨w.heap.size + 1 + 1,0,none⟩) 0 0) []) ((Below.refl _ _).alloc (Nat.le_refl _) _) (fresh1 ((w.alloc (.cells #[] 22)).alloc (.cells #[] 22)) w.heap.size 5 (by simp; omega) (by simp)) (fun k hk => by have := nb_some.1 hk; simp; omega)
 go_loopw [4,5,6,7] (fun ov ev lv i wr => ∃ (q : Nat) (ts us T : List Tl) (line : List UInt8),i = .int .i64 q ∧ q ≤ n ∧ ts.length ≤ q ∧ us.length ≤ q ∧ line.length ≤ q ∧ Hid (LnM b wr w.heap.size ov ev lv ts us T line (b.drop q)) ∧ Below w.heap.size w wr) (fun _ _ _ i _ => n - (intOf i).toNat)
 case atStart => exact ⟨0,[],[],[],[],rfl,by omega,by simp,by simp,by simp,Lib.hid ⟨hm0,by simp,by simp,by simp [lns],rfl⟩,hB3⟩
 case round =>
  clear hm0 hB3 hn
  obtain ⟨q,ts,us,T,line,rfl,hq,ht1,ht2,hll,hm,hB⟩ := hrel
  have hs := hB.size
  have hmm := hm.out.mem
  obtain ⟨Ao,co,hov,_,_,_,_,_,_⟩ := (hmm.get (i := 0) rfl).form
  obtain ⟨Ae,ce,hev,_,_,_,_,_,_⟩ := (hmm.get (i := 1) rfl).form
  obtain ⟨Al,cl,hlv,hlc,hlm,hRl,_,_,_⟩ := (hmm.get (i := 2) rfl).form
  simp only [orr,obs] at hov hev hlv hlc
  subst hov
  subst hev
  subst hlv
  have hRl : Rb wr Al line := hRl
  have HE := Lib.hid hm.out.eq
  have HL := Lib.hid hm.out.ln
  have HS1 := Lib.hid hm.out.st
  have HS2 := Lib.hid hm.out.su
  clear hm
  by_cases hlt : q < n
  ·obtain ⟨b0,o0,x,rfl,hx,cx⟩ := hA.one (k := q) (by rw [HN.out]; exact hlt)
   have cx' : wr.cell? ⟨b0,o0 + q,none⟩ = some (.int .u8 (x.toNat : Int)) := (hB.cell (p := ⟨b0,o0 + q,none⟩) (cell_lt cx)).trans cx
   have t10 : ((x.toNat : Int) == 10) = (x == 10) := u8_beq x 10
   have hdr := drop_at hx.out
   rw [hdr] at HE
   by_cases h10 : x = 10
   ·have hb10 : ((x.toNat : Int) == 10) = true := by rw [t10,h10]; rfl
    have HE2 := Lib.hid (show lns b = (ts.map (·.1)).zip (us.map (·.1)) ++ endl line :: lnA [] (b.drop (q + 1)) by rw [HE.out,h10]; rfl)
    clear t10 hdr hx cx HE h10
    by_cases hcr : line.getLast? = some 13
    ·obtain ⟨d,rfl⟩ := snoc_of hcr
     have hen : endl (d ++ [13]) = (d,[13,10]) := by unfold endl; rw [if_pos hcr]; simp
     have HEN := Lib.hid hen
     obtain ⟨b1,o1,y,rfl,hy,cy⟩ := hRl.one (k := d.length) (by simp)
     have hy13 : y = 13 := by have := hy.out; simp at this; exact this.symm
     subst hy13
     have hb1l : b1 < wr.heap.size := cell_lt cy
     have hdl : (d ++ [(13 : UInt8)]).length = d.length + 1 := by simp
     have h0 : OwnM wr w.heap.size 5 1 (.slice (some ⟨b1,o1,none⟩) (d ++ [(13 : UInt8)]).length cl) (d ++ [(13 : UInt8)]).length ((d ++ [(13 : UInt8)]).map bv) := hmm.get (i := 2) rfl
     have h1 : OwnM wr w.heap.size 5 1 (.slice (some ⟨b1,o1,none⟩) d.length cl) d.length (d.map bv) := by
      have h2 := h0.cut (k := d.length) (by simp)
      rwa [← List.map_take,List.take_left' rfl] at h2
     have hm01 : Mem wr w.heap.size [orr (.slice Ao ts.length co) ts,orr (.slice Ae us.length ce) us,obs (.slice (some ⟨b1,o1,none⟩) d.length cl) d] T := hmm.upd (i := 2) (o' := obs (.slice (some ⟨b1,o1,none⟩) d.length cl) d) rfl (Ext.refl _ _) h1 (fun k hk => .inl hk)
     rw [hdl] at hlc hll ⊢
     clear h0 h1 hmm hdl hRl hcr hen hy
     have hle : ts.length + 1 ≤ 2000001 ∧ us.length + 1 ≤ 2000001 := by omega
     have hal1 : Below wr.heap.size wr (wr.alloc (.cells #[.int .u8 10] 5)) := (Below.refl _ _).alloc (Nat.le_refl _) _
     have hal2 : Below (wr.alloc (.cells #[.int .u8 10] 5)).heap.size (wr.alloc (.cells #[.int .u8 10] 5)) ((wr.alloc (.cells #[.int .u8 10] 5)).alloc (.cells #[.int .u8 13,.int .u8 10] 5)) := (Below.refl _ _).alloc (Nat.le_refl _) _
     have hBW1 : Below w.heap.size w ((wr.alloc (.cells #[.int .u8 10] 5)).alloc (.cells #[.int .u8 13,.int .u8 10] 5)) := (hB.trans (hal1.mono hs)).trans (hal2.mono (by simp; omega))
     have hm1 := (hm01.below hal1).add (v := Value.slice (some ⟨wr.heap.size + 1,0,none⟩) 2 2) (l := [13,10]) hal2 (freshB _ w.heap.size [13,10] _ rfl (by simp; omega) (by simp) (by simp)) (fun k hk => by have := nb_some.1 hk; simp; omega)
     have hO1 : OwnM (((wr.alloc (.cells #[.int .u8 10] 5)).alloc (.cells #[.int .u8 13,.int .u8 10] 5)).alloc (.cells #[(Value.slice (some ⟨b1,o1,none⟩) d.length cl)] 22)) w.heap.size 22 1 (Value.slice Ao ts.length co) ts.length (ts.map (·.2)) := (hm1.get (i := 0) rfl).alloc _
     have hm2 : Mem (((wr.alloc (.cells #[.int .u8 10] 5)).alloc (.cells #[.int .u8 13,.int .u8 10] 5)).alloc (.cells #[(Value.slice (some ⟨b1,o1,none⟩) d.length cl)] 22)) w.heap.size [orr (Value.slice Ao ts.length co) ts,orr (Value.slice Ae us.length ce) us,obs (Value.slice (some ⟨b1,o1,none⟩) d.length cl) d] (T ++ [([13,10],Value.slice (some ⟨wr.heap.size + 1,0,none⟩) 2 2)]) := hm1.below ((Below.refl _ _).alloc (Nat.le_refl _) _)
     have hz1 : w.heap.size ≤ ((wr.alloc (.cells #[.int .u8 10] 5)).alloc (.cells #[.int .u8 13,.int .u8 10] 5)).heap.size := by simp; omega
     have hbase1 : w.heap.size ≤ (((wr.alloc (.cells #[.int .u8 10] 5)).alloc (.cells #[.int .u8 13,.int .u8 10] 5)).alloc (.cells #[(Value.slice (some ⟨b1,o1,none⟩) d.length cl)] 22)).heap.size := by simp; omega
     have hrv1 : Rv (((wr.alloc (.cells #[.int .u8 10] 5)).alloc (.cells #[.int .u8 13,.int .u8 10] 5)).alloc (.cells #[(Value.slice (some ⟨b1,o1,none⟩) d.length cl)] 22)) (some ⟨wr.heap.size + 1 + 1,0,none⟩) [(Value.slice (some ⟨b1,o1,none⟩) d.length cl)] := Rv_at ((wr.alloc (.cells #[.int .u8 10] 5)).alloc (.cells #[.int .u8 13,.int .u8 10] 5)) _ _ _ rfl (by simp)
     have hone1 : ∀ u ∈ [(Value.slice (some ⟨b1,o1,none⟩) d.length cl)],u.oneCell' = true := by simp [Value.oneCell']
     have hone2 : ∀ u ∈ [(Value.slice (some ⟨wr.heap.size + 1,0,none⟩) 2 2)],u.oneCell' = true := by simp [Value.oneCell']
     have hbd1 : (ts.length + 1) * 24 ≤ 140737488355328 := by omega
     have hbd2 : (us.length + 1) * 24 ≤ 140737488355328 := by omega
     have hnl1 : [(Value.slice (some ⟨b1,o1,none⟩) d.length cl)].length = 1 * 1 := rfl
     have hnl2 : [(Value.slice (some ⟨wr.heap.size + 1,0,none⟩) 2 2)].length = 1 * 1 := rfl
     go_wp2_with (first | (at_builtin; refine wpList_appM rfl _ _ _ _ rfl TBs hO1 rfl (Src_rv Tryz.underlying66 hnl1 hrv1 hone1 Nat.one_pos) rfl hbd1 hbase1 ?_; intro v3 W3 own3 gr3 at3; have hm3 : Mem W3 w.heap.size [orr v3 (ts ++ [(d,(Value.slice (some ⟨b1,o1,none⟩) d.length cl))]),orr (Value.slice Ae us.length ce) us,obs (Value.slice (some ⟨b1,o1,none⟩) d.length cl) d] (T ++ [([13,10],Value.slice (some ⟨wr.heap.size + 1,0,none⟩) 2 2)]) := (hm2.upd (i := 0) (o' := orr v3 (ts ++ [(d,(Value.slice (some ⟨b1,o1,none⟩) d.length cl))])) rfl (Ext.of_grown (S := fun k => nb (Value.slice Ao ts.length co) k) gr3 (fun k e => e)) (own_orr own3) (fun k hk => at_new at3 hk)); have hs3 := gr3.size; have hbase2 : w.heap.size ≤ (W3.alloc (.cells #[(Value.slice (some ⟨wr.heap.size + 1,0,none⟩) 2 2)] 22)).heap.size := Nat.le_trans (Nat.le_trans hbase1 hs3) (by rw [World.size_alloc]; exact Nat.le_succ _); have hO2 : OwnM (W3.alloc (.cells #[(Value.slice (some ⟨wr.heap.size + 1,0,none⟩) 2 2)] 22)) w.heap.size 22 1 (Value.slice Ae us.length ce) us.length (us.map (·.2)) := (hm3.get (i := 1) rfl).alloc _) | (at_builtin; refine wpList_appM rfl _ _ _ _ rfl TBs hO2 rfl (Src_rv Tryz.underlying66 hnl2 (Rv_new W3 _ _ _ rfl) hone2 Nat.one_pos) rfl hbd2 hbase2 ?_; intro v5 W5 own5 gr5 at5; have hm5 : Mem W5 w.heap.size [orr v3 (ts ++ [(d,(Value.slice (some ⟨b1,o1,none⟩) d.length cl))]),orr v5 (us ++ [([13,10],(Value.slice (some ⟨wr.heap.size + 1,0,none⟩) 2 2))]),obs (Value.slice (some ⟨b1,o1,none⟩) d.length cl) d] (T ++ [([13,10],Value.slice (some ⟨wr.heap.size + 1,0,none⟩) 2 2)]) := ((hm3.below ((Below.refl _ _).alloc (Nat.le_refl _) _)).upd (i := 1) (o' := orr v5 (us ++ [([13,10],(Value.slice (some ⟨wr.heap.size + 1,0,none⟩) 2 2))])) rfl (Ext.of_grown (S := fun k => nb (Value.slice Ae us.length ce) k) gr5 (fun k e => e)) (own_orr own5) (fun k hk => at_new at5 hk)); have hs5 := gr5.size))
     have hb1 : Below w.heap.size w ((wr.alloc (.cells #[.int .u8 10] 5)).alloc (.cells #[.int .u8 13,.int .u8 10] 5)) := hBW1
     have hb3 : Below w.heap.size w W3 := below_appM (hb1.trans ((Below.refl _ _).alloc (by simp; omega) _)) hO1 gr3 (by simp; omega) (Nat.le_refl _)
     have hb5 : Below w.heap.size w W5 := below_appM (hb3.trans ((Below.refl _ _).alloc (by simp at hs3 ⊢; omega) _)) hO2 gr5 (by simp at hs3 ⊢; omega) (Nat.le_refl _)
     have hz5 : w.heap.size ≤ W5.heap.size := hb5.size
     go_roundw
     case rel =>
      have hB6 : Below W5.heap.size W5 (W5.alloc (.cells #[] 5)) := (Below.refl _ _).alloc (Nat.le_refl _) _
      have hm6 := hm5.push (i := 2) (v := (Value.slice (some ⟨b1,o1,none⟩) d.length cl)) (l := d) (o' := obs (.slice (some ⟨W5.heap.size,0,none⟩) 0 0) []) rfl hB6 (fresh0 W5 w.heap.size 5 hz5) (fun k hk => by have := nb_some.1 hk; omega)
      refine ⟨q + 1,ts ++ [(d,(Value.slice (some ⟨b1,o1,none⟩) d.length cl))],us ++ [([13,10],(Value.slice (some ⟨wr.heap.size + 1,0,none⟩) 2 2))],_,[],by go_num,by omega,by simp; omega,by simp; omega,by simp,Lib.hid ⟨hm6,?_,?_,?_,by simp [HL.out]⟩,hb5.trans (hB6.mono hz5)⟩
      ·intro t ht
       rcases List.mem_append.1 ht with ht | ht
       ·have := HS1.out t ht; simp [this]
       ·simp only [List.mem_singleton] at ht; subst ht; simp
      ·intro t ht
       rcases List.mem_append.1 ht with ht | ht
       ·have := HS2.out t ht; simp [this]
       ·simp only [List.mem_singleton] at ht; subst ht; simp
      ·exact ln_step (by rw [HE2.out,HEN.out]) HL.out
     case measure => simp [intOf]; omega
    ·have hen : endl line = (line,[10]) := by unfold endl; rw [if_neg hcr]
     have HEN := Lib.hid hen
     have hmm : Mem wr w.heap.size [orr (.slice Ao ts.length co) ts,orr (.slice Ae us.length ce) us,obs (.slice Al line.length cl) line] T := hmm
     have hle : ts.length + 1 ≤ 2000001 ∧ us.length + 1 ≤ 2000001 := by omega
     have hal1 : Below wr.heap.size wr (wr.alloc (.cells #[.int .u8 10] 5)) := (Below.refl _ _).alloc (Nat.le_refl _) _
     have hBW1 : Below w.heap.size w (wr.alloc (.cells #[.int .u8 10] 5)) := hB.trans (hal1.mono hs)
     have hm1 := hmm.add (v := Value.slice (some ⟨wr.heap.size,0,none⟩) 1 1) (l := [10]) hal1 (freshB _ w.heap.size [10] _ rfl hs rfl (by simp)) (fun k hk => by have := nb_some.1 hk; omega)
     have hcase : ¬ (0 : Int) < (line.length : Int) ∨ ((0 : Int) < (line.length : Int) ∧ ∃ (b1 o1 : Nat) (y : UInt8),Al = some ⟨b1,o1,none⟩ ∧ ((y.toNat : Int) == 13) = false ∧ wr.cell? ⟨b1,o1 + (line.length - 1),none⟩ = some (.int .u8 (y.toNat : Int)) ∧ b1 < wr.heap.size) := by
      by_cases h0 : 0 < line.length
      ·right
       obtain ⟨b1,o1,y,e,hy,cy⟩ := hRl.one (k := line.length - 1) (by omega)
       refine ⟨by omega,b1,o1,y,e,?_,cy,cell_lt cy⟩
       rw [show ((y.toNat : Int) == 13) = (y == 13) from u8_beq y 13,beq_eq_false_iff_ne]
       rintro rfl
       exact hcr (by rw [List.getLast?_eq_getElem?]; exact hy.out)
      ·left
       omega
     clear hen hmm hRl hcr
     rcases hcase with k0 | ⟨k0,b1,o1,y,rfl,k13,cy,hb1l⟩
     ·have hO1 : OwnM ((wr.alloc (.cells #[.int .u8 10] 5)).alloc (.cells #[(Value.slice Al line.length cl)] 22)) w.heap.size 22 1 (Value.slice Ao ts.length co) ts.length (ts.map (·.2)) := (hm1.get (i := 0) rfl).alloc _
      have hm2 : Mem ((wr.alloc (.cells #[.int .u8 10] 5)).alloc (.cells #[(Value.slice Al line.length cl)] 22)) w.heap.size [orr (Value.slice Ao ts.length co) ts,orr (Value.slice Ae us.length ce) us,obs (Value.slice Al line.length cl) line] (T ++ [([10],Value.slice (some ⟨wr.heap.size,0,none⟩) 1 1)]) := hm1.below ((Below.refl _ _).alloc (Nat.le_refl _) _)
      have hz1 : w.heap.size ≤ (wr.alloc (.cells #[.int .u8 10] 5)).heap.size := by simp; omega
      have hbase1 : w.heap.size ≤ ((wr.alloc (.cells #[.int .u8 10] 5)).alloc (.cells #[(Value.slice Al line.length cl)] 22)).heap.size := by simp; omega
      have hrv1 : Rv ((wr.alloc (.cells #[.int .u8 10] 5)).alloc (.cells #[(Value.slice Al line.length cl)] 22)) (some ⟨wr.heap.size + 1,0,none⟩) [(Value.slice Al line.length cl)] := Rv_at (wr.alloc (.cells #[.int .u8 10] 5)) _ _ _ rfl (by simp)
      have hone1 : ∀ u ∈ [(Value.slice Al line.length cl)],u.oneCell' = true := by simp [Value.oneCell']
      have hone2 : ∀ u ∈ [(Value.slice (some ⟨wr.heap.size,0,none⟩) 1 1)],u.oneCell' = true := by simp [Value.oneCell']
      have hbd1 : (ts.length + 1) * 24 ≤ 140737488355328 := by omega
      have hbd2 : (us.length + 1) * 24 ≤ 140737488355328 := by omega
      have hnl1 : [(Value.slice Al line.length cl)].length = 1 * 1 := rfl
      have hnl2 : [(Value.slice (some ⟨wr.heap.size,0,none⟩) 1 1)].length = 1 * 1 := rfl
      go_wp2_with (first | (at_builtin; refine wpList_appM rfl _ _ _ _ rfl TBs hO1 rfl (Src_rv Tryz.underlying66 hnl1 hrv1 hone1 Nat.one_pos) rfl hbd1 hbase1 ?_; intro v3 W3 own3 gr3 at3; have hm3 : Mem W3 w.heap.size [orr v3 (ts ++ [(line,(Value.slice Al line.length cl))]),orr (Value.slice Ae us.length ce) us,obs (Value.slice Al line.length cl) line] (T ++ [([10],Value.slice (some ⟨wr.heap.size,0,none⟩) 1 1)]) := (hm2.upd (i := 0) (o' := orr v3 (ts ++ [(line,(Value.slice Al line.length cl))])) rfl (Ext.of_grown (S := fun k => nb (Value.slice Ao ts.length co) k) gr3 (fun k e => e)) (own_orr own3) (fun k hk => at_new at3 hk)); have hs3 := gr3.size; have hbase2 : w.heap.size ≤ (W3.alloc (.cells #[(Value.slice (some ⟨wr.heap.size,0,none⟩) 1 1)] 22)).heap.size := Nat.le_trans (Nat.le_trans hbase1 hs3) (by rw [World.size_alloc]; exact Nat.le_succ _); have hO2 : OwnM (W3.alloc (.cells #[(Value.slice (some ⟨wr.heap.size,0,none⟩) 1 1)] 22)) w.heap.size 22 1 (Value.slice Ae us.length ce) us.length (us.map (·.2)) := (hm3.get (i := 1) rfl).alloc _) | (at_builtin; refine wpList_appM rfl _ _ _ _ rfl TBs hO2 rfl (Src_rv Tryz.underlying66 hnl2 (Rv_new W3 _ _ _ rfl) hone2 Nat.one_pos) rfl hbd2 hbase2 ?_; intro v5 W5 own5 gr5 at5; have hm5 : Mem W5 w.heap.size [orr v3 (ts ++ [(line,(Value.slice Al line.length cl))]),orr v5 (us ++ [([10],(Value.slice (some ⟨wr.heap.size,0,none⟩) 1 1))]),obs (Value.slice Al line.length cl) line] (T ++ [([10],Value.slice (some ⟨wr.heap.size,0,none⟩) 1 1)]) := ((hm3.below ((Below.refl _ _).alloc (Nat.le_refl _) _)).upd (i := 1) (o' := orr v5 (us ++ [([10],(Value.slice (some ⟨wr.heap.size,0,none⟩) 1 1))])) rfl (Ext.of_grown (S := fun k => nb (Value.slice Ae us.length ce) k) gr5 (fun k e => e)) (own_orr own5) (fun k hk => at_new at5 hk)); have hs5 := gr5.size))
      have hb1 : Below w.heap.size w (wr.alloc (.cells #[.int .u8 10] 5)) := hBW1
      have hb3 : Below w.heap.size w W3 := below_appM (hb1.trans ((Below.refl _ _).alloc (by simp; omega) _)) hO1 gr3 (by simp; omega) (Nat.le_refl _)
      have hb5 : Below w.heap.size w W5 := below_appM (hb3.trans ((Below.refl _ _).alloc (by simp at hs3 ⊢; omega) _)) hO2 gr5 (by simp at hs3 ⊢; omega) (Nat.le_refl _)
      have hz5 : w.heap.size ≤ W5.heap.size := hb5.size
      go_roundw
      case rel =>
       have hB6 : Below W5.heap.size W5 (W5.alloc (.cells #[] 5)) := (Below.refl _ _).alloc (Nat.le_refl _) _
       have hm6 := hm5.push (i := 2) (v := (Value.slice Al line.length cl)) (l := line) (o' := obs (.slice (some ⟨W5.heap.size,0,none⟩) 0 0) []) rfl hB6 (fresh0 W5 w.heap.size 5 hz5) (fun k hk => by have := nb_some.1 hk; omega)
       refine ⟨q + 1,ts ++ [(line,(Value.slice Al line.length cl))],us ++ [([10],(Value.slice (some ⟨wr.heap.size,0,none⟩) 1 1))],_,[],by go_num,by omega,by simp; omega,by simp; omega,by simp,Lib.hid ⟨hm6,?_,?_,?_,by simp [HL.out]⟩,hb5.trans (hB6.mono hz5)⟩
       ·intro t ht
        rcases List.mem_append.1 ht with ht | ht
        ·have := HS1.out t ht; simp [this]
        ·simp only [List.mem_singleton] at ht; subst ht; simp
       ·intro t ht
        rcases List.mem_append.1 ht with ht | ht
        ·have := HS2.out t ht; simp [this]
        ·simp only [List.mem_singleton] at ht; subst ht; simp
       ·exact ln_step (by rw [HE2.out,HEN.out]) HL.out
      case measure => simp [intOf]; omega
     ·have hO1 : OwnM ((wr.alloc (.cells #[.int .u8 10] 5)).alloc (.cells #[(Value.slice (some ⟨b1,o1,none⟩) line.length cl)] 22)) w.heap.size 22 1 (Value.slice Ao ts.length co) ts.length (ts.map (·.2)) := (hm1.get (i := 0) rfl).alloc _
      have hm2 : Mem ((wr.alloc (.cells #[.int .u8 10] 5)).alloc (.cells #[(Value.slice (some ⟨b1,o1,none⟩) line.length cl)] 22)) w.heap.size [orr (Value.slice Ao ts.length co) ts,orr (Value.slice Ae us.length ce) us,obs (Value.slice (some ⟨b1,o1,none⟩) line.length cl) line] (T ++ [([10],Value.slice (some ⟨wr.heap.size,0,none⟩) 1 1)]) := hm1.below ((Below.refl _ _).alloc (Nat.le_refl _) _)
      have hz1 : w.heap.size ≤ (wr.alloc (.cells #[.int .u8 10] 5)).heap.size := by simp; omega
      have hbase1 : w.heap.size ≤ ((wr.alloc (.cells #[.int .u8 10] 5)).alloc (.cells #[(Value.slice (some ⟨b1,o1,none⟩) line.length cl)] 22)).heap.size := by simp; omega
      have hrv1 : Rv ((wr.alloc (.cells #[.int .u8 10] 5)).alloc (.cells #[(Value.slice (some ⟨b1,o1,none⟩) line.length cl)] 22)) (some ⟨wr.heap.size + 1,0,none⟩) [(Value.slice (some ⟨b1,o1,none⟩) line.length cl)] := Rv_at (wr.alloc (.cells #[.int .u8 10] 5)) _ _ _ rfl (by simp)
      have hone1 : ∀ u ∈ [(Value.slice (some ⟨b1,o1,none⟩) line.length cl)],u.oneCell' = true := by simp [Value.oneCell']
      have hone2 : ∀ u ∈ [(Value.slice (some ⟨wr.heap.size,0,none⟩) 1 1)],u.oneCell' = true := by simp [Value.oneCell']
      have hbd1 : (ts.length + 1) * 24 ≤ 140737488355328 := by omega
      have hbd2 : (us.length + 1) * 24 ≤ 140737488355328 := by omega
      have hnl1 : [(Value.slice (some ⟨b1,o1,none⟩) line.length cl)].length = 1 * 1 := rfl
      have hnl2 : [(Value.slice (some ⟨wr.heap.size,0,none⟩) 1 1)].length = 1 * 1 := rfl
      go_wp2_with (first | (at_builtin; refine wpList_appM rfl _ _ _ _ rfl TBs hO1 rfl (Src_rv Tryz.underlying66 hnl1 hrv1 hone1 Nat.one_pos) rfl hbd1 hbase1 ?_; intro v3 W3 own3 gr3 at3; have hm3 : Mem W3 w.heap.size [orr v3 (ts ++ [(line,(Value.slice (some ⟨b1,o1,none⟩) line.length cl))]),orr (Value.slice Ae us.length ce) us,obs (Value.slice (some ⟨b1,o1,none⟩) line.length cl) line] (T ++ [([10],Value.slice (some ⟨wr.heap.size,0,none⟩) 1 1)]) := (hm2.upd (i := 0) (o' := orr v3 (ts ++ [(line,(Value.slice (some ⟨b1,o1,none⟩) line.length cl))])) rfl (Ext.of_grown (S := fun k => nb (Value.slice Ao ts.length co) k) gr3 (fun k e => e)) (own_orr own3) (fun k hk => at_new at3 hk)); have hs3 := gr3.size; have hbase2 : w.heap.size ≤ (W3.alloc (.cells #[(Value.slice (some ⟨wr.heap.size,0,none⟩) 1 1)] 22)).heap.size := Nat.le_trans (Nat.le_trans hbase1 hs3) (by rw [World.size_alloc]; exact Nat.le_succ _); have hO2 : OwnM (W3.alloc (.cells #[(Value.slice (some ⟨wr.heap.size,0,none⟩) 1 1)] 22)) w.heap.size 22 1 (Value.slice Ae us.length ce) us.length (us.map (·.2)) := (hm3.get (i := 1) rfl).alloc _) | (at_builtin; refine wpList_appM rfl _ _ _ _ rfl TBs hO2 rfl (Src_rv Tryz.underlying66 hnl2 (Rv_new W3 _ _ _ rfl) hone2 Nat.one_pos) rfl hbd2 hbase2 ?_; intro v5 W5 own5 gr5 at5; have hm5 : Mem W5 w.heap.size [orr v3 (ts ++ [(line,(Value.slice (some ⟨b1,o1,none⟩) line.length cl))]),orr v5 (us ++ [([10],(Value.slice (some ⟨wr.heap.size,0,none⟩) 1 1))]),obs (Value.slice (some ⟨b1,o1,none⟩) line.length cl) line] (T ++ [([10],Value.slice (some ⟨wr.heap.size,0,none⟩) 1 1)]) := ((hm3.below ((Below.refl _ _).alloc (Nat.le_refl _) _)).upd (i := 1) (o' := orr v5 (us ++ [([10],(Value.slice (some ⟨wr.heap.size,0,none⟩) 1 1))])) rfl (Ext.of_grown (S := fun k => nb (Value.slice Ae us.length ce) k) gr5 (fun k e => e)) (own_orr own5) (fun k hk => at_new at5 hk)); have hs5 := gr5.size))
      have hb1 : Below w.heap.size w (wr.alloc (.cells #[.int .u8 10] 5)) := hBW1
      have hb3 : Below w.heap.size w W3 := below_appM (hb1.trans ((Below.refl _ _).alloc (by simp; omega) _)) hO1 gr3 (by simp; omega) (Nat.le_refl _)
      have hb5 : Below w.heap.size w W5 := below_appM (hb3.trans ((Below.refl _ _).alloc (by simp at hs3 ⊢; omega) _)) hO2 gr5 (by simp at hs3 ⊢; omega) (Nat.le_refl _)
      have hz5 : w.heap.size ≤ W5.heap.size := hb5.size
      go_roundw
      case rel =>
       have hB6 : Below W5.heap.size W5 (W5.alloc (.cells #[] 5)) := (Below.refl _ _).alloc (Nat.le_refl _) _
       have hm6 := hm5.push (i := 2) (v := (Value.slice (some ⟨b1,o1,none⟩) line.length cl)) (l := line) (o' := obs (.slice (some ⟨W5.heap.size,0,none⟩) 0 0) []) rfl hB6 (fresh0 W5 w.heap.size 5 hz5) (fun k hk => by have := nb_some.1 hk; omega)
       refine ⟨q + 1,ts ++ [(line,(Value.slice (some ⟨b1,o1,none⟩) line.length cl))],us ++ [([10],(Value.slice (some ⟨wr.heap.size,0,none⟩) 1 1))],_,[],by go_num,by omega,by simp; omega,by simp; omega,by simp,Lib.hid ⟨hm6,?_,?_,?_,by simp [HL.out]⟩,hb5.trans (hB6.mono hz5)⟩
       ·intro t ht
        rcases List.mem_append.1 ht with ht | ht
        ·have := HS1.out t ht; simp [this]
        ·simp only [List.mem_singleton] at ht; subst ht; simp
       ·intro t ht
        rcases List.mem_append.1 ht with ht | ht
        ·have := HS2.out t ht; simp [this]
        ·simp only [List.mem_singleton] at ht; subst ht; simp
       ·exact ln_step (by rw [HE2.out,HEN.out]) HL.out
      case measure => simp [intOf]; omega
   ·have hb10 : ((x.toNat : Int) == 10) = false := by rw [t10]; simpa using h10
    have HE2 := Lib.hid (show lns b = (ts.map (·.1)).zip (us.map (·.1)) ++ lnA (line ++ [x]) (b.drop (q + 1)) by rw [HE.out,lnA_no h10])
    have hown : OwnM (wr.alloc (.cells #[bv x] 5)) w.heap.size 5 1 (.slice Al line.length cl) line.length (line.map bv) := (hmm.get (i := 2) rfl).alloc _
    have hmb : Mem (wr.alloc (.cells #[bv x] 5)) w.heap.size [orr (.slice Ao ts.length co) ts,orr (.slice Ae us.length ce) us,obs (.slice Al line.length cl) line] T := hmm.below ((Below.refl _ _).alloc (Nat.le_refl _) _)
    have hrv : Rv (wr.alloc (.cells #[bv x] 5)) (some ⟨wr.heap.size,0,none⟩) [bv x] := Rv_new wr _ _ _ rfl
    have hone : ∀ u ∈ [bv x],u.oneCell' = true := by simp [Value.oneCell',bv]
    have hbase : w.heap.size ≤ (wr.alloc (.cells #[bv x] 5)).heap.size := by simp; omega
    have hbd : (line.length + 1) * 1 ≤ 140737488355328 := by omega
    have hnl : [bv x].length = 1 * 1 := rfl
    clear t10 hdr hx cx HE h10 hmm hRl
    go_wp2_with (at_builtin; refine wpList_appM rfl _ _ _ _ rfl TU8 hown rfl (Src_rv Tryz.underlying22 hnl hrv hone Nat.one_pos) rfl hbd hbase ?_; intro v2 W2 own2 gr2 at2)
    go_roundw
    case rel =>
     have hm2 := hmb.upd (i := 2) (o' := obs v2 (line ++ [x])) rfl (Ext.of_grown (S := fun k => nb (Value.slice Al line.length cl) k) gr2 (fun k e => e)) (own_obs (m := [x]) own2) (fun k hk => at_new at2 hk)
     exact ⟨q + 1,ts,us,T,line ++ [x],by go_num,by omega,by omega,by omega,by simp; omega,Lib.hid ⟨hm2,HS1.out,HS2.out,HE2.out,HL.out⟩,below_appM (hB.trans ((Below.refl _ _).alloc hs _)) hown gr2 hbase (Nat.le_refl _)⟩
    case measure => simp [intOf]; omega
  ·obtain rfl : q = n := by omega
   have hd0 : b.drop q = [] := List.drop_of_length_le (by rw [HN.out]; exact Nat.le_refl _)
   rw [hd0] at HE
   have hmm : Mem wr w.heap.size [orr (.slice Ao ts.length co) ts,orr (.slice Ae us.length ce) us,obs (.slice Al line.length cl) line] T := hmm
   by_cases h0 : 0 < line.length
   ·have HE2 := Lib.hid (show lns b = (ts.map (·.1)).zip (us.map (·.1)) ++ (line,[]) :: lnA [] [] by rw [HE.out,lnA_last (fun e => by rw [e] at h0; simp at h0)])
    have hle : ts.length + 1 ≤ 2000001 ∧ us.length + 1 ≤ 2000001 := by omega
    clear hd0 HE hRl
    have hO1 : OwnM (wr.alloc (.cells #[.slice Al line.length cl] 22)) w.heap.size 22 1 (.slice Ao ts.length co) ts.length (ts.map (·.2)) := (hmm.get (i := 0) rfl).alloc _
    have hm2 : Mem (wr.alloc (.cells #[.slice Al line.length cl] 22)) w.heap.size [orr (Value.slice Ao ts.length co) ts,orr (Value.slice Ae us.length ce) us,obs (Value.slice Al line.length cl) line] T := hmm.below ((Below.refl _ _).alloc (Nat.le_refl _) _)
    have hbase1 : w.heap.size ≤ (wr.alloc (.cells #[.slice Al line.length cl] 22)).heap.size := by simp; omega
    have hrv1 : Rv (wr.alloc (.cells #[.slice Al line.length cl] 22)) (some ⟨wr.heap.size,0,none⟩) [.slice Al line.length cl] := Rv_new wr _ _ _ rfl
    have hone1 : ∀ u ∈ [Value.slice Al line.length cl],u.oneCell' = true := by simp [Value.oneCell']
    have hbd1 : (ts.length + 1) * 24 ≤ 140737488355328 := by omega
    have hbd2 : (us.length + 1) * 24 ≤ 140737488355328 := by omega
    have hnl1 : [Value.slice Al line.length cl].length = 1 * 1 := rfl
    have hb1 : Below w.heap.size w (wr.alloc (.cells #[.slice Al line.length cl] 22)) := hB.trans ((Below.refl _ _).alloc hs _)
    go_wp2_with (first | (at_builtin; refine wpList_appM rfl _ _ _ _ rfl TBs hO1 rfl (Src_rv Tryz.underlying66 hnl1 hrv1 hone1 Nat.one_pos) rfl hbd1 hbase1 ?_; intro v3 W3 own3 gr3 at3; have hm3 : Mem W3 w.heap.size [orr v3 (ts ++ [(line,Value.slice Al line.length cl)]),orr (Value.slice Ae us.length ce) us,obs (Value.slice Al line.length cl) line] T := (hm2.upd (i := 0) (o' := orr v3 (ts ++ [(line,Value.slice Al line.length cl)])) rfl (Ext.of_grown (S := fun k => nb (Value.slice Ao ts.length co) k) gr3 (fun k e => e)) (own_orr own3) (fun k hk => at_new at3 hk)); have hb3 : Below w.heap.size w W3 := below_appM hb1 hO1 gr3 hbase1 (Nat.le_refl _); have hs3 := hb3.size; obtain ⟨hm4,hb4,hO2,hrv2,hone2,hnl2,hbase2⟩ := fin_pre hm3 hb3) | (at_builtin; refine wpList_appM rfl _ _ _ _ rfl TBs hO2 rfl (Src_rv Tryz.underlying66 hnl2 hrv2 hone2 Nat.one_pos) rfl hbd2 hbase2 ?_; intro v5 W5 own5 gr5 at5))
    have hm5 := hm4.upd (i := 1) (o' := orr v5 (us ++ [([],Value.slice (some ⟨W3.heap.size,0,none⟩) 0 0)])) rfl (Ext.of_grown (S := fun k => nb (Value.slice Ae us.length ce) k) gr5 (fun k e => e)) (own_orr own5) (fun k hk => at_new at5 hk)
    have hb5 : Below w.heap.size w W5 := below_appM hb4 hO2 gr5 hbase2 (Nat.le_refl _)
    obtain ⟨A3,c3,rfl,hc3,_,_,_,_,_⟩ := own3.form
    obtain ⟨A5,c5,rfl,hc5,_,_,_,_,_⟩ := own5.form
    have hlen : (lns b).length = ts.length + 1 := by rw [HE2.out]; simp [lnA,HL.out]
    have HLN := Lib.hid hlen
    clear hlen
    go_ret2
    have hm6 : Mem W5 w.heap.size [orr (.slice A3 (ts.length + 1) c3) (ts ++ [(line,Value.slice Al line.length cl)]),orr (.slice A5 (us.length + 1) c5) (us ++ [([],Value.slice (some ⟨W3.heap.size,0,none⟩) 0 0)])] (T ++ [([],Value.slice (some ⟨W3.heap.size,0,none⟩) 0 0)] ++ [(line,Value.slice Al line.length cl)]) := (hm5.push (i := 2) (v := Value.slice Al line.length cl) (l := line) (o' := obs (.slice none 0 0) []) rfl (Below.refl _ _) (OwnM.nil _ _ _ _) (fun k hk => (nb_nil hk).elim)).two
    refine ⟨A3,c3,A5,c5,by rw [HLN.out,← HL.out]; rfl,by rw [HLN.out]; exact hc3,by rw [HLN.out,HL.out]; exact hc5,?_,?_,hb5⟩
    ·rw [ln_fst HE2.out HL.out]
     exact RR_of (ts := ts ++ [(line,Value.slice Al line.length cl)]) (n := ts.length + 1) (by have h := hm6.get (i := 0) rfl; simpa [orr] using h) hm6.ls (fun t ht => by rcases List.mem_append.1 ht with ht | ht; exact (by have := HS1.out t ht; simp [this]); simp only [List.mem_singleton] at ht; subst ht; simp)
    ·rw [ln_snd HE2.out HL.out]
     exact RR_of (ts := us ++ [([],Value.slice (some ⟨W3.heap.size,0,none⟩) 0 0)]) (n := us.length + 1) (by have h := hm6.get (i := 1) rfl; simpa [orr] using h) hm6.ls (fun t ht => by rcases List.mem_append.1 ht with ht | ht; exact (by have := HS2.out t ht; simp [this]); simp only [List.mem_singleton] at ht; subst ht; simp)
   ·have hl0 : line = [] := List.eq_nil_of_length_eq_zero (by omega)
    have HE2 := Lib.hid (show lns b = (ts.map (·.1)).zip (us.map (·.1)) by rw [HE.out,hl0]; simp [lnA])
    have hlen : (lns b).length = ts.length := by rw [HE2.out,List.length_zip,List.length_map,List.length_map,← HL.out]; omega
    have HLN := Lib.hid hlen
    clear hd0 HE hRl hl0 hlen
    go_wp2_with fail
    go_ret2
    refine ⟨Ao,co,Ae,ce,by rw [HLN.out,← HL.out]; rfl,by rw [HLN.out]; assumption,by rw [HLN.out,HL.out]; assumption,?_,?_,hB⟩
    ·rw [HE2.out,zip_fst (by simp [HL.out])]
     exact RR_of (n := ts.length) (hmm.get (i := 0) rfl) hmm.ls HS1.out
    ·rw [HE2.out,zip_snd (by simp [HL.out])]
     exact RR_of (n := us.length) (hmm.get (i := 1) rfl) hmm.ls HS2.out
end
end Go.Proofs.YtkllecicddfjpaaGreatDoor
