/- The walk of the law, part 38. -/
import Derived.Test.YtkllecicddfjpaaGreatDoorJ37
import Derived.Test.YtkllecicddfjpaaGreatDoorJ31
set_option maxRecDepth 100000
set_option maxHeartbeats 16000000
set_option linter.unusedVariables false
set_option linter.unusedSimpArgs false
namespace Go.Proofs.YtkllecicddfjpaaGreatDoor
section
open Go.RowKit
abbrev RP := World → Pv → (Nat → Prop) → Prop
def Stab (R : RP) : Prop := ∀ w w' p F,R w p F → (∀ k,F k → w'.heap[k]? = w.heap[k]?) → R w' p F
def ROut (o : Except Nat RP) (base : Nat) (w' : World) (e : Ending) : Prop := match o with
 | .error k => e = .returned (.tuple #[.agg #[.string (bs []),.slice none 0 0,.int .i64 0,.slice none 0 0,.slice none 0 0],.int .i64 (k : Int)])
 | .ok R => ∃ (p : Pv) (F : Nat → Prop),e = .returned (.tuple #[p.val,.int .i64 0]) ∧ R w' p F ∧ ∀ k,F k → base ≤ k ∧ k < w'.heap.size
def allOf {α : Type} : List (Except Nat α) → Except Nat (List α)
 | [] => .ok []
 | .error k :: _ => .error k
 | .ok m :: r => match allOf r with | .ok l => .ok (m :: l) | .error k => .error k
theorem allOf_step {α : Type} {outs : List (Except Nat α)} {k : Nat} {l : List α} (h : allOf (outs.take k) = .ok l) {m : α} (hm : outs[k]? = some (.ok m)) : allOf (outs.take (k + 1)) = .ok (l ++ [m]) := by
 induction outs generalizing k l with
 | nil => simp at hm
 | cons o r ih =>
   cases k with
   | zero =>
     simp at hm
     subst hm
     simp [allOf] at h
     subst h
     simp [allOf]
   | succ k =>
     cases o with
     | error e => simp [allOf] at h
     | ok x =>
       rw [List.take_succ_cons,allOf] at h ⊢
       cases hr : allOf (r.take k) with
       | error e => rw [hr] at h; cases h
       | ok l' =>
         rw [hr] at h
         cases h
         rw [ih hr (by simpa using hm)]
         rfl
theorem allOf_stop {α : Type} {outs : List (Except Nat α)} {k : Nat} {l : List α} (h : allOf (outs.take k) = .ok l) {e : Nat} (hm : outs[k]? = some (.error e)) : allOf outs = .error e := by
 induction outs generalizing k l with
 | nil => simp at hm
 | cons o r ih =>
   cases k with
   | zero =>
     simp at hm
     subst hm
     rfl
   | succ k =>
     cases o with
     | error e' => simp [allOf] at h
     | ok x =>
       rw [List.take_succ_cons,allOf] at h
       cases hr : allOf (r.take k) with
       | error e' => rw [hr] at h; cases h
       | ok l' => rw [allOf,ih hr (by simpa using hm)]
def partsW {α : Type} (bd body : List UInt8) (deep : Nat) (outs : List (Except Nat α)) : Except Nat (List α) :=
 if bdOk bd = false then .error 3 else if 8 ≤ deep then .error 5 else if (splitS body bd).2 = 0 then allOf outs else .error 3
theorem splitS_code {b bd : List UInt8} (h : bdOk bd = true) : (splitS b bd).2 = 0 ∨ ((splitS b bd).2 = 3 ∧ (splitS b bd).1 = []) := by
 unfold splitS
 rw [if_pos h]
 split
 ·exact .inl rfl
 ·exact .inr ⟨rfl,rfl⟩
def QOut (o : Except Nat (List RP)) (base : Nat) (w' : World) (e : Ending) : Prop := match o with
 | .error k => e = .returned (.tuple #[.slice none 0 0,.int .i64 (k : Int)])
 | .ok Rs => ∃ (v : Value) (qs : List (Pv × (Nat → Prop))),e = .returned (.tuple #[v,.int .i64 0]) ∧ qs.length = Rs.length ∧ OwnM w' base 34 5 v qs.length (pvs (qs.map (·.1))) ∧
    ∀ (j : Nat) (R : RP) (x : Pv × (Nat → Prop)),Rs[j]? = some R → qs[j]? = some x → R w' x.1 x.2 ∧ ∀ k,x.2 k → base ≤ k ∧ k < w'.heap.size
theorem qout_err {o : Except Nat (List RP)} {k base : Nat} {w' : World} {e : Ending} (h : o = .error k) (he : e = .returned (.tuple #[.slice none 0 0,.int .i64 (k : Int)])) : QOut o base w' e := by
 rw [h]
 exact he
theorem infoPart : (Tryz.prog.info? 34).map (fun i => (i.zero,i.size,i.bytes)) = some (some (.agg #[.string ⟨#[]⟩,.slice none 0 0,.int .i64 0,.slice none 0 0,.slice none 0 0]),5,96) := by kernel_rfl
theorem TPart : ElT Tryz.prog 32 34 5 96 := ElT.mk' (z := .agg #[.string ⟨#[]⟩,.slice none 0 0,.int .i64 0,.slice none 0 0,.slice none 0 0]) Tryz.underlying32 (by omega) (by omega) rfl infoPart
theorem pvs_snoc (ps : List Pv) (p : Pv) : pvs (ps ++ [p]) = pvs ps ++ p.cells := by simp [pvs]
theorem pv_one (p : Pv) : ∀ u ∈ p.cells,u.oneCell' = true := by simp [Pv.cells,Value.oneCell']
end
section
open Go.RowKit
def PInv (outs : List (Except Nat RP)) (q : Nat) (qs : List (Pv × (Nat → Prop))) (base : Nat) (v : Value) (w : World) : Prop :=
 ∃ Rs : List RP,allOf (outs.take q) = .ok Rs ∧ Rs.length = qs.length ∧ ∀ (j : Nat) (R : RP) (x : Pv × (Nat → Prop)),Rs[j]? = some R → qs[j]? = some x → R w x.1 x.2 ∧ Stab R ∧ ∀ k,x.2 k → base ≤ k ∧ k < w.heap.size ∧ ¬ nb v k
theorem PInv.step {outs : List (Except Nat RP)} {q : Nat} {qs : List (Pv × (Nat → Prop))} {base : Nat} {v v' : Value} {w w3 w4 w5 : World} (h : PInv outs q qs base v w) (hlt : ∀ k,nb v k → k < w.heap.size) (h13 : Below w.heap.size w w3) (hw : base ≤ w.heap.size)
 {R : RP} (hR : outs[q]? = some (.ok R)) (hst : Stab R) {p : Pv} {F : Nat → Prop} (hp : R w3 p F) (hF : ∀ k,F k → w.heap.size ≤ k ∧ k < w3.heap.size) (h34 : Below w3.heap.size w3 w4) (hg : w4.grownBy w5 v.ownBlock) (hat : v'.ownBlock = v.ownBlock ∨ v'.ownBlock = some w4.heap.size) :
 PInv outs (q + 1) (qs ++ [(p,F)]) base v' w5 := by
 obtain ⟨Rs,h1,h2,h3⟩ := h
 have hs13 := h13.size
 have hs34 := h34.size
 have hgs := hg.size
 have key : ∀ k,k < w3.heap.size → ¬ nb v k → w5.heap[k]? = w3.heap[k]? := fun k hk hn => by
  obtain ⟨_,_,_,_,h5⟩ := hg
  rw [h5 k (by omega) (fun e => hn e.symm)]
  exact h34.block k hk
 have hnew : ∀ k,k < w3.heap.size → ¬ nb v k → ¬ nb v' k := fun k hk hn hv => by
  rcases at_new hat hv with h | h
  ·exact hn h
  ·omega
 refine ⟨Rs ++ [R],allOf_step h1 hR,by simp [h2],fun j R' x hj hx => ?_⟩
 by_cases hjl : j < Rs.length
 ·rw [List.getElem?_append_left hjl] at hj
  rw [List.getElem?_append_left (by omega)] at hx
  obtain ⟨a1,a2,a3⟩ := h3 j R' x hj hx
  refine ⟨a2 _ _ _ _ a1 fun k hk => ?_,a2,fun k hk => ?_⟩
  ·obtain ⟨b1,b2,b3⟩ := a3 k hk
   exact (key k (by omega) b3).trans (h13.block k b2)
  ·obtain ⟨b1,b2,b3⟩ := a3 k hk
   exact ⟨b1,by omega,hnew k (by omega) b3⟩
 ·have hj0 : j = Rs.length := by
   have := lt_of_get hj
   simp at this
   omega
  subst hj0
  rw [List.getElem?_append_right (Nat.le_refl _),Nat.sub_self] at hj
  rw [h2,List.getElem?_append_right (Nat.le_refl _),Nat.sub_self] at hx
  simp at hj hx
  subst hj hx
  have hnF : ∀ k,F k → ¬ nb v k := fun k hk hv => by
   have := hlt k hv
   have := (hF k hk).1
   omega
  refine ⟨hst _ _ _ _ hp fun k hk => key k (hF k hk).2 (hnF k hk),hst,fun k hk => ?_⟩
  obtain ⟨b1,b2⟩ := hF k hk
  exact ⟨by omega,by omega,hnew k b2 (hnF k hk)⟩
theorem parts_any (A : Option Addr) (body bd : List UInt8) (n c deep : Nat) (outs : List (Except Nat RP)) (w : World) (hn : body.length = n) (hA : Rb w A body) (hpl : Pl A c) (hnc : n ≤ c) (hcm : c ≤ maxLen) (hb : n ≤ 1000000) (hbd : bd.length ≤ 1000000) (hd : deep ≤ 100)
 (hol : outs.length = (splitS body bd).1.length) (hx : ∀ x ∈ (splitS body bd).1,x.length ≤ 65536) (hst : ∀ R,.ok R ∈ outs → Stab R) (hk0 : ∀ k,.error k ∈ outs → 1 ≤ k)
 (Hk : ∀ (j : Nat) (x : List UInt8) (k : Nat),(splitS body bd).1[j]? = some x → Fd.readGo [] x = .error k → outs[j]? = some (.error k))
 (H : ∀ (j : Nat) (x : List UInt8) (fs : List (List UInt8 × List UInt8)) (b : List UInt8),(splitS body bd).1[j]? = some x → Fd.readGo [] x = .ok (fs,b) → ∃ o,outs[j]? = some o ∧
   ∀ (W : World) (A' : Option Addr) (c' : Nat) (B' : Option Addr) (c2' : Nat),Below w.heap.size w W → Fd.Rf W A' fs → Rb W B' b → b.length ≤ c2' → c2' ≤ maxLen → Pl B' c2' →
     Calls Tryz.prog 32 #[.agg #[.slice A' fs.length c',.slice B' b.length c2'],.int .i64 ((deep : Int) + 1)] W fun e W' => ROut o W.heap.size W' e ∧ Below W.heap.size W W') :
 Calls Tryz.prog 69 #[.slice A n c,.string (bs bd),.int .i64 (deep : Int)] w fun e w' => QOut (partsW bd body deep outs) w.heap.size w' e ∧ Below w.heap.size w w' := by
 have HN := Lib.hid hn
 have hbo := boundary_any bd w (by omega)
 cases hok : bdOk bd with
 | false =>
   have HE := Lib.hid (show partsW bd body deep outs = .error 3 by unfold partsW; rw [if_pos hok])
   rw [hok] at hbo
   clear hok H Hk hst hk0 hx hol hn
   go_enter Tryz.func69,Tryz.ntmps69
   go_wp2_with fail
   refine hbo.mono ?_
   rintro e w1 ⟨rfl,hb1⟩
   go_wp2_with fail
   go_ret2
   exact ⟨qout_err HE.out rfl,hb1⟩
 | true =>
   rw [hok] at hbo
   by_cases h8 : 8 ≤ deep
   ·have HE := Lib.hid (show partsW bd body deep outs = .error 5 by unfold partsW; rw [if_neg (by rw [hok]; decide),if_pos h8])
    have h8i : (8 : Int) ≤ (deep : Int) := by omega
    clear hok H Hk hst hk0 hx hol hn
    go_enter Tryz.func69,Tryz.ntmps69
    go_wp2_with fail
    refine hbo.mono ?_
    rintro e w1 ⟨rfl,hb1⟩
    go_wp2_with fail
    go_ret2
    exact ⟨qout_err HE.out rfl,hb1⟩
   ·have h8i : ¬ (8 : Int) ≤ (deep : Int) := by omega
    have hcode := splitS_code (b := body) hok
    have hPW : partsW bd body deep outs = if (splitS body bd).2 = 0 then allOf outs else .error 3 := by unfold partsW; rw [if_neg (by rw [hok]; decide),if_neg h8]
    have hwr : IntKind.i64.wrap ((deep : Int) + 1) = (deep : Int) + 1 := by rw [IntKind.wrap_i64] <;> omega
    have hsp := fun W (hW : Below w.heap.size w W) => split_any A body bd n c W hn (hA.below hW) hpl hnc hcm hb hbd
    unfold RSpl at hsp
    obtain ⟨L,hL⟩ : ∃ l,(splitS body bd).1 = l := ⟨_,rfl⟩
    obtain ⟨z,hz⟩ : ∃ z,(splitS body bd).2 = z := ⟨_,rfl⟩
    rw [hL] at hol hx Hk H hcode
    rw [hz] at hcode hPW
    simp only [hL,hz] at hsp
    obtain ⟨m,hm⟩ : ∃ m,L.length = m := ⟨_,rfl⟩
    have HM := Lib.hid hm
    have HMB : Hid (m ≤ 1000001) := Lib.hid (by have := sS_len body bd; rw [hL,hm,HN.out] at this; omega)
    have HOL := Lib.hid (hol.trans hm)
    simp only [hm] at hsp
    have HPW := Lib.hid hPW
    have HCODE := Lib.hid hcode
    clear hok hL hz hm hol hn hPW hcode h8
    go_enter Tryz.func69,Tryz.ntmps69
    go_wp2_with fail
    refine hbo.mono ?_
    rintro e w1 ⟨rfl,hb1⟩
    go_wp2_with fail
    refine (hsp w1 hb1).mono ?_
    rintro e w2 ⟨A2,c2,rfl,hmc,hRR,hb2⟩
    have hB2 := hb1.trans (hb2.mono hb1.size)
    clear hsp hbo hb2 hb1
    go_wp2_with fail
    go_loopw [6,7,29] (fun s6 s7 s29 wr => ∃ (q : Nat) (qs : List (Pv × (Nat → Prop))),s29 = .int .i64 (q : Int) ∧ s7 = .int .i64 z ∧ q ≤ m ∧ Hid (qs.length = q) ∧ Hid (OwnM wr w2.heap.size 34 5 s6 qs.length (pvs (qs.map (·.1)))) ∧ Hid (PInv outs q qs w2.heap.size s6 wr) ∧ Hid (q = 0 → s6 = .slice none 0 0) ∧ Below w2.heap.size w2 wr) (fun _ _ i _ => m - (intOf i).toNat)
    case atStart => exact ⟨0,[],rfl,rfl,Nat.zero_le _,Lib.hid rfl,Lib.hid (OwnM.nil _ _ _ _),Lib.hid ⟨[],by simp [allOf],rfl,fun j R x h => by simp at h⟩,Lib.hid (fun _ => rfl),Below.refl _ _⟩
    case round =>
     obtain ⟨q,qs,rfl,rfl,hq,HQL,HOWN,HINV,HNIL,hB⟩ := hrel
     have hs := hB.size
     obtain ⟨Ao,co,hov,hoc,_,_,_,_,_⟩ := HOWN.out.form
     subst hov
     have hBw := hB2.trans (hB.mono hB2.size)
     by_cases hlt : q < m
     ·obtain ⟨b,o,X,cx,l,rfl,hl,h0,hcx,hcm2,hxn,hxp,hX⟩ := (hRR.below hB).one (k := q) (by rw [HM.out]; exact hlt)
      have hplx : Pl X cx := by
       rcases hxp with h | ⟨b',o',h⟩
       ·exact .inl ⟨h,hxn h⟩
       ·exact .inr ⟨b',o',h⟩
      have hxl := hx l (List.mem_of_getElem? hl.out)
      have hlr := lread_any X l l.length cx wr rfl hX hcx hplx hxl
      cases hr : Fd.readGo [] l with
      | error k =>
        have hk1 := Hk q l k hl.out hr
        have hkp := hk0 k (List.mem_of_getElem? hk1)
        obtain ⟨Rs,hRs,_,_⟩ := HINV.out
        have hz0 : z = 0 := by
         rcases HCODE.out with h | ⟨_,h⟩
         ·exact h
         ·have := lt_of_get hl.out
          rw [h] at this
          simp at this
        have HE := Lib.hid (show partsW bd body deep outs = .error k by rw [HPW.out,if_pos hz0]; exact allOf_stop hRs hk1)
        have hkb : ((k : Int) != 0) = true := by rw [bne_iff_ne]; omega
        rw [hr] at hlr
        clear hr hk1 hz0 H Hk hst hk0 hx
        go_wp2_with fail
        refine hlr.mono ?_
        rintro e w3 ⟨hwo,hb3⟩
        simp only [WOut] at hwo
        subst hwo
        go_wp2_with fail
        go_ret2
        exact ⟨qout_err HE.out rfl,(hBw.trans (hb3.mono hBw.size)).alloc (Nat.le_trans hBw.size hb3.size) _⟩
      | ok mm =>
        obtain ⟨fs,bb⟩ := mm
        obtain ⟨u,hu,hcall⟩ := H q l fs bb hl.out hr
        rw [hr] at hlr
        have HU := Lib.hid hu
        have HL := Lib.hid hl.out
        clear hr hu
        go_wp2_with fail
        refine hlr.mono ?_
        rintro e w3 ⟨hwo,hb3⟩
        obtain ⟨LA,lc,LB,lc2,rfl,hRf,hRb,h2c,h2m,hplB⟩ := hwo
        simp only at hRf hRb h2c ⊢
        have hB3 := hBw.trans (hb3.mono hBw.size)
        have hal : Below w3.heap.size w3 (w3.alloc (.cells #[.slice LA fs.length lc,.slice LB bb.length lc2] 39)) := (Below.refl _ _).alloc (Nat.le_refl _) _
        have hc2 := hcall _ LA lc LB lc2 (hB3.trans (hal.mono hB3.size)) (Rv.below hRf hal) (hRb.below hal) h2c h2m hplB
        have hB4 := hB3.trans (hal.mono hB3.size)
        have hr4 : Below wr.heap.size wr (w3.alloc (.cells #[.slice LA fs.length lc,.slice LB bb.length lc2] 39)) := hb3.trans (hal.mono hb3.size)
        clear hcall hlr hRf hRb
        generalize fs.length = nf at *
        generalize bb.length = nb' at *
        go_wp2_with fail
        refine hc2.mono ?_
        rintro e w5 ⟨hro,hb5⟩
        have hr5 := hr4.trans (hb5.mono hr4.size)
        have hB5 := hB4.trans (hb5.mono hB4.size)
        cases u with
        | error k =>
          obtain ⟨Rs,hRs,_,_⟩ := HINV.out
          have hz0 : z = 0 := by
           rcases HCODE.out with h | ⟨_,h⟩
           ·exact h
           ·have := lt_of_get HL.out
            rw [h] at this
            simp at this
          have hkp := hk0 k (List.mem_of_getElem? HU.out)
          have HE := Lib.hid (show partsW bd body deep outs = .error k by rw [HPW.out,if_pos hz0]; exact allOf_stop hRs HU.out)
          have hkb : ((k : Int) != 0) = true := by rw [bne_iff_ne]; omega
          simp only [ROut] at hro
          subst hro
          clear hRs hz0 H Hk hst hk0 hx
          go_wp2_with fail
          go_ret2
          exact ⟨qout_err HE.out rfl,hB5.alloc hB5.size _⟩
        | ok R =>
          obtain ⟨p,F,rfl,hp,hF⟩ := hro
          have hsR := hst R (List.mem_of_getElem? HU.out)
          have HP := Lib.hid hp
          have HF := Lib.hid (show ∀ k,F k → wr.heap.size ≤ k ∧ k < w5.heap.size from fun k hk => ⟨Nat.le_trans hr4.size (hF k hk).1,(hF k hk).2⟩)
          obtain ⟨pk,pA,pn,pc,pcode,pB,pnb,pcb,pC,pnq,pcc⟩ := p
          simp only [Pv.val]
          have hql2 : qs.length ≤ m := by rw [HQL.out]; exact hq
          have ha6 : Below w5.heap.size w5 (w5.alloc (.cells #[.string (bs pk),.slice pA pn pc,.int .i64 pcode,.slice pB pnb pcb,.slice pC pnq pcc] 34)) := (Below.refl _ _).alloc (Nat.le_refl _) _
          have ha7 : Below w5.heap.size w5 ((w5.alloc (.cells #[.string (bs pk),.slice pA pn pc,.int .i64 pcode,.slice pB pnb pcb,.slice pC pnq pcc] 34)).alloc (.cells #[.string (bs pk),.slice pA pn pc,.int .i64 pcode,.slice pB pnb pcb,.slice pC pnq pcc] 34)) := ha6.alloc ha6.size _
          have hr7 := hr5.trans (ha7.mono hr5.size)
          have hO7 := HOWN.out.below hr7
          have hB7 : Below w2.heap.size w2 _ := hB.trans (hr7.mono hs)
          have hs7 := hB7.size
          have hrv7 : Rv ((w5.alloc (.cells #[.string (bs pk),.slice pA pn pc,.int .i64 pcode,.slice pB pnb pcb,.slice pC pnq pcc] 34)).alloc (.cells #[.string (bs pk),.slice pA pn pc,.int .i64 pcode,.slice pB pnb pcb,.slice pC pnq pcc] 34)) (some ⟨(w5.alloc (.cells #[.string (bs pk),.slice pA pn pc,.int .i64 pcode,.slice pB pnb pcb,.slice pC pnq pcc] 34)).heap.size,0,none⟩) [.string (bs pk),.slice pA pn pc,.int .i64 pcode,.slice pB pnb pcb,.slice pC pnq pcc] := Rv_new _ _ _ _ rfl
          rw [World.size_alloc] at hrv7
          have hone7 : ∀ u ∈ ([.string (bs pk),.slice pA pn pc,.int .i64 pcode,.slice pB pnb pcb,.slice pC pnq pcc] : List Value),u.oneCell' = true := pv_one ⟨pk,pA,pn,pc,pcode,pB,pnb,pcb,pC,pnq,pcc⟩
          have hnl7 : ([.string (bs pk),.slice pA pn pc,.int .i64 pcode,.slice pB pnb pcb,.slice pC pnq pcc] : List Value).length = 1 * 5 := rfl
          have hm1 : m ≤ 1000001 := HMB.out
          have hbd7 : (qs.length + 1) * 96 ≤ 140737488355328 := by omega
          clear hc2 hp hF ha6
          go_wp2_with (at_builtin; refine wpList_appM rfl _ _ _ _ rfl TPart hO7 rfl (Src_rv Tryz.underlying32 hnl7 hrv7 hone7 (by omega)) rfl hbd7 hs7 ?_; intro v8 w8 own8 gr8 at8)
          go_roundw
          case rel =>
           refine ⟨q + 1,qs ++ [(⟨pk,pA,pn,pc,pcode,pB,pnb,pcb,pC,pnq,pcc⟩,F)],by go_num,rfl,by omega,Lib.hid (by simp [HQL.out]),Lib.hid ?_,Lib.hid (HINV.out.step (HOWN.out.lt · · |>.2) hr5 hs HU.out hsR HP.out HF.out ha7 gr8 at8),Lib.hid (fun h => by omega),below_appM hB7 hO7 gr8 hs7 (Nat.le_refl _)⟩
           rw [List.length_append,List.map_append]
           show OwnM _ _ _ _ _ (qs.length + 1) (pvs (qs.map (·.1) ++ [_]))
           rw [pvs_snoc]
           exact own8
          case measure => simp [intOf]; omega
     ·obtain rfl : q = m := by omega
      obtain ⟨Rs,hRs,hRl,hRj⟩ := HINV.out
      rw [List.take_of_length_le (by rw [HOL.out]; exact Nat.le_refl _)] at hRs
      rcases HCODE.out with h | ⟨h,hL0⟩
      ·have HE := Lib.hid (show partsW bd body deep outs = .ok Rs by rw [HPW.out,if_pos h]; exact hRs)
       have HRJ := Lib.hid hRj
       have HRL := Lib.hid hRl
       subst h
       clear hRs hRl hRj H Hk hst hk0 hx
       go_wp2_with fail
       go_ret2
       refine ⟨?_,hBw⟩
       rw [HE.out]
       refine ⟨_,qs,rfl,HRL.out.symm,HOWN.out.rebase hB2.size,fun j R x hj hx2 => ?_⟩
       obtain ⟨a1,_,a3⟩ := HRJ.out j R x hj hx2
       exact ⟨a1,fun k hk => ⟨Nat.le_trans hB2.size (a3 k hk).1,(a3 k hk).2.1⟩⟩
      ·have HE := Lib.hid (show partsW bd body deep outs = .error 3 by rw [HPW.out,if_neg (by rw [h]; decide)])
       have hq0 : q = 0 := by have := HM.out; rw [hL0] at this; simpa using this.symm
       have hnil := HNIL.out hq0
       have HNL := Lib.hid hnil
       subst h
       clear hRs hRl hRj H Hk hst hk0 hx hq0 hL0 hnil
       go_wp2_with fail
       go_ret2
       exact ⟨qout_err HE.out (by rw [HNL.out]; rfl),hBw⟩
end
section
open Go.RowKit
def RvF (w : World) (F : Nat → Prop) (A : Option Addr) (xs : List Value) : Prop := Rv w A xs ∧ ∀ b o,A = some ⟨b,o,none⟩ → 0 < xs.length → F b
theorem RvF.keep {w w' : World} {F G : Nat → Prop} {A : Option Addr} {xs : List Value} (h : RvF w F A xs) (hk : ∀ k,F k → w'.heap[k]? = w.heap[k]?) (hG : ∀ k,F k → G k) : RvF w' G A xs :=
 ⟨fun hp => by
   obtain ⟨b,o,e,hc⟩ := h.1 hp
   exact ⟨b,o,e,fun j v hj => (World.cell?_of_block (w := w) (hk b (h.2 b o e hp))).trans (hc j v hj)⟩,fun b o e hp => hG b (h.2 b o e hp)⟩
theorem RvF.of_own {w : World} {base : Nat} {e : TypeId} {size : Nat} {A : Option Addr} {n c : Nat} {xs : List Value} (h : OwnM w base e size (.slice A n c) n xs) : RvF w (fun k => base ≤ k ∧ k < w.heap.size) A xs :=
 ⟨own_rvM h,fun b o e _ => h.lt b (by rw [e]; rfl)⟩
def multiR (kind : List UInt8) (ms : List (List UInt8 × List UInt8)) (Rs : List RP) : RP := fun w p F =>
 p.k = kind ∧ p.n = ms.length ∧ p.code = 0 ∧ p.nb = 0 ∧ RvF w F p.A (Tk.pcells ms) ∧ p.nq = Rs.length ∧
  ∃ qs : List (Pv × (Nat → Prop)),qs.length = Rs.length ∧ RvF w F p.C (pvs (qs.map (·.1))) ∧ ∀ (j : Nat) (R : RP) (x : Pv × (Nat → Prop)),Rs[j]? = some R → qs[j]? = some x → R w x.1 x.2 ∧ ∀ k,x.2 k → F k
theorem multiR_stab {kind : List UInt8} {ms : List (List UInt8 × List UInt8)} {Rs : List RP} (h : ∀ R ∈ Rs,Stab R) : Stab (multiR kind ms Rs) := by
 rintro w w' p F ⟨h1,h2,h3,h4,h5,h6,qs,h7,h8,h9⟩ hk
 refine ⟨h1,h2,h3,h4,h5.keep hk fun _ h => h,h6,qs,h7,h8.keep hk fun _ h => h,fun j R x hj hx => ?_⟩
 obtain ⟨a1,a2⟩ := h9 j R x hj hx
 exact ⟨h R (List.mem_of_getElem? hj) _ _ _ _ a1 fun k hkk => hk k (a2 k hkk),a2⟩
def leafR (kind : List UInt8) (ms : List (List UInt8 × List UInt8)) (code : Int) (b : List UInt8) : RP := fun w p F =>
 p.k = kind ∧ p.n = ms.length ∧ p.code = code ∧ p.nb = b.length ∧ b.length ≤ p.cb ∧ RvF w F p.A (Tk.pcells ms) ∧ RvF w F p.B (b.map bv) ∧ p.nq = 0
theorem leafR_stab {kind : List UInt8} {ms : List (List UInt8 × List UInt8)} {code : Int} {b : List UInt8} : Stab (leafR kind ms code b) := by
 rintro w w' p F ⟨h1,h2,h3,h4,h5,h6,h7,h8⟩ hk
 exact ⟨h1,h2,h3,h4,h5,h6.keep hk fun _ h => h,h7.keep hk fun _ h => h,h8⟩
end
end Go.Proofs.YtkllecicddfjpaaGreatDoor
