/- The walk of the law, part 31. -/
import Derived.Test.YtkllecicddfjpaaGreatDoorJ19
import Derived.Test.YtkllecicddfjpaaGreatDoorJ30
set_option maxRecDepth 100000
set_option maxHeartbeats 16000000
set_option linter.unusedVariables false
set_option linter.unusedSimpArgs false
namespace Go.Proofs.YtkllecicddfjpaaGreatDoor
section
open Go.RowKit
structure Pv where
 k : List UInt8
 A : Option Addr
 n : Nat
 c : Nat
 code : Int
 B : Option Addr
 nb : Nat
 cb : Nat
 C : Option Addr
 nq : Nat
 cc : Nat
abbrev Pv.cells (p : Pv) : List Value := [.string (bs p.k),.slice p.A p.n p.c,.int .i64 p.code,.slice p.B p.nb p.cb,.slice p.C p.nq p.cc]
abbrev Pv.val (p : Pv) : Value := .agg #[.string (bs p.k),.slice p.A p.n p.c,.int .i64 p.code,.slice p.B p.nb p.cb,.slice p.C p.nq p.cc]
def pvs (ps : List Pv) : List Value := ps.flatMap Pv.cells
theorem pvs_len (ps : List Pv) : (pvs ps).length = ps.length * 5 := by
 induction ps with
 | nil => rfl
 | cons p r ih =>
   have e : pvs (p :: r) = p.cells ++ pvs r := rfl
   rw [e,List.length_append,ih]
   simp [Pv.cells]
   omega
theorem pvs_get {ps : List Pv} {q : Nat} {p : Pv} (h : ps[q]? = some p) (j : Nat) (hj : j < 5) : (pvs ps)[q * 5 + j]? = p.cells[j]? := by
 induction ps generalizing q with
 | nil => simp at h
 | cons x r ih =>
   have e : pvs (x :: r) = x.cells ++ pvs r := rfl
   have hl : x.cells.length = 5 := rfl
   cases q with
   | zero =>
     simp at h
     subst h
     rw [e,List.getElem?_append_left (by rw [hl]; omega)]
     congr 1
     omega
   | succ q =>
     rw [e,List.getElem?_append_right (by rw [hl]; omega),hl]
     have e2 : (q + 1) * 5 + j - 5 = q * 5 + j := by omega
     rw [e2]
     exact ih (by simpa using h)
def JOut (o : Except Nat (List UInt8)) (base : Nat) (w' : World) (e : Ending) : Prop := match o with
 | .error k => e = .returned (.tuple #[.slice none 0 0,.int .i64 (k : Int)])
 | .ok b => ∃ v,e = .returned (.tuple #[v,.int .i64 0]) ∧ OwnM w' base 5 1 v b.length (b.map bv)
theorem jout_err {o : Except Nat (List UInt8)} {k base : Nat} {w' : World} {e : Ending} (h : o = .error k) (he : e = .returned (.tuple #[.slice none 0 0,.int .i64 (k : Int)])) : JOut o base w' e := by
 rw [h]
 exact he
theorem writeP_facts {fs : List (List UInt8 × List UInt8)} {bd b : List UInt8} (h : Fd.writeP fs bd = .ok b) : fs.length ≤ 200 ∧ bd.length ≤ 2097152 ∧ ∀ p ∈ fs,p.1.length ≤ 64 ∧ p.2.length ≤ 8192 := by
 unfold Fd.writeP at h
 split at h
 ·rename_i hr
  split at h
  ·cases h
  ·rename_i h2
   refine ⟨by omega,by omega,fun p hp => ?_⟩
   have h3 := List.all_eq_true.1 hr p hp
   simp only [Bool.and_eq_true] at h3
   exact ⟨(nmOk_len h3.1).2,vlOk_len h3.2⟩
 ·cases h
theorem own_rvM {w : World} {base : Nat} {e : TypeId} {size : Nat} {A : Option Addr} {n c : Nat} {xs : List Value} (h : OwnM w base e size (.slice A n c) n xs) : Rv w A xs := by
 obtain ⟨A',c',e',_,_,h3,_⟩ := h.form
 cases e'
 exact h3
theorem mem_none (w : World) (base : Nat) : Mem w base [orr (.slice none 0 0) [],obs (.slice none 0 0) []] [] :=
 ((Mem.nil w base).cons (o' := orr (.slice none 0 0) []) (Below.refl _ _) (OwnM.nil _ _ _ _) (fun k hk => (nb_nil hk).elim)).cons (o' := obs (.slice none 0 0) []) (Below.refl _ _) (OwnM.nil _ _ _ _) (fun k hk => (nb_nil hk).elim)
theorem bP_len {bd : List UInt8} : ∀ {L : List (List UInt8 × List UInt8)} {part pend : List UInt8} {out l : List (List UInt8)},bodyP bd L part pend out = some l → l.length ≤ out.length + L.length
 | [],_,_,_,_,h => by simp [bodyP] at h
 | p :: r,part,pend,out,l,h => by
   rw [bodyP] at h
   split at h
   ·have := bP_len h
    simp
    omega
   ·split at h
    ·have := bP_len h
     simp at this ⊢
     omega
    ·cases h
     simp
theorem sP_len {bd : List UInt8} : ∀ {L : List (List UInt8 × List UInt8)} {l : List (List UInt8)},splitP bd L = some l → l.length ≤ L.length
 | [],_,h => by simp [splitP] at h
 | p :: r,l,h => by
   rw [splitP] at h
   split at h
   ·have := bP_len h
    simp at this ⊢
    omega
   ·have := sP_len h
    simp
    omega
theorem sS_len (b bd : List UInt8) : (splitS b bd).1.length ≤ b.length + 1 := by
 unfold splitS
 split
 ·split
  ·rename_i l h
   have h1 := sP_len h
   have h2 := lnA_len b []
   unfold lns at h1
   simp only
   omega
  ·simp
 ·simp
theorem join_any (kind : List UInt8) (ms : List (List UInt8 × List UInt8)) (A : Option Addr) (n c : Nat) (B : Option Addr) (cb : Nat) (C : Option Addr) (nq cc deep : Nat) (ps : List Pv) (outs : List (Except Nat Mail)) (w : World)
 (hn : ms.length = n) (hn2 : n ≤ 20) (hA : Rv w A (Tk.pcells ms)) (hq : ps.length = nq) (ho : outs.length = nq) (hq2 : nq ≤ 10) (hC : Rv w C (pvs ps)) (hbd : (paramP ms bdN).length ≤ 1000000) (hd : deep ≤ 100)
 (H : ∀ (j : Nat) (p : Pv) (o : Except Nat Mail),ps[j]? = some p → outs[j]? = some o → ∀ W,Below w.heap.size w W → Calls Tryz.prog 31 #[p.val,.int .i64 ((deep : Int) + 1)] W fun e W' => WOut o W' e ∧ Below W.heap.size W W')
 (hk0 : ∀ k,Except.error k ∈ outs → 1 ≤ k) (hw : ∀ m,.ok m ∈ outs → Fd.writeP m.1 m.2 = .ok (mb m) ∧ (mb m).length ≤ 90000) :
 Calls Tryz.prog 66 #[.agg #[.string (bs kind),.slice A n c,.int .i64 0,.slice B 0 cb,.slice C nq cc],.int .i64 (deep : Int)] w fun e w' => JOut (joinW (paramP ms bdN) outs deep) w.heap.size w' e ∧ Below w.heap.size w w' := by
 have HN := Lib.hid hn
 have HQ := Lib.hid hq
 have HO := Lib.hid ho
 have hB0 : Below w.heap.size w (w.alloc (.cells #[.string (bs kind),.slice A n c,.int .i64 0,.slice B 0 cb,.slice C nq cc] 34)) := (Below.refl _ _).alloc (Nat.le_refl _) _
 have rp := Row.new w #[.string (bs kind),.slice A n c,.int .i64 0,.slice B 0 cb,.slice C nq cc] 34
 obtain ⟨bd,hbdd⟩ : ∃ x,paramP ms bdN = x := ⟨_,rfl⟩
 have HBD := Lib.hid hbdd
 have hpar := param_any A ms bdN n c (w.alloc (.cells #[.string (bs kind),.slice A n c,.int .i64 0,.slice B 0 cb,.slice C nq cc] 34)) hn (hA.below hB0) (by omega)
 rw [hbdd] at hpar hbd ⊢
 clear hbdd hn hq ho
 go_enter Tryz.func66,Tryz.ntmps66
 go_wp2_with fail
 generalize w.alloc (.cells #[.string (bs kind),.slice A n c,.int .i64 0,.slice B 0 cb,.slice C nq cc] 34) = W0 at *
 refine hpar.mono ?_
 rintro e w1 ⟨rfl,hb1⟩
 have hB1 := hB0.trans (hb1.mono hB0.size)
 have rp1 := rp.below hb1
 clear rp hb1 hB0
 have q0 := rp1.cell (j := 0) rfl
 have q2 := rp1.cell (j := 2) rfl
 have q3 := rp1.cell (j := 3) rfl
 have q4 := rp1.cell (j := 4) rfl
 by_cases hnq : nq = 0
 ·have hE : joinW bd outs deep = .error 3 := by
   unfold joinW
   rw [if_pos (.inl (List.eq_nil_of_length_eq_zero (by rw [HO.out]; exact hnq)))]
  have HE := Lib.hid hE
  have t0 : ((nq : Int) == 0) = true := by rw [hnq]; rfl
  clear hE hnq
  go_wp2_with fail
  go_ret2
  exact ⟨jout_err HE.out rfl,hB1⟩
 have t0 : ((nq : Int) == 0) = false := by rw [beq_eq_false_iff_ne]; omega
 have hbo := boundary_any bd w1 (by omega)
 have hne : outs ≠ [] := fun h => hnq (by rw [← HO.out,h]; rfl)
 cases hok : bdOk bd with
 | false =>
   have HE := Lib.hid (show joinW bd outs deep = .error 3 by unfold joinW; rw [if_pos (.inr hok)])
   rw [hok] at hbo
   clear hok hne hnq
   go_wp2_with fail
   refine hbo.mono ?_
   rintro e w2 ⟨rfl,hb2⟩
   go_wp2_with fail
   go_ret2
   exact ⟨jout_err HE.out rfl,hB1.trans (hb2.mono hB1.size)⟩
 | true =>
   have hbl : bd.length ≤ 70 := by
    have h := hok
    unfold bdOk at h
    simp only [Bool.and_eq_true,decide_eq_true_eq] at h
    exact h.1.2
   rw [hok] at hbo
   have HOK := Lib.hid hok
   clear hok
   go_wp2_with fail
   refine hbo.mono ?_
   rintro e w2 ⟨rfl,hb2⟩
   have hB2 := hB1.trans (hb2.mono hB1.size)
   have rp2 := rp1.below hb2
   clear rp1 hb2 hB1 q0 q2 q3 q4
   have q2 := rp2.cell (j := 2) rfl
   have q3 := rp2.cell (j := 3) rfl
   have q4 := rp2.cell (j := 4) rfl
   by_cases h8 : 8 ≤ deep
   ·have HE := Lib.hid (show joinW bd outs deep = .error 5 by
     unfold joinW
     rw [if_neg (by rintro (h | h); exact hne h; rw [HOK.out] at h; cases h),if_pos h8])
    have h8i : (8 : Int) ≤ (deep : Int) := by omega
    clear hne hnq
    go_wp2_with fail
    go_ret2
    exact ⟨jout_err HE.out rfl,hB2⟩
   ·have h8i : ¬ (8 : Int) ≤ (deep : Int) := by omega
    have HJ := Lib.hid (show joinW bd outs deep = joinG bd (mailsOf outs) by
     unfold joinW
     rw [if_neg (by rintro (h | h); exact hne h; rw [HOK.out] at h; cases h),if_neg h8])
    have hwr : IntKind.i64.wrap ((deep : Int) + 1) = (deep : Int) + 1 := by rw [IntKind.wrap_i64] <;> omega
    clear hne hnq h8
    go_wp2_with fail
    have HCH : ∀ W,Below w2.heap.size w2 W → Rv W C (pvs ps) ∧ Below w.heap.size w W := fun W h => ⟨hC.below (hB2.trans (h.mono hB2.size)),hB2.trans (h.mono hB2.size)⟩
    clear hA hC rp2 q2 q3 q4 hpar hbo
    go_loopw [4,7,46] (fun s4 s7 s46 wr => ∃ (q : Nat) (ts : List Tl) (o : List UInt8),s46 = .int .i64 (q : Int) ∧ q ≤ nq ∧ Hid (ts.length = q) ∧ Hid (mailsOf (outs.take q) = .ok (ts.map (·.1))) ∧ Hid (o = bld bd (ts.map (·.1))) ∧ o.length ≤ q * 90076 ∧ Hid (Mem wr w2.heap.size [orr s7 ts,obs s4 o] ts) ∧ Below w2.heap.size w2 wr) (fun _ _ i _ => nq - (intOf i).toNat)
    case atStart => exact ⟨0,[],[],rfl,Nat.zero_le _,Lib.hid rfl,Lib.hid (by simp [mailsOf]),Lib.hid rfl,by simp,Lib.hid (mem_none w2 w2.heap.size),Below.refl _ _⟩
    case round =>
     obtain ⟨q,ts,o,rfl,hql,htq,HM,HOO,hol,hmm,hB⟩ := hrel
     have hs := hB.size
     have htl : ts.length ≤ nq := by rw [htq.out]; exact hql
     obtain ⟨Am,cm,hmv,hmc,_,_,_,_,_⟩ := (hmm.out.get (i := 0) rfl).form
     obtain ⟨Ao,co,hov,hoc,_,_,_,_,_⟩ := (hmm.out.get (i := 1) rfl).form
     simp only [orr,obs] at hmv hmc hov hoc
     subst hmv hov
     by_cases hlt : q < nq
     ·obtain ⟨p,hp⟩ : ∃ p,ps[q]? = some p := ⟨_,List.getElem?_eq_getElem (by rw [HQ.out]; exact hlt)⟩
      obtain ⟨u,hu⟩ : ∃ u,outs[q]? = some u := ⟨_,List.getElem?_eq_getElem (by rw [HO.out]; exact hlt)⟩
      obtain ⟨hCr,hBr⟩ := HCH wr hB
      obtain ⟨b,oo,rfl,hcell⟩ := hCr (by rw [pvs_len,HQ.out]; omega)
      have k0 : wr.cell? ⟨b,oo + q * 5,none⟩ = some (.string (bs p.k)) := by have := hcell _ _ ((pvs_get hp 0 (by omega)).trans rfl); rwa [← Nat.add_assoc] at this
      have k1 : wr.cell? ⟨b,oo + q * 5 + 1,none⟩ = some (.slice p.A p.n p.c) := by have := hcell _ _ ((pvs_get hp 1 (by omega)).trans rfl); rwa [← Nat.add_assoc] at this
      have k2 : wr.cell? ⟨b,oo + q * 5 + 2,none⟩ = some (.int .i64 p.code) := by have := hcell _ _ ((pvs_get hp 2 (by omega)).trans rfl); rwa [← Nat.add_assoc] at this
      have k3 : wr.cell? ⟨b,oo + q * 5 + 3,none⟩ = some (.slice p.B p.nb p.cb) := by have := hcell _ _ ((pvs_get hp 3 (by omega)).trans rfl); rwa [← Nat.add_assoc] at this
      have k4 : wr.cell? ⟨b,oo + q * 5 + 4,none⟩ = some (.slice p.C p.nq p.cc) := by have := hcell _ _ ((pvs_get hp 4 (by omega)).trans rfl); rwa [← Nat.add_assoc] at this
      have hal : Below wr.heap.size wr (wr.alloc (.cells #[.string (bs p.k),.slice p.A p.n p.c,.int .i64 p.code,.slice p.B p.nb p.cb,.slice p.C p.nq p.cc] 34)) := (Below.refl _ _).alloc (Nat.le_refl _) _
      have hcall := H q p u hp hu _ (hBr.trans (hal.mono hBr.size))
      have HU := Lib.hid hu
      have hmA := hmm.out.below hal
      have hBA := hB.trans (hal.mono hs)
      simp only [Pv.val] at hcall
      clear hp hu hcell
      go_wp2_with fail
      refine hcall.mono ?_
      rintro e w3 ⟨hwo,hb3⟩
      have hB3 := hBA.trans (hb3.mono hBA.size)
      have hm3 := hmA.below hb3
      clear hcall k0 k1 k2 k3 k4 hal hmA hBA hb3 hCr
      cases u with
      | error k =>
        simp only [WOut] at hwo
        subst hwo
        have HR := Lib.hid (show joinW bd outs deep = .error k by rw [HJ.out,mailsOf_stop HM.out HU.out]; rfl)
        have hk1 := hk0 k (List.mem_of_getElem? HU.out)
        have hkb : ((k : Int) != 0) = true := by rw [bne_iff_ne]; omega
        clear hk0
        go_wp2_with fail
        go_ret2
        exact ⟨jout_err HR.out rfl,hB2.trans ((hB3.alloc hB3.size _).mono hB2.size)⟩
      | ok m =>
        obtain ⟨LA,lc,LB,lc2,rfl,hRf,hRb,h2c,h2m,hplB⟩ := hwo
        obtain ⟨hwp,hml⟩ := hw m (List.mem_of_getElem? HU.out)
        obtain ⟨f1,f2,f3⟩ := writeP_facts hwp
        have HMS := Lib.hid (mailsOf_step HM.out HU.out)
        obtain ⟨fs,bdy⟩ := m
        obtain ⟨mm,hmm2⟩ : ∃ x,mb (fs,bdy) = x := ⟨_,rfl⟩
        rw [hmm2] at hwp hml HMS
        simp only at hRf hRb h2c hwp f1 f2 f3
        obtain ⟨nf,hnf⟩ : ∃ x,fs.length = x := ⟨_,rfl⟩
        obtain ⟨nbd,hnbd⟩ : ∃ x,bdy.length = x := ⟨_,rfl⟩
        have HNF := Lib.hid hnf
        have HNBD := Lib.hid hnbd
        have HWP := Lib.hid hwp
        simp only [hnf,hnbd] at h2c f1 f2 ⊢
        have hax : Below w3.heap.size w3 (w3.alloc (.cells #[.slice LA nf lc,.slice LB nbd lc2] 39)) := (Below.refl _ _).alloc (Nat.le_refl _) _
        have hlw := Fd.write_any LA LB fs bdy nf lc nbd lc2 (w3.alloc (.cells #[.slice LA nf lc,.slice LB nbd lc2] 39)) HNF.out HNBD.out (Rv.below hRf hax) (hRb.below hax) (fun p hp => ⟨by have := (f3 p hp).1; omega,by have := (f3 p hp).2; omega⟩) (by omega) (by omega)
        have hmx := hm3.below hax
        have hBx := hB3.trans (hax.mono hB3.size)
        clear hmm2 hnf hnbd hwp f3 hw hk0 HM hm3 hRf hRb
        go_wp2_with fail
        refine hlw.mono ?_
        rintro e w4 ⟨hwm,hb4⟩
        rw [HWP.out] at hwm
        obtain ⟨v4,rfl,hv4⟩ := hwm
        obtain ⟨A4,c4,rfl,h4c,h4m,hR4,h4l⟩ := own_slice hv4
        have hB4 := hBx.trans (hb4.mono hBx.size)
        have hm5 := hmx.add (v := .slice A4 mm.length c4) (l := mm) hb4 (OwnM.of (own_base hv4 hBx.size)) (fun k hk => ((OwnM.of hv4).lt k hk).1)
        obtain ⟨X1,hX1⟩ : ∃ x,[45,45] ++ bd ++ [13,10] = x := ⟨_,rfl⟩
        have hX1l : X1.length = bd.length + 4 := by rw [← hX1]; simp
        have hsr1 : ∀ W,Src Tryz.prog 1 9 (.string ((⟨#[45,45]⟩ : ByteArray) ++ bs bd ++ ⟨#[13,10]⟩)) X1.length (X1.map bv) W := fun W => by
         have e : (⟨#[45,45]⟩ : ByteArray) ++ bs bd ++ ⟨#[13,10]⟩ = bs X1 := by rw [← hX1,show (⟨#[45,45]⟩ : ByteArray) = bs [45,45] from rfl,show (⟨#[13,10]⟩ : ByteArray) = bs [13,10] from rfl,bs_add,bs_add]
         rw [e]
         exact Src_str Tryz.underlying9 X1
        have hbld : Hid (o ++ X1 ++ mm ++ [13,10] = bld bd ((ts ++ [(mm,Value.slice A4 mm.length c4)]).map (·.1))) := Lib.hid (by
         rw [HOO.out,List.map_append,← hX1]
         exact (bldJ_snoc bd _ _).symm)
        have hms2 : Hid (mailsOf (outs.take (q + 1)) = .ok ((ts ++ [(mm,Value.slice A4 mm.length c4)]).map (·.1))) := Lib.hid (by rw [HMS.out,List.map_append]; rfl)
        have HX1 := Lib.hid hX1
        have hs4 := hB4.size
        have hO1 : OwnM (w4.alloc (.cells #[.slice A4 mm.length c4] 22)) w2.heap.size 22 1 (.slice Am ts.length cm) ts.length (ts.map (·.2)) := (hm5.get (i := 0) rfl).alloc _
        have hal5 : Below w4.heap.size w4 (w4.alloc (.cells #[.slice A4 mm.length c4] 22)) := (Below.refl _ _).alloc (Nat.le_refl _) _
        have hm6 := hm5.below hal5
        have hrv1 : Rv (w4.alloc (.cells #[.slice A4 mm.length c4] 22)) (some ⟨w4.heap.size,0,none⟩) [.slice A4 mm.length c4] := Rv_new w4 _ _ _ rfl
        have hone1 : ∀ u ∈ [Value.slice A4 mm.length c4],u.oneCell' = true := by simp [Value.oneCell']
        have hnl1 : [Value.slice A4 mm.length c4].length = 1 * 1 := rfl
        have hbd1 : (ts.length + 1) * 24 ≤ 140737488355328 := by omega
        have hB6 := hB4.trans (hal5.mono hB4.size)
        have hs6 := hB6.size
        have hR6 := hR4.below hal5
        have hx1 : (o.length + X1.length) * 1 ≤ 140737488355328 := by omega
        have hx2 : ((o ++ X1).length + mm.length) * 1 ≤ 140737488355328 := by rw [List.length_append]; omega
        have hx3 : ((o ++ X1 ++ mm).length + [(13 : UInt8),10].length) * 1 ≤ 140737488355328 := by simp only [List.length_append,List.length_cons,List.length_nil]; omega
        clear hX1 HMS HOO hmx hm5 hal5 hv4 hR4 hax hlw hb4 HWP HU
        go_wp2_with (first
         | (at_builtin; refine wpList_appM rfl _ _ _ _ rfl TBs hO1 rfl (Src_rv Tryz.underlying66 hnl1 hrv1 hone1 Nat.one_pos) rfl hbd1 hs6 ?_; intro v7 W7 own7 gr7 at7; have hB7 := below_appM hB6 hO1 gr7 hs6 (Nat.le_refl _); have hm7 := hm6.upd (i := 0) (o' := orr v7 (ts ++ [(mm,Value.slice A4 mm.length c4)])) rfl (Ext.of_grown (S := fun k => nb (Value.slice Am ts.length cm) k) gr7 (fun k e => e)) (own_orr own7) (fun k hk => at_new at7 hk); have hO7 := hm7.get (i := 1) rfl; have hs7 := hB7.size)
         | (at_builtin; refine wpList_appM rfl _ _ _ _ rfl TU8 hO7 rfl (hsr1 _) rfl hx1 hs7 ?_; intro v8 W8 own8 gr8 at8; have hB8 := below_appM hB7 hO7 gr8 hs7 (Nat.le_refl _); have hm8 := hm7.upd (i := 1) (o' := obs v8 (o ++ X1)) rfl (Ext.of_grown (S := fun k => nb (Value.slice Ao o.length co) k) gr8 (fun k e => e)) (own_obs (m := X1) own8) (fun k hk => at_new at8 hk); have hO8 := hm8.get (i := 1) rfl; have hs8 := hB8.size; have hr8 := (hm8.ls _ (List.mem_append_right ts (List.mem_singleton.2 rfl))).1)
         | (at_builtin; refine wpList_appM rfl _ _ _ _ rfl TU8 hO8 rfl (Src_rb Tryz.underlying22 rfl (own_rvM hr8)) rfl hx2 hs8 ?_; intro v9 W9 own9 gr9 at9; have hB9 := below_appM hB8 hO8 gr9 hs8 (Nat.le_refl _); have hm9 := hm8.upd (i := 1) (o' := obs v9 (o ++ X1 ++ mm)) rfl (Ext.of_grown (S := fun k => nb v8 k) gr9 (fun k e => e)) (own_obs (m := mm) own9) (fun k hk => at_new at9 hk); have hO9 := hm9.get (i := 1) rfl; have hs9 := hB9.size)
         | (at_builtin; refine wpList_appM rfl _ _ _ _ rfl TU8 hO9 rfl (Src_str Tryz.underlying9 [13,10]) rfl hx3 hs9 ?_; intro v10 W10 own10 gr10 at10; have hB10 := below_appM hB9 hO9 gr10 hs9 (Nat.le_refl _); have hm10 := hm9.upd (i := 1) (o' := obs v10 (o ++ X1 ++ mm ++ [13,10])) rfl (Ext.of_grown (S := fun k => nb v9 k) gr10 (fun k e => e)) (own_obs (m := [13,10]) own10) (fun k hk => at_new at10 hk)))
        go_roundw
        case rel => exact ⟨q + 1,ts ++ [(mm,Value.slice A4 mm.length c4)],o ++ X1 ++ mm ++ [13,10],by go_num,by omega,Lib.hid (by simp [htq.out]),hms2,hbld,by simp only [List.length_append,List.length_cons,List.length_nil]; omega,Lib.hid hm10,hB10⟩
        case measure => simp [intOf]; omega
     ·obtain rfl : q = nq := by omega
      have hml : mailsOf outs = .ok (ts.map (·.1)) := by
       have h := HM.out
       rwa [List.take_of_length_le (by rw [HO.out]; exact Nat.le_refl _)] at h
      have HJ2 := Lib.hid (show joinW bd outs deep = if (splitS (bodyJ bd (ts.map (·.1))) bd).1 = ts.map (·.1) then .ok (bodyJ bd (ts.map (·.1))) else .error 3 by rw [HJ.out,hml]; rfl)
      obtain ⟨X2,hX2⟩ : ∃ x,[45,45] ++ bd ++ [45,45,13,10] = x := ⟨_,rfl⟩
      have hX2l : X2.length = bd.length + 6 := by rw [← hX2]; simp
      have hsr2 : ∀ W,Src Tryz.prog 1 9 (.string ((⟨#[45,45]⟩ : ByteArray) ++ bs bd ++ ⟨#[45,45]⟩ ++ ⟨#[13,10]⟩)) X2.length (X2.map bv) W := fun W => by
       have e : (⟨#[45,45]⟩ : ByteArray) ++ bs bd ++ ⟨#[45,45]⟩ ++ ⟨#[13,10]⟩ = bs X2 := by
        rw [← hX2,show (⟨#[45,45]⟩ : ByteArray) = bs [45,45] from rfl,show (⟨#[13,10]⟩ : ByteArray) = bs [13,10] from rfl,bs_add,bs_add,bs_add]
        congr 1
        simp
       rw [e]
       exact Src_str Tryz.underlying9 X2
      obtain ⟨Y,hY⟩ : ∃ x,o ++ X2 = x := ⟨_,rfl⟩
      obtain ⟨L,hL⟩ : ∃ x,ts.map (·.1) = x := ⟨_,rfl⟩
      have hYJ : bodyJ bd L = Y := by rw [← hY,HOO.out,← hX2,hL]; rfl
      rw [hL,hYJ] at HJ2
      obtain ⟨nY,hnY⟩ : ∃ x,Y.length = x := ⟨_,rfl⟩
      have hnYe : nY = o.length + X2.length := by rw [← hnY,← hY,List.length_append]
      have HY := Lib.hid hY
      have HL := Lib.hid hL
      have HNY := Lib.hid hnY
      have HLL := Lib.hid (show L.length = ts.length by rw [← hL]; simp)
      obtain ⟨P,hP⟩ : ∃ x,(splitS Y bd).1 = x := ⟨_,rfl⟩
      rw [hP] at HJ2
      have HP := Lib.hid hP
      obtain ⟨z,hz⟩ : ∃ z,(splitS Y bd).2 = z := ⟨_,rfl⟩
      have HZ := Lib.hid hz
      have hO1 := hmm.out.get (i := 1) rfl
      have hx1 : (o.length + X2.length) * 1 ≤ 140737488355328 := by omega
      have hnYb : nY ≤ 950000 := by omega
      clear hX2 hml HM HOO hY hL hYJ hnY hP hz hnYe hX2l
      go_wp2_with (at_builtin; refine wpList_appM rfl _ _ _ _ rfl TU8 hO1 rfl (hsr2 _) rfl hx1 hs ?_; intro v5 W5 own5 gr5 at5; have hB5 := below_appM hB hO1 gr5 hs (Nat.le_refl _); have hm5 := hmm.out.upd (i := 1) (o' := obs v5 (o ++ X2)) rfl (Ext.of_grown (S := fun k => nb (Value.slice Ao o.length co) k) gr5 (fun k e => e)) (own_obs (m := X2) own5) (fun k hk => at_new at5 hk); have hO5 := hm5.get (i := 1) rfl; obtain ⟨A5,c5,hv5,h5c,h5m,hR5,_,h5n,h5p⟩ := hO5.form)
      simp only [obs] at hv5 h5c hR5
      rw [HY.out] at hv5 h5c hR5
      rw [HNY.out] at hv5 h5c
      subst hv5
      have hpl5 : Pl A5 c5 := by
       rcases h5p with h | ⟨b,h⟩
       ·exact .inl ⟨h,h5n h⟩
       ·exact .inr ⟨b,0,h⟩
      refine (split_any A5 Y bd nY c5 W5 HNY.out hR5 hpl5 h5c h5m (by omega) (by omega)).mono ?_
      rintro e W6 ⟨A6,c6,rfl,h6c,hR6,hB6⟩
      rw [HP.out] at h6c hR6 ⊢
      rw [HZ.out]
      have hm6 := hm5.below hB6
      have hB6' := hB5.trans (hB6.mono hB5.size)
      obtain ⟨nP,hnP⟩ : ∃ x,P.length = x := ⟨_,rfl⟩
      rw [hnP] at h6c ⊢
      have hRm : RR W6 Am (ts.map (·.1)) := RR_of (n := ts.length) (hm6.get (i := 0) rfl) hm6.ls (fun t ht => ht)
      rw [HL.out] at hRm
      have hnPb : nP ≤ 1000000 := by rw [← hnP,← HP.out]; have := sS_len Y bd; rw [HNY.out] at this; omega
      have heq := eqf_any A6 Am P L nP ts.length c6 cm W6 hnP HLL.out hR6 hRm hnPb (by omega)
      obtain ⟨tf,htf⟩ : ∃ x,decide (P = L) = x := ⟨_,rfl⟩
      rw [htf] at heq
      have HTF := Lib.hid htf
      have hO6 := hm6.get (i := 1) rfl
      clear hnP htf hR6 hRm hm5 own5
      go_wp2_with fail
      refine heq.mono ?_
      rintro e W7 ⟨rfl,hb7⟩
      have hO7 := hO6.below hb7
      cases tf with
      | true =>
        go_wp2_with fail
        go_ret2
        refine ⟨?_,hB2.trans ((hB6'.trans (hb7.mono hB6'.size)).mono hB2.size)⟩
        rw [HJ2.out,if_pos (of_decide_eq_true HTF.out)]
        refine ⟨_,rfl,?_⟩
        simp only [obs] at hO7
        rw [HY.out] at hO7
        exact hO7.rebase hB2.size
      | false =>
        have HR := Lib.hid (show joinW bd outs deep = .error 3 by rw [HJ2.out,if_neg (of_decide_eq_false HTF.out)])
        go_wp2_with fail
        go_ret2
        exact ⟨jout_err HR.out rfl,hB2.trans ((hB6'.trans (hb7.mono hB6'.size)).mono hB2.size)⟩
end
end Go.Proofs.YtkllecicddfjpaaGreatDoor
