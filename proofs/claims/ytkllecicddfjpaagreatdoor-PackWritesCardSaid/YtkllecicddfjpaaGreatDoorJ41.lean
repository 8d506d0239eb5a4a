/- The walk of the law, part 41. -/
import Derived.Test.YtkllecicddfjpaaGreatDoorJ36
import Derived.Test.YtkllecicddfjpaaGreatDoorJ40
import Derived.Test.YtkllecicddfjpaaGreatDoorJ20
import Derived.Test.YtkllecicddfjpaaGreatDoorJ04
set_option maxRecDepth 100000
set_option maxHeartbeats 16000000
set_option linter.unusedVariables false
set_option linter.unusedSimpArgs false
namespace Go.Proofs.YtkllecicddfjpaaGreatDoor
section
def gc (c : UInt8) : Prop := 33 ≤ c.toNat ∧ c.toNat ≤ 126
theorem gc_sg {c : UInt8} (h : gc c) : sgc c = true := by
 obtain ⟨h1,h2⟩ := h
 unfold sgc
 simp only [Bool.or_eq_true,Bool.and_eq_true,decide_eq_true_eq]
 exact .inr ⟨by omega,h2⟩
theorem gc_blk {c : UInt8} (h : gc c) : blk c = false := by
 obtain ⟨h1,h2⟩ := h
 cases hb : blk c with
 | false => rfl
 | true =>
   exfalso
   unfold blk at hb
   simp only [Bool.or_eq_true,beq_iff_eq] at hb
   rcases hb with rfl | rfl
   ·exact absurd h1 (by decide)
   ·exact absurd h1 (by decide)
theorem vl_of {l : List UInt8} (h : ∀ c ∈ l,gc c) (hl : l.length ≤ 8192) : vlOk l = true := by
 unfold vlOk edges
 simp only [Bool.and_eq_true,decide_eq_true_eq,List.all_eq_true]
 refine ⟨⟨fun c hc => gc_sg (h c hc),hl⟩,?_,?_⟩
 ·cases hh : l.head? with
  | none => rfl
  | some c => simp [gc_blk (h c (List.mem_of_mem_head? hh))]
 ·cases hh : l.getLast? with
  | none => rfl
  | some c => simp [gc_blk (h c (List.mem_of_getLast? hh))]
theorem ad_gc {s : List UInt8} (h : adB s = true) : ∀ c ∈ s,gc c := by
 unfold adB at h
 cases ha : Tk.addrP s with
 | error k => rw [ha] at h; cases h
 | ok a =>
   rw [ha] at h
   obtain rfl : a = s := by simpa using h
   obtain ⟨x,y,rfl,hx,hy⟩ := Tk.addr_parts ha
   have kc : ∀ c : UInt8,Tk.atc c = true ∨ c = 46 → gc c := by
    rintro c (hc | rfl)
    ·unfold Tk.atc at hc
     simp only [Bool.and_eq_true,decide_eq_true_eq] at hc
     exact ⟨hc.1.1,hc.1.2⟩
    ·exact ⟨by decide,by decide⟩
   have key : ∀ z : List UInt8,Tk.dotP z = true → ∀ c ∈ z,gc c := by
    intro z hz c hc
    have hz' : Tk.dotGo 46 z = true := by rw [Tk.dot_eq]; exact hz
    exact kc c (Tk.dotGo_chars z 46 hz' c hc)
   intro c hc
   rcases List.mem_append.1 hc with hc | hc
   ·exact key x hx c hc
   ·rcases List.mem_cons.1 hc with rfl | hc
    ·exact ⟨by decide,by decide⟩
    ·exact key _ (by rw [Tk.dotP_small]; exact hy) c hc
theorem bd_okc {c : UInt8} (h : Pk.bdC c = true) : Tk.okc c = true := by
 unfold Pk.bdC at h
 simp only [Bool.and_eq_true,decide_eq_true_eq,Bool.not_eq_true'] at h
 obtain ⟨⟨h1,h2⟩,h3⟩ := h
 have h1' : (33 : UInt8).toNat ≤ c.toNat := h1
 have h2' : c.toNat ≤ (126 : UInt8).toNat := h2
 rw [Tk.okc_iff]
 have hn : ∀ x ∈ Pk.sgn,c ≠ x := fun x hx e => by
  subst e
  rw [List.contains_iff_mem.2 hx] at h3
  cases h3
 refine ⟨?_,hn 60 (by decide),hn 62 (by decide),hn 40 (by decide),hn 41 (by decide),hn 34 (by decide),hn 92 (by decide)⟩
 unfold Tk.prc
 simp only [Bool.and_eq_true,decide_eq_true_eq]
 exact ⟨h1',h2'⟩
theorem id_gc {s : List UInt8} (h : Pk.idOk s = true) : ∀ c ∈ s,gc c := by
 unfold Pk.idOk at h
 simp only [Bool.and_eq_true,List.all_eq_true] at h
 intro c hc
 have := bd_okc (h.2 c hc)
 rw [Tk.okc_iff] at this
 have h1 := this.1
 unfold Tk.prc at h1
 simp only [Bool.and_eq_true,decide_eq_true_eq] at h1
 exact h1
theorem id_one {s : List UInt8} (h : Pk.idOk s = true) : Tk.idsP ([60] ++ s ++ [62]) = .ok [s] := by
 have h1 : Tk.okId s = true := by
  unfold Pk.idOk at h
  simp only [Bool.and_eq_true,List.all_eq_true,decide_eq_true_eq] at h
  unfold Tk.okId
  simp only [Bool.and_eq_true,List.all_eq_true]
  refine ⟨fun c hc => bd_okc (h.2 c hc),?_⟩
  cases s with
  | nil => exact absurd h.1.1 (by simp)
  | cons c r => rfl
 have h2 := Tk.lists_ok [(0,s)] (by simpa using h1)
 have e : [(0,s)].flatMap Tk.itemT = [60] ++ s ++ [62] := by simp [Tk.itemT,Tk.sepT]
 rw [e] at h2
 exact h2
theorem ad_one {s : List UInt8} (h : adB s = true) : Tk.addrP s = .ok s := by
 unfold adB at h
 cases ha : Tk.addrP s with
 | error k => rw [ha] at h; cases h
 | ok a =>
   rw [ha] at h
   obtain rfl : a = s := by simpa using h
   rfl
theorem gsign_gc (ys : List UInt8) (i : Nat) : gc (Ar.gsign ys i) := by
 unfold Ar.gsign
 split
 ·exact ⟨by decide,by decide⟩
 ·have hT : Ar.gnum ys 3 / 2 ^ (18 - 6 * i) % 64 < 64 := Nat.mod_lt _ (by omega)
  generalize Ar.gnum ys 3 / 2 ^ (18 - 6 * i) % 64 = T at *
  have hl : T < Ar.sgs.length := hT
  have key : ∀ c ∈ Ar.sgs,33 ≤ c.toNat ∧ c.toNat ≤ 126 := by decide
  rw [List.getD_eq_getElem?_getD,List.getElem?_eq_getElem hl]
  exact key _ (List.getElem_mem hl)
theorem enc_gc (xs : List UInt8) : ∀ c ∈ Ar.enc xs,gc c := by
 intro c hc
 unfold Ar.enc at hc
 obtain ⟨j,_,h⟩ := List.mem_flatMap.1 hc
 unfold Ar.enc3 at h
 split at h
 ·simp at h
 ·obtain ⟨i,_,rfl⟩ := List.mem_map.1 h
  exact gsign_gc _ _
def m1P : Mail := ([(ctN,Tk.writeB oursN []),(cteN,codeN 0)],verB)
def m2P (c : List UInt8) : Mail := ([(ctN,Tk.writeB octN []),(cteN,codeN 1)],encB 1 c)
def inM (x : En) : Mail := if x.plain then ([(ctN,Tk.writeB textN []),(cteN,codeN 1)],encB 1 x.cip) else ([(ctN,Tk.writeB sealN prms)],bodyJ bordN [mb m1P,mb (m2P x.cip)])
def packM (x : En) : Mail := (headP x ++ (inM x).1,(inM x).2)
theorem writeP_of2 {fs : List (List UInt8 × List UInt8)} {bd : List UInt8} (hr : Fd.rightF fs = true) (hf : fs.length ≤ 200) (hl : (Fd.foldAll fs).length ≤ 60000) (hb : bd.length ≤ 1000000) : Fd.writeP fs bd = .ok (Fd.foldAll fs ++ [13,10] ++ bd) := by
 unfold Fd.writeP
 rw [if_pos hr,if_neg]
 rw [List.length_append]
 simp only [List.length_cons,List.length_nil]
 omega
theorem c1 : Fd.rightF m1P.1 = true ∧ Fd.foldAll m1P.1 ++ [13,10] = ctN ++ [58,32] ++ oursN ++ ([13,10] ++ (cteN ++ [58,32] ++ codeN 0 ++ ([13,10] ++ ([] ++ ([13,10] ++ []))))) ∧ (Fd.foldAll m1P.1).length ≤ 200 ∧ Tk.rightB oursN [] = true := by decide +kernel
theorem c2 : Fd.rightF [(ctN,Tk.writeB octN []),(cteN,codeN 1)] = true ∧ Fd.foldAll [(ctN,Tk.writeB octN []),(cteN,codeN 1)] ++ [13,10] = ctN ++ [58,32] ++ octN ++ ([13,10] ++ (cteN ++ [58,32] ++ codeN 1 ++ ([13,10] ++ ([] ++ ([13,10] ++ []))))) ∧ (Fd.foldAll [(ctN,Tk.writeB octN []),(cteN,codeN 1)]).length ≤ 200 ∧ Tk.rightB octN [] = true := by decide +kernel
theorem c3 : Fd.rightF [(ctN,Tk.writeB textN []),(cteN,codeN 1)] = true ∧ (Fd.foldAll [(ctN,Tk.writeB textN []),(cteN,codeN 1)]).length ≤ 200 ∧ Tk.rightB textN [] = true := by decide +kernel
theorem c4 : Fd.rightF [(ctN,Tk.writeB sealN prms)] = true ∧ (Fd.foldAll [(ctN,Tk.writeB sealN prms)]).length ≤ 200 ∧ Tk.rightB sealN prms = true ∧ paramP prms bdN = bordN ∧ bdOk bordN = true := by decide +kernel
theorem c5 : (∀ x ∈ ctN ++ [58,32] ++ oursN,x ≠ 10) ∧ mk bordN (ctN ++ [58,32] ++ oursN) = 0 ∧ (∀ x ∈ cteN ++ [58,32] ++ codeN 0,x ≠ 10) ∧ mk bordN (cteN ++ [58,32] ++ codeN 0) = 0 ∧ (∀ x ∈ verB,x ≠ 10) ∧ mk bordN verB = 0 := by decide +kernel
theorem c6 : (∀ x ∈ ctN ++ [58,32] ++ octN,x ≠ 10) ∧ mk bordN (ctN ++ [58,32] ++ octN) = 0 ∧ (∀ x ∈ cteN ++ [58,32] ++ codeN 1,x ≠ 10) ∧ mk bordN (cteN ++ [58,32] ++ codeN 1) = 0 := by decide +kernel
theorem m1_mb : Fd.writeP m1P.1 m1P.2 = .ok (mb m1P) ∧ mb m1P = Fd.foldAll m1P.1 ++ [13,10] ++ verB ∧ (mb m1P).length ≤ 300 := by
 have hw := writeP_of2 (bd := m1P.2) c1.1 (by decide) (by have := c1.2.2.1; omega) (by decide)
 have hm : mb m1P = Fd.foldAll m1P.1 ++ [13,10] ++ verB := mb_of (m := m1P) hw
 refine ⟨by rw [hm]; exact hw,hm,?_⟩
 rw [hm,List.length_append,List.length_append]
 have := c1.2.2.1
 simp only [List.length_cons,List.length_nil]
 omega
theorem enc1_len {c : List UInt8} (h : c.length ≤ 3000) : (encB 1 c).length ≤ 8000 := by
 have := encB_bound 1 c
 omega
theorem m2_mb {c : List UInt8} (h : c.length ≤ 3000) : Fd.writeP (m2P c).1 (m2P c).2 = .ok (mb (m2P c)) ∧ mb (m2P c) = Fd.foldAll (m2P c).1 ++ [13,10] ++ encB 1 c ∧ (mb (m2P c)).length ≤ 9000 := by
 have hl := enc1_len h
 have hw := writeP_of2 (fs := (m2P c).1) (bd := (m2P c).2) c2.1 (by simp [m2P]) (by have : (Fd.foldAll (m2P c).1).length ≤ 200 := c2.2.2.1; omega) (by show (encB 1 c).length ≤ 1000000; omega)
 have hm : mb (m2P c) = Fd.foldAll (m2P c).1 ++ [13,10] ++ encB 1 c := mb_of (m := m2P c) hw
 refine ⟨by rw [hm]; exact hw,hm,?_⟩
 rw [hm,List.length_append,List.length_append]
 have : (Fd.foldAll (m2P c).1).length ≤ 200 := c2.2.2.1
 simp only [List.length_cons,List.length_nil]
 omega
theorem m1_ok : okB bordN (mb m1P) := by
 obtain ⟨a1,a2,a3,a4,a5,a6⟩ := c5
 have e : mb m1P = (ctN ++ [58,32] ++ oursN) ++ ([13,10] ++ ((cteN ++ [58,32] ++ codeN 0) ++ ([13,10] ++ ([] ++ ([13,10] ++ verB))))) := by
  rw [m1_mb.2.1,c1.2.1]
  simp only [List.append_assoc,List.nil_append,List.cons_append]
 rw [e]
 exact okB_app (okB_one a1 a2) (okB_app (okB_one a3 a4) (okB_app (okB_nil _) (okB_one a5 a6)))
theorem m2_ok {c : List UInt8} (h : c.length ≤ 3000) : okB bordN (mb (m2P c)) := by
 obtain ⟨a1,a2,a3,a4⟩ := c6
 have e : mb (m2P c) = (ctN ++ [58,32] ++ octN) ++ ([13,10] ++ ((cteN ++ [58,32] ++ codeN 1) ++ ([13,10] ++ ([] ++ ([13,10] ++ encB 1 c))))) := by
  rw [(m2_mb h).2.1]
  have : Fd.foldAll (m2P c).1 ++ [13,10] = _ := c2.2.1
  rw [this]
  simp only [List.append_assoc,List.nil_append,List.cons_append]
 rw [e]
 exact okB_app (okB_one a1 a2) (okB_app (okB_one a3 a4) (okB_app (okB_nil _) (okB_lin _ c)))
theorem in_split {c : List UInt8} (h : c.length ≤ 3000) : splitS (bodyJ bordN [mb m1P,mb (m2P c)]) bordN = ([mb m1P,mb (m2P c)],0) :=
 split_bodyJ c4.2.2.2.2 (by simp) (by
  intro p hp
  simp only [List.mem_cons,List.mem_nil_iff,or_false] at hp
  rcases hp with rfl | rfl
  ·exact m1_ok
  ·exact m2_ok h)
theorem in_body {c : List UInt8} (h : c.length ≤ 3000) : (bodyJ bordN [mb m1P,mb (m2P c)]).length ≤ 20000 := by
 have h1 := m1_mb.2.2
 have h2 := (m2_mb h).2.2
 have := bldJ_len bordN 9000 [mb m1P,mb (m2P c)] (by
  intro p hp
  simp only [List.mem_cons,List.mem_nil_iff,or_false] at hp
  rcases hp with rfl | rfl
  ·omega
  ·exact h2)
 unfold bodyJ
 rw [List.length_append]
 simp only [List.length_append,List.length_cons,List.length_nil] at this ⊢
 omega
theorem chkM_of {m : Mail} {b : List UInt8} (h : Fd.writeP m.1 m.2 = .ok b) : chkM m = .ok m := by
 unfold chkM
 rw [h]
theorem leaf_1 : leafW oursN [] 0 verB = .ok m1P := by
 unfold leafW
 rw [if_pos c1.2.2.2]
 exact chkM_of m1_mb.1
theorem leaf_2 {c : List UInt8} (h : c.length ≤ 3000) : leafW octN [] 1 c = .ok (m2P c) := by
 unfold leafW
 rw [if_pos c2.2.2.2]
 exact chkM_of (m2_mb h).1
theorem part_body {x : En} (h : x.cip.length ≤ 3000) : (inM x).2.length ≤ 20000 := by
 unfold inM
 split
 ·have := enc1_len h
  show (encB 1 x.cip).length ≤ _
  omega
 ·exact in_body h
theorem partW_is {x : En} (h : x.cip.length ≤ 3000) : partW x = .ok (inM x) := by
 have hb := part_body h
 unfold partW
 by_cases hp : x.plain = true
 ·have e : inM x = ([(ctN,Tk.writeB textN []),(cteN,codeN 1)],encB 1 x.cip) := by unfold inM; rw [if_pos hp]
  rw [if_pos hp,e]
  rw [e] at hb
  unfold leafW
  rw [if_pos c3.2.2]
  exact chkM_of (m := ([(ctN,Tk.writeB textN []),(cteN,codeN 1)],encB 1 x.cip)) (writeP_of2 (fs := [(ctN,Tk.writeB textN []),(cteN,codeN 1)]) (bd := encB 1 x.cip) c3.1 (by simp) (by have := c3.2.1; omega) (by have h2 : (encB 1 x.cip).length ≤ 20000 := hb; omega))
 ·have e : inM x = ([(ctN,Tk.writeB sealN prms)],bodyJ bordN [mb m1P,mb (m2P x.cip)]) := by unfold inM; rw [if_neg hp]
  rw [if_neg hp,e]
  rw [e] at hb
  unfold multiW
  rw [if_pos c4.2.2.1,c4.2.2.2.1,leaf_1,leaf_2 h]
  have hj : joinW bordN [.ok m1P,.ok (m2P x.cip)] 0 = .ok (bodyJ bordN [mb m1P,mb (m2P x.cip)]) := by
   unfold joinW
   rw [if_neg (by rw [c4.2.2.2.2]; simp),if_neg (by omega)]
   show joinG bordN (.ok [mb m1P,mb (m2P x.cip)]) = _
   unfold joinG
   simp only
   rw [if_pos (by rw [in_split h])]
  rw [hj]
  exact chkM_of (m := ([(ctN,Tk.writeB sealN prms)],bodyJ bordN [mb m1P,mb (m2P x.cip)])) (writeP_of2 (fs := [(ctN,Tk.writeB sealN prms)]) (bd := bodyJ bordN [mb m1P,mb (m2P x.cip)]) c4.1 (by simp) (by have := c4.2.1; omega) (by have h2 : (bodyJ bordN [mb m1P,mb (m2P x.cip)]).length ≤ 20000 := hb; omega))
theorem packW_is {x : En} (h : x.cip.length ≤ 3000) : packW x = if 3000 < x.bun.length then .error 4 else if enB x = false then .error 3 else .ok (packM x) := by
 unfold packW
 rw [partW_is h]
 rfl
end
section
abbrev frN : List UInt8 := [70,114,111,109]
abbrev toN : List UInt8 := [84,111]
abbrev midN : List UInt8 := [77,101,115,115,97,103,101,45,73,68]
abbrev thrN : List UInt8 := [88,45,84,104,114,101,97,100]
abbrev keyN : List UInt8 := [88,45,75,101,121,115]
theorem ang_gc {s : List UInt8} (h : ∀ c ∈ s,gc c) : ∀ c ∈ [60] ++ s ++ [62],gc c := by
 intro c hc
 simp only [List.mem_append,List.mem_cons,List.mem_nil_iff,or_false] at hc
 rcases hc with (rfl | hc) | rfl
 ·exact ⟨by decide,by decide⟩
 ·exact h c hc
 ·exact ⟨by decide,by decide⟩
theorem id_len {s : List UInt8} (h : Pk.idOk s = true) : s.length ≤ 200 := by
 unfold Pk.idOk at h
 simp only [Bool.and_eq_true,decide_eq_true_eq] at h
 exact h.1.2
theorem nm5 : nmOk frN = true ∧ nmOk toN = true ∧ nmOk midN = true ∧ nmOk thrN = true ∧ nmOk keyN = true := by decide +kernel
theorem enc_len3 {b : List UInt8} (h : b.length ≤ 3000) : (Ar.enc b).length ≤ 4000 := by
 have := Ar.enc_length b
 omega
theorem head_ok {x : En} (he : enB x = true) (hb : x.bun.length ≤ 3000) (hf : x.fr.length ≤ 300) (ht : x.too.length ≤ 300) : Fd.rightF (headP x) = true ∧ (Fd.foldAll (headP x)).length ≤ 20000 ∧ (headP x).length ≤ 5 := by
 unfold enB at he
 simp only [Bool.and_eq_true] at he
 obtain ⟨⟨⟨h1,h2⟩,h3⟩,h4⟩ := he
 obtain ⟨n1,n2,n3,n4,n5⟩ := nm5
 have l3 := id_len h3
 have l4 := id_len h4
 have l5 := enc_len3 hb
 have v1 : vlOk x.fr = true := vl_of (ad_gc h1) (by omega)
 have v2 : vlOk x.too = true := vl_of (ad_gc h2) (by omega)
 have v3 : vlOk ([60] ++ x.id ++ [62]) = true := vl_of (ang_gc (id_gc h3)) (by simp; omega)
 have v4 : vlOk ([60] ++ x.th ++ [62]) = true := vl_of (ang_gc (id_gc h4)) (by simp; omega)
 have v5 : vlOk (Ar.enc x.bun) = true := vl_of (enc_gc _) (by omega)
 have f1 := Fd.foldF_len frN x.fr
 have f2 := Fd.foldF_len toN x.too
 have f3 := Fd.foldF_len midN ([60] ++ x.id ++ [62])
 have f4 := Fd.foldF_len thrN ([60] ++ x.th ++ [62])
 have f5 := Fd.foldF_len keyN (Ar.enc x.bun)
 have fe : Fd.foldAll [(frN,x.fr),(toN,x.too),(midN,[60] ++ x.id ++ [62]),(thrN,[60] ++ x.th ++ [62])] = Fd.foldF frN x.fr ++ (Fd.foldF toN x.too ++ (Fd.foldF midN ([60] ++ x.id ++ [62]) ++ (Fd.foldF thrN ([60] ++ x.th ++ [62]) ++ []))) := rfl
 have fe5 : Fd.foldAll [(keyN,Ar.enc x.bun)] = Fd.foldF keyN (Ar.enc x.bun) ++ [] := rfl
 have fap : ∀ a b : List (List UInt8 × List UInt8),Fd.foldAll (a ++ b) = Fd.foldAll a ++ Fd.foldAll b := fun a b => List.flatMap_append
 have g1 : (Fd.foldAll [(frN,x.fr),(toN,x.too),(midN,[60] ++ x.id ++ [62]),(thrN,[60] ++ x.th ++ [62])]).length ≤ 7000 := by
  rw [fe]
  simp only [List.length_append,List.length_cons,List.length_nil] at f1 f2 f3 f4 ⊢
  omega
 have g5 : (Fd.foldAll [(keyN,Ar.enc x.bun)]).length ≤ 12100 := by
  rw [fe5]
  simp only [List.length_append,List.length_cons,List.length_nil] at f5 ⊢
  omega
 have r4 : Fd.rightF [(frN,x.fr),(toN,x.too),(midN,[60] ++ x.id ++ [62]),(thrN,[60] ++ x.th ++ [62])] = true := by
  unfold Fd.rightF
  simp only [List.all_cons,List.all_nil,Bool.and_eq_true]
  exact ⟨⟨n1,v1⟩,⟨n2,v2⟩,⟨n3,v3⟩,⟨n4,v4⟩,trivial⟩
 have e : headP x = [(frN,x.fr),(toN,x.too),(midN,[60] ++ x.id ++ [62]),(thrN,[60] ++ x.th ++ [62])] ++ (if x.bun = [] then [] else [(keyN,Ar.enc x.bun)]) := rfl
 by_cases hn : x.bun = []
 ·rw [e,if_pos hn,List.append_nil]
  exact ⟨r4,by omega,by simp⟩
 ·rw [e,if_neg hn]
  refine ⟨?_,?_,by simp⟩
  ·unfold Fd.rightF at r4 ⊢
   rw [List.all_append,r4]
   simp only [List.all_cons,List.all_nil,Bool.true_and,Bool.and_true]
   rw [n5,v5]
   rfl
  ·rw [fap,List.length_append]
   omega
theorem in_ok (x : En) : Fd.rightF (inM x).1 = true ∧ (Fd.foldAll (inM x).1).length ≤ 200 ∧ (inM x).1.length ≤ 2 := by
 unfold inM
 split
 ·exact ⟨c3.1,c3.2.1,by simp⟩
 ·exact ⟨c4.1,c4.2.1,by simp⟩
theorem pack_mb {x : En} (he : enB x = true) (hb : x.bun.length ≤ 3000) (hf : x.fr.length ≤ 300) (ht : x.too.length ≤ 300) (hc : x.cip.length ≤ 3000) :
 Fd.writeP (packM x).1 (packM x).2 = .ok (mb (packM x)) ∧ (mb (packM x)).length ≤ 60000 ∧ (packM x).1.length ≤ 7 ∧ (packM x).2.length ≤ 20000 := by
 obtain ⟨r1,l1,n1⟩ := head_ok he hb hf ht
 obtain ⟨r2,l2,n2⟩ := in_ok x
 have hbd := part_body hc
 have fap : ∀ a b : List (List UInt8 × List UInt8),Fd.foldAll (a ++ b) = Fd.foldAll a ++ Fd.foldAll b := fun a b => List.flatMap_append
 have hr : Fd.rightF (packM x).1 = true := by
  show Fd.rightF (headP x ++ (inM x).1) = true
  unfold Fd.rightF at r1 r2 ⊢
  rw [List.all_append,r1,r2]
  rfl
 have hn : (packM x).1.length ≤ 7 := by
  show (headP x ++ (inM x).1).length ≤ 7
  rw [List.length_append]
  omega
 have hl : (Fd.foldAll (packM x).1).length ≤ 20200 := by
  show (Fd.foldAll (headP x ++ (inM x).1)).length ≤ 20200
  rw [fap,List.length_append]
  omega
 have hb2 : (packM x).2.length ≤ 20000 := hbd
 have hw := writeP_of2 hr (by omega) (by omega) (bd := (packM x).2) (by omega)
 have hm : mb (packM x) = Fd.foldAll (packM x).1 ++ [13,10] ++ (packM x).2 := mb_of hw
 refine ⟨by rw [hm]; exact hw,?_,hn,hb2⟩
 rw [hm,List.length_append,List.length_append]
 simp only [List.length_cons,List.length_nil]
 omega
theorem vals_pack (x : En) : (Fd.valsN frN (packM x).1).head? = some x.fr ∧ (Fd.valsN toN (packM x).1).head? = some x.too ∧ (Fd.valsN midN (packM x).1).head? = some ([60] ++ x.id ++ [62]) ∧ (Fd.valsN thrN (packM x).1).head? = some ([60] ++ x.th ++ [62]) ∧
 ((Fd.valsN keyN (packM x).1).head?).getD [] = Ar.enc x.bun := by
 unfold packM headP inM
 by_cases hn : x.bun = []
 ·rw [hn]
  by_cases hp : x.plain = true
  ·rw [if_pos rfl,if_pos hp]
   exact ⟨rfl,rfl,rfl,rfl,rfl⟩
  ·rw [if_pos rfl,if_neg hp]
   exact ⟨rfl,rfl,rfl,rfl,rfl⟩
 ·by_cases hp : x.plain = true
  ·rw [if_neg hn,if_pos hp]
   exact ⟨rfl,rfl,rfl,rfl,rfl⟩
  ·rw [if_neg hn,if_neg hp]
   exact ⟨rfl,rfl,rfl,rfl,rfl⟩
theorem vals_in (x : En) : (x.plain = true → (Fd.valsN ctN (packM x).1).head? = some (Tk.writeB textN []) ∧ ((Fd.valsN cteN (packM x).1).head?).getD [] = codeN 1) ∧
 (x.plain = false → (Fd.valsN ctN (packM x).1).head? = some (Tk.writeB sealN prms)) := by
 unfold packM headP inM
 by_cases hn : x.bun = []
 ·rw [hn]
  exact ⟨fun hp => by rw [if_pos rfl,if_pos hp]; exact ⟨rfl,rfl⟩,fun hp => by rw [if_pos rfl,if_neg (by rw [hp]; decide)]; rfl⟩
 ·exact ⟨fun hp => by rw [if_neg hn,if_pos hp]; exact ⟨rfl,rfl⟩,fun hp => by rw [if_neg hn,if_neg (by rw [hp]; decide)]; rfl⟩
theorem vals_m1 : (Fd.valsN ctN m1P.1).head? = some (Tk.writeB oursN []) ∧ codeT m1P.1 = [56,98,105,116] ∧ (((Fd.valsN cteN m1P.1).head?).getD []).length ≤ 1000000 := by decide +kernel
theorem vals_m2 : (Fd.valsN ctN [(ctN,Tk.writeB octN []),(cteN,codeN 1)]).head? = some (Tk.writeB octN []) ∧ codeT [(ctN,Tk.writeB octN []),(cteN,codeN 1)] = [98,97,115,101,54,52] ∧ (((Fd.valsN cteN [(ctN,Tk.writeB octN []),(cteN,codeN 1)]).head?).getD []).length ≤ 1000000 := by decide +kernel
theorem pre_kinds : Lib.hasPrefix oursN mulN = false ∧ Lib.hasPrefix octN mulN = false ∧ Lib.hasPrefix textN mulN = false ∧ Lib.hasPrefix sealN mulN = true ∧ (Tk.trimB (codeN 1)).map small = [98,97,115,101,54,52] := by decide +kernel
end
section
namespace Tk
open Go.RowKit
def IdsOut (r : Except Nat (List (List UInt8))) (w : World) (e : Ending) (w' : World) : Prop := match r with
 | .ok ids => ∃ v,e = .returned (.tuple #[v,.int .i64 0]) ∧ w'.ownsRow w.heap.size 9 1 v ids.length (ids.map sv)
 | .error x => e = .returned (.tuple #[.slice none 0 0,.int .i64 (x : Int)])
theorem idsOut_err {r : Except Nat (List (List UInt8))} {w w' : World} {x : Nat} {e : Ending} (h : r = .error x) (he : e = .returned (.tuple #[.slice none 0 0,.int .i64 (x : Int)])) : IdsOut r w e w' := by rw [h]; exact he
theorem idsOut_ok {r : Except Nat (List (List UInt8))} {ids : List (List UInt8)} {w w' : World} {e : Ending} {v : Value} (h : r = .ok ids) (he : e = .returned (.tuple #[v,.int .i64 0])) (ho : w'.ownsRow w.heap.size 9 1 v ids.length (ids.map sv)) : IdsOut r w e w' := by
 rw [h]
 exact ⟨v,he,ho⟩
def strLen : Value → Nat | .string s => s.size | _ => 0
theorem tpre_any (l : List UInt8) (s : UInt8) (w : World) :
 Calls Tryz.prog 156 #[.string (bs l),.string ⟨#[s]⟩] w fun e w' => e = .returned (.string (bs (if Lib.hasPrefix l [s] then l.drop 1 else l))) ∧ w' = w := by
 have h := Tryz.strings_TrimPrefix (bs l) ⟨#[s]⟩ w
 rw [bs_toList] at h
 exact h
def idsFrom (d : List (List UInt8)) (u : List UInt8) : Except Nat (List (List UInt8)) := (idsIn u).map fun p => d ++ p
theorem idsFrom_0 (b : List UInt8) : idsIn b = idsFrom [] b := by
 unfold idsFrom
 cases idsIn b <;> simp [Except.map]
theorem idsFrom_end {d : List (List UInt8)} {u : List UInt8} (h : trimB u = []) : idsFrom d u = .ok d := by
 unfold idsFrom
 rw [idsIn_eq,h]
 simp [Except.map]
theorem idsFrom_not {d : List (List UInt8)} {u r : List UInt8} {c : UInt8} (h : trimB u = c :: r) (hc : c ≠ 60) : idsFrom d u = .error 3 := by
 unfold idsFrom
 rw [idsIn_eq,h]
 simp only
 rw [if_neg hc]
 rfl
theorem idsFrom_cut {d : List (List UInt8)} {u r : List UInt8} {c : UInt8} (h : trimB u = c :: r) (hc : c = 60) (hn : cutAt 62 r = none) : idsFrom d u = .error 3 := by
 unfold idsFrom
 rw [idsIn_eq,h]
 simp only
 rw [if_pos hc,hn]
 rfl
theorem idsFrom_bad {d : List (List UInt8)} {u r x t : List UInt8} {c : UInt8} (h : trimB u = c :: r) (hc : c = 60) (hn : cutAt 62 r = some (x,t)) (hx : onlyB idc x = false) : idsFrom d u = .error 3 := by
 unfold idsFrom
 rw [idsIn_eq,h]
 simp only
 rw [if_pos hc,hn]
 simp [hx,Except.map]
theorem idsFrom_one {d : List (List UInt8)} {u r x t : List UInt8} {c : UInt8} (h : trimB u = c :: r) (hc : c = 60) (hn : cutAt 62 r = some (x,t)) (hx : onlyB idc x = true) : idsFrom d u = idsFrom (d ++ [x]) t := by
 unfold idsFrom
 rw [idsIn_eq u,h]
 simp only
 rw [if_pos hc,hn]
 simp only [hx,if_true]
 cases idsIn t <;> simp [Except.map]
theorem tids_any (l : List UInt8) (w : World) (hw : Mx w) (hl : l.length ≤ 1000000) :
 Calls Tryz.prog 87 #[.string (bs l)] w fun e w' => IdsOut (idsP l) w e w' ∧ Below w.heap.size w w' := by
 have hb := bare_any l w (by omega)
 cases hbp : bareP l with
 | error k =>
   have hk : ((k : Int) != 0) = true := by have := bareP_err _ _ _ (Nat.le_refl _) hbp; rw [bne_iff_ne]; omega
   have hr : idsP l = .error k := by unfold idsP; rw [hbp]
   have HR := Lib.hid hr
   rw [hbp] at hb
   have hb' : Calls Tryz.prog 130 #[.string (bs l)] w fun e w' => e = .returned (.tuple #[.string (bs []),.int .i64 (k : Int)]) ∧ Below w.heap.size w w' := hb
   clear hb hbp hr
   go_enter Tryz.func87,Tryz.ntmps87
   go_wp2_with fail
   refine hb'.mono ?_
   rintro e w1 ⟨rfl,hb1⟩
   go_wp2_with fail
   go_ret2
   exact ⟨idsOut_err HR.out rfl,hb1⟩
 | ok b =>
   have hbl := bareP_len _ _ _ (Nat.le_refl _) hbp
   have hr : idsP l = idsIn b := by unfold idsP; rw [hbp]
   rw [idsFrom_0] at hr
   have HR := Lib.hid hr
   rw [hbp] at hb
   have hb' : Calls Tryz.prog 130 #[.string (bs l)] w fun e w' => e = .returned (.tuple #[.string (bs b),.int .i64 0]) ∧ Below w.heap.size w w' := hb
   have hbb : b.length ≤ 1000000 := by omega
   clear hb hbp hr
   go_enter Tryz.func87,Tryz.ntmps87
   go_wp2_with fail
   refine hb'.mono ?_
   rintro e w1 ⟨rfl,hb1⟩
   go_wp2_with fail
   refine (tktrim_any b _ (by omega)).mono ?_
   rintro e w2 ⟨rfl,hb2⟩
   have hB2 := hb1.trans (hb2.mono hb1.size)
   clear hb1 hb2 hb'
   go_wp2_with fail
   go_loopw [0,2] (fun s0 v wr => ∃ (u : List UInt8) (k : Nat) (d : List (List UInt8)),s0 = .string (bs (trimB u)) ∧ k + u.length ≤ b.length ∧ Hid (idsP l = idsFrom d u) ∧ wr.ownsRow w.heap.size 9 1 v k (d.map sv) ∧ Below w.heap.size w wr) (fun s0 _ _ => strLen s0)
   case atStart => exact ⟨b,0,[],rfl,by omega,HR,World.ownsRow_nil _ _ _ _,hB2⟩
   case round =>
    clear HR hB2
    obtain ⟨u,k,d,rfl,hku,he,hown,hB⟩ := hrel
    have hs := hB.size
    have htl := trimB_len u
    cases ht : trimB u with
    | nil =>
      have HST := Lib.hid (he.out.trans (idsFrom_end ht))
      have hk2 : d.length = k := by have : (d.map sv).length = k * 1 := hown.1; simpa using this
      clear he ht htl
      go_wp2_with fail
      go_ret2
      exact ⟨idsOut_ok HST.out rfl (by rw [hk2]; exact hown),hB⟩
    | cons c r =>
      rw [ht] at htl
      simp only [List.length_cons] at htl
      have hi0 : ∀ W,(Instr.index 9 (.string (bs (c :: r))) (.int .i64 0)).run Tryz.prog W = .ok (.int .u8 (c.toNat : Int)) W := fun W => str_index (P := Tryz.prog) Tryz.underlying9 (k := 0) (x := c) rfl .i64 W
      have hpre := fun W => tpre_any (c :: r) 60 W
      by_cases hc : c = 60
      ·have hne : ((c.toNat : Int) != 60) = false := by rw [hc]; rfl
       have hp1 : Lib.hasPrefix (c :: r) [60] = true := by rw [hc]; simp [Lib.hasPrefix,List.isPrefixOf]
       rw [hp1] at hpre
       simp only [if_true,List.drop_one,List.tail_cons] at hpre
       have hcut := fun W hW => cut_any r 62 W hW (by omega)
       unfold cutV at hcut
       cases hcc : cutAt 62 r with
       | none =>
         rw [hcc] at hcut
         have HST := Lib.hid (he.out.trans (idsFrom_cut ht hc hcc))
         clear he ht hc hp1 hcc
         go_wp2_with fail
         refine (hpre _).mono ?_
         rintro e w3 ⟨rfl,rfl⟩
         go_wp2_with fail
         refine (hcut _ (hw.below hB)).mono ?_
         rintro e w4 ⟨rfl,hb4⟩
         go_wp2_with fail
         go_ret2
         exact ⟨idsOut_err HST.out rfl,hB.trans (hb4.mono hs)⟩
       | some xt =>
         obtain ⟨x,t⟩ := xt
         have hxl := cutAt_len hcc
         rw [hcc] at hcut
         have hon := fun W => only_ids x W (by omega)
         rcases Bool.eq_false_or_eq_true (onlyB idc x) with hx | hx
         ·have HST := Lib.hid (he.out.trans (idsFrom_one ht hc hcc hx))
          have htr := fun W => tktrim_any t W (by omega)
          have htt := trimB_len t
          rw [hx] at hon
          clear he ht hc hp1 hcc hx
          go_wp2_with fail
          refine (hpre _).mono ?_
          rintro e w3 ⟨rfl,rfl⟩
          go_wp2_with fail
          refine (hcut _ (hw.below hB)).mono ?_
          rintro e w4 ⟨rfl,hb4⟩
          have hB4 := hB.trans (hb4.mono hs)
          have hown4 := own_below hown hb4
          clear hb4
          go_wp2_with fail
          refine (hon _).mono ?_
          rintro e w5 ⟨rfl,hb5⟩
          have hB5 := hB4.trans (hb5.mono hB4.size)
          have hs5 := hB5.size
          have hown5 := own_below hown4 hb5
          clear hb5 hown4 hown hB4
          go_wp2_with (at_builtin; refine wpList_app rfl (.tmp 40) (.tmp 42) _ _ rfl TStr (hown5.alloc (.cells #[sv x] 9)) rfl (Src_rv (news := [sv x]) Tryz.underlying65 rfl (Rv_new w5 _ _ _ rfl) (by simp [Value.oneCell',sv]) (by omega)) rfl (by omega) (by simp; omega) ?_; intro v6 w6 hown6 hgr6 hat6; have hB6 := below_app (hB5.alloc hs5 (.cells #[sv x] 9)) (hown5.alloc _) hgr6 (by simp; omega) (Nat.le_refl _); have hs6 := hB6.size)
          refine (htr _).mono ?_
          rintro e w7 ⟨rfl,hb7⟩
          have hown7 := own_below hown6 hb7
          have hB7 := hB6.trans (hb7.mono hs6)
          go_wp2_with fail
          go_roundw
          case rel => exact ⟨t,k + 1,d ++ [x],rfl,by omega,HST,by rw [List.map_append]; exact hown7,hB7⟩
          case measure => simp [strLen]; omega
         ·have HST := Lib.hid (he.out.trans (idsFrom_bad ht hc hcc hx))
          rw [hx] at hon
          clear he ht hc hp1 hcc hx
          go_wp2_with fail
          refine (hpre _).mono ?_
          rintro e w3 ⟨rfl,rfl⟩
          go_wp2_with fail
          refine (hcut _ (hw.below hB)).mono ?_
          rintro e w4 ⟨rfl,hb4⟩
          have hB4 := hB.trans (hb4.mono hs)
          go_wp2_with fail
          refine (hon _).mono ?_
          rintro e w5 ⟨rfl,hb5⟩
          go_wp2_with fail
          go_ret2
          exact ⟨idsOut_err HST.out rfl,hB4.trans (hb5.mono hB4.size)⟩
      ·have hne : ((c.toNat : Int) != 60) = true := by
        have := u8_bne c 60
        rw [show ((c.toNat : Int) != 60) = (c != 60) from this]
        simp [hc]
       have hp1 : Lib.hasPrefix (c :: r) [60] = false := by
        have : ((60 : UInt8) == c) = false := by rw [beq_eq_false_iff_ne]; exact Ne.symm hc
        simp [Lib.hasPrefix,List.isPrefixOf,this]
       rw [hp1] at hpre
       simp only [Bool.false_eq_true,if_false] at hpre
       have HST := Lib.hid (he.out.trans (idsFrom_not ht hc))
       have hcut := fun W hW => cut_any (c :: r) 62 W hW (by simp; omega)
       generalize cutV 62 (c :: r) = cv at *
       obtain ⟨ca,cb,cf⟩ := cv
       simp only at hcut
       clear he ht hc hp1
       cases cf
       all_goals
        go_wp2_with fail
        refine (hpre _).mono ?_
        rintro e w3 ⟨rfl,rfl⟩
        go_wp2_with fail
        refine (hcut _ (hw.below hB)).mono ?_
        rintro e w4 ⟨rfl,hb4⟩
        go_wp2_with fail
        go_ret2
        exact ⟨idsOut_err HST.out rfl,hB.trans (hb4.mono hs)⟩
end Tk
end
end Go.Proofs.YtkllecicddfjpaaGreatDoor
