/- The walk of the law, part 11. -/
import Derived.Test.YtkllecicddfjpaaGreatDoorJ05
import Derived.Test.YtkllecicddfjpaaGreatDoorJ10
import Derived.Deep.RegionHeld3
import Derived.Deep.RegionHeldLaw
import Derived.Test.YtkllecicddfjpaaGreatDoorJ02
import Derived.Test.YtkllecicddfjpaaGreatDoorJ03
import Derived.Test.YtkllecicddfjpaaGreatDoorChecked
set_option maxRecDepth 100000
set_option maxHeartbeats 16000000
set_option linter.unusedVariables false
set_option linter.unusedSimpArgs false
namespace Go.Proofs.YtkllecicddfjpaaGreatDoor
section
namespace Tk
open Go.RowKit
def WrOut (kind : List UInt8) (ms : List (List UInt8 × List UInt8)) (e : Ending) : Prop :=
 (rightB kind ms = true ∧ e = .returned (.tuple #[.string (bs (writeB kind ms)),.int .i64 0])) ∨ (rightB kind ms = false ∧ e = .returned (.tuple #[.string (bs []),.int .i64 3]))
theorem writeB_step {kind : List UInt8} {ms : List (List UInt8 × List UInt8)} {q : Nat} {p : List UInt8 × List UInt8} (h : ms[q]? = some p) : writeB kind (ms.take (q + 1)) = writeB kind (ms.take q) ++ parW p := by
 unfold writeB
 rw [take_succ_of h]
 simp
theorem all_step {α : Type} {f : α → Bool} {ms : List α} {q : Nat} {p : α} (h : ms[q]? = some p) : (ms.take (q + 1)).all f = ((ms.take q).all f && f p) := by
 rw [take_succ_of h]
 simp
theorem write_lite (kind : List UInt8) (ms : List (List UInt8 × List UInt8)) (A : Option Addr) (n c : Nat) (w : World) (hw : Mx w) (hk : kind.length ≤ 1000) (hn : ms.length = n) (hn2 : n ≤ 20) (hp : ∀ p ∈ ms,p.1.length ≤ 2000000 ∧ p.2.length ≤ 2000000) (hA : Rv w A (pcells ms)) (hlo2 : ∀ p ∈ ms,onlyB loc' p.2 = true) :
  Calls Tryz.prog 64 #[.string (bs kind),.slice A n c] w fun e w' => WrOut kind ms e ∧ Below w.heap.size w w' := by
 have hki := kindly_any kind w hw (by omega)
 obtain ⟨lk,hlk⟩ : ∃ l,kind.map small = l := ⟨_,rfl⟩
 rw [hlk] at hki
 go_enter Tryz.func64,Tryz.ntmps64
 go_wp2_with fail
 refine hki.mono ?_
 rintro e w1 ⟨rfl,hb1⟩
 go_wp2_with fail
 have hA1 := hA.below hb1
 clear hA hki hw
 go_loopw [7,8,20] (fun s7 s8 s20 wr => ∃ (q : Nat) (o : List UInt8),q ≤ n ∧ s20 = .int .i64 (q : Int) ∧ s7 = .bool (kindB kind && (ms.take q).all parOk) ∧ s8 = .string (bs o) ∧ Hid (o = writeB kind (ms.take q)) ∧ o.length ≤ 1000 + q * 6000010 ∧ Below w.heap.size w wr ∧ Below w1.heap.size w1 wr) (fun _ _ i _ => n - (intOf i).toNat)
 case atStart => exact ⟨0,kind,Nat.zero_le _,rfl,by simp,rfl,Lib.hid (by simp [writeB]),by omega,hb1,Below.refl _ _⟩
 case round =>
  obtain ⟨q,o,hq,rfl,rfl,rfl,ho,hol,hB,hB1⟩ := hrel
  by_cases hql : q < n
  ·obtain ⟨p,hpq⟩ : ∃ p,ms[q]? = some p := ⟨_,List.getElem?_eq_getElem (by omega)⟩
   have hpm : p ∈ ms := List.mem_of_getElem? hpq
   obtain ⟨hp1,hp2⟩ := hp p hpm
   have hlv := hlo2 p hpm
   obtain ⟨na,va⟩ := p
   simp only at hp1 hp2 hlv
   have hR := hA1.below hB1
   obtain ⟨b,oo,rfl,hcell⟩ := hR (by rw [pcells_len]; omega)
   have k0 : wr.cell? ⟨b,oo + q * 2,none⟩ = some (.string (bs na)) := by have := hcell _ _ (pcells_get hpq).1; rwa [Nat.mul_comm] at this
   have k1 : wr.cell? ⟨b,oo + q * 2 + 1,none⟩ = some (.string (bs va)) := by have := hcell _ _ (pcells_get hpq).2; rwa [Nat.mul_comm,← Nat.add_assoc] at this
   obtain ⟨okq,hok⟩ : ∃ z,(kindB kind && (ms.take q).all parOk) = z := ⟨_,rfl⟩
   rw [hok]
   have HOKN : Hid ((kindB kind && (ms.take (q + 1)).all parOk) = (okq && parOk (na,va))) := Lib.hid (by rw [all_step hpq,← hok,Bool.and_assoc])
   have HWN : Hid (o ++ parW (na,va) = writeB kind (ms.take (q + 1))) := Lib.hid (by rw [writeB_step hpq,ho.out])
   clear hok ho hpq hpm
   go_upto_region 7 with fail
   have hBA : Below wr.heap.size wr (wr.alloc (.cells #[.string (bs na),.string (bs va)] 36)) := (Below.refl _ _).alloc (Nat.le_refl _) _
   have j0 : (wr.alloc (.cells #[.string (bs na),.string (bs va)] 36)).cell? ⟨wr.heap.size,0,none⟩ = some (.string (bs na)) := by simp
   have j1 : (wr.alloc (.cells #[.string (bs na),.string (bs va)] 36)).cell? ⟨wr.heap.size,1,none⟩ = some (.string (bs va)) := by simp
   have jl : wr.heap.size < (wr.alloc (.cells #[.string (bs na),.string (bs va)] 36)).heap.size := by simp
   obtain ⟨g,hg⟩ : ∃ g,wr.heap.size = g := ⟨_,rfl⟩
   obtain ⟨wA,hwA⟩ : ∃ wA,wr.alloc (.cells #[.string (bs na),.string (bs va)] 36) = wA := ⟨_,rfl⟩
   rw [hwA] at hBA j0 j1 jl ⊢
   rw [hg] at j0 j1 jl ⊢
   have hBAw : Below w.heap.size w wA := hB.trans (hBA.mono hB.size)
   have hBA1 : Below w1.heap.size w1 wA := hB1.trans (hBA.mono hB1.size)
   have hCell : ∀ W,Below wA.heap.size wA W → W.cell? ⟨g,0,none⟩ = some (.string (bs na)) ∧ W.cell? ⟨g,1,none⟩ = some (.string (bs va)) := fun W h => ⟨(h.cell (p := ⟨g,0,none⟩) jl).trans j0,(h.cell (p := ⟨g,1,none⟩) jl).trans j1⟩
   have HC := Lib.hid hCell
   clear k0 k1 hcell hR hB hB1 hBA hwA hg hCell
   go_cut [7] (fun s7 wx => s7 = .bool (okq && parOk (na,va)) ∧ Below wA.heap.size wA wx)
   case first => as_aux_lemma =>
    clear HOKN HWN hBAw hBA1 hA1 hb1 hp hol
    have hat : ∀ W,Below wA.heap.size wA W → Calls Tryz.prog 118 #[.string (bs na)] W fun e w' => e = .returned (.bool (atomB na)) ∧ Below wA.heap.size wA w' := fun W h => (atom_any na W (by omega)).mono fun e w' r => ⟨r.1,h.trans (r.2.mono h.size)⟩
    have hlo : ∀ W,Below wA.heap.size wA W → Calls Tryz.prog 119 #[.string (bs na)] W fun e w' => e = .returned (.string (bs (na.map small))) ∧ Below wA.heap.size wA w' := fun W h => (lower_any na W (by omega)).mono fun e w' r => ⟨r.1,h.trans (r.2.mono h.size)⟩
    have hva : ∀ W,Below wA.heap.size wA W → Calls Tryz.prog 120 #[.string (bs va)] W fun e w' => e = .returned (.bool (valB va)) ∧ Below wA.heap.size wA w' := fun W h => (value_any va W (by omega)).mono fun e w' r => ⟨r.1,h.trans (r.2.mono h.size)⟩
    have h0 : Below wA.heap.size wA wA := Below.refl _ _
    have h0d : Below wA.heap.size wA wA.drew := h0.drew
    obtain ⟨m00,m01⟩ := HC.out _ h0d
    have hpo : parOk (na,va) = (atomB na && decide (na.map small = na) && valB va) := rfl
    have heq : (na.map small == na) = decide (na.map small = na) := by rw [Bool.eq_iff_iff]; simp
    obtain ⟨lna,hlna⟩ : ∃ l,na.map small = l := ⟨_,rfl⟩
    rw [hlna] at hpo heq hlo
    have HPO := Lib.hid hpo
    clear hpo hlna j0 j1
    cases okq with
    | false =>
     go_wp2_with fail
     go_quiet (fail)
     go_wp2_with fail
     go_meet
     exact ⟨rfl,Dn.below (Dn.of _ _) _⟩
    | true =>
     rcases Bool.eq_false_or_eq_true (atomB na) with h1 | h1
     ·rw [h1] at hat HPO
      rcases Bool.eq_false_or_eq_true (decide (lna = na)) with h2 | h2
      ·rw [h2] at heq HPO
       go_wp2_with fail
       go_region_held3 (fun w' => Below wA.heap.size wA w' ∧ w'.cell? ⟨g,0,none⟩ = some (.string (bs na)) ∧ w'.cell? ⟨g,1,none⟩ = some (.string (bs va))) (exact ⟨by with_reducible assumption,by with_reducible assumption,by with_reducible assumption⟩)
      (first
      | (go_at_call 118; (with_reducible refine (hat _ (by with_reducible assumption)).mono ?_); rintro e x1 ⟨rfl,hx1⟩; obtain ⟨m10,m11⟩ := HC.out _ hx1)
      | (go_at_call 119; (with_reducible refine (hlo _ (by with_reducible assumption)).mono ?_); rintro e x2 ⟨rfl,hx2⟩; obtain ⟨m20,m21⟩ := HC.out _ hx2)
      | (go_at_call 120; (with_reducible refine (hva _ (by with_reducible assumption)).mono ?_); rintro e x3 ⟨rfl,hx3⟩; obtain ⟨m30,m31⟩ := HC.out _ hx3))
       all_goals
        go_wp2_with fail
        go_meet
        exact ⟨by rw [HPO.out]; rfl,by assumption⟩
      ·rw [h2] at heq HPO
       go_wp2_with fail
       first
       | (go_region_held_law (fun w' => Below wA.heap.size wA w' ∧ w'.cell? ⟨g,0,none⟩ = some (.string (bs na)) ∧ w'.cell? ⟨g,1,none⟩ = some (.string (bs va))) (exact ⟨by with_reducible assumption,by with_reducible assumption,by with_reducible assumption⟩)
      (first
      | (go_at_call 118; (with_reducible refine (hat _ (by with_reducible assumption)).mono ?_); rintro e x1 ⟨rfl,hx1⟩; obtain ⟨m10,m11⟩ := HC.out _ hx1)
      | (go_at_call 119; (with_reducible refine (hlo _ (by with_reducible assumption)).mono ?_); rintro e x2 ⟨rfl,hx2⟩; obtain ⟨m20,m21⟩ := HC.out _ hx2)
      | (go_at_call 120; (with_reducible refine (hva _ (by with_reducible assumption)).mono ?_); rintro e x3 ⟨rfl,hx3⟩; obtain ⟨m30,m31⟩ := HC.out _ hx3)))
       | fail
       all_goals
        go_wp2_with fail
        go_meet
        exact ⟨by rw [HPO.out]; rfl,by assumption⟩
     ·rw [h1] at hat HPO
      clear hlo hva heq hp1 hp2 hk hn2 hn hq hql h1
      go_wp2_with fail
      first
      | (go_region_with (go_at_call 118; (with_reducible refine (hat _ (by with_reducible assumption)).mono ?_); rintro e x1 ⟨rfl,hx1⟩; obtain ⟨m10,m11⟩ := HC.out _ hx1))
      | fail
      all_goals
       go_wp2_with fail
       go_meet
       exact ⟨by rw [HPO.out]; rfl,by assumption⟩
   case rest =>
    obtain ⟨rfl,hbc⟩ := hcut
    obtain ⟨c0,c1⟩ := HC.out _ hbc
    have hCw := hBAw.trans (hbc.mono hBAw.size)
    have hC1 := hBA1.trans (hbc.mono hBA1.size)
    have hon := fun W => only_any loc' 122 (fun _ _ => rfl) (fun x W => loose_any x W) va W (by omega)
    have hval : valW va = if onlyB loc' va then va else 34 :: (esc va ++ [34]) := rfl
    have hpl : parW (na,va) = [59,32] ++ na ++ [61] ++ valW va := rfl
    have hvl : (valW va).length ≤ 2 * va.length + 2 := by unfold valW; rw [if_pos hlv]; omega
    obtain ⟨u,hu⟩ : ∃ u,parW (na,va) = u := ⟨_,rfl⟩
    have hul : u.length ≤ 6000010 := by rw [← hu,hpl]; simp; omega
    rw [hu] at HWN hpl
    obtain ⟨vw,hvw⟩ : ∃ vw,valW va = vw := ⟨_,rfl⟩
    rw [hvw] at hval hpl hvl
    have HPL := Lib.hid hpl
    obtain ⟨z,hz⟩ : ∃ z,(okq && parOk (na,va)) = z := ⟨_,rfl⟩
    rw [hz] at HOKN ⊢
    clear hz hvw hu hpl HC j0 j1 jl hBAw hBA1 hbc
    rcases Bool.eq_false_or_eq_true (onlyB loc' va) with ho | ho
    ·rw [ho] at hon hval
     obtain rfl : vw = va := hval
     go_wp2_with fail
     refine (hon _).mono ?_
     rintro e w4 ⟨rfl,hb4⟩
     have d0 := (hb4.cell (p := ⟨g,0,none⟩) (cell_lt c0)).trans c0
     have hs4 := hb4.mono hCw.size
     have hstr : Value.string (bs o ++ (⟨#[59,32]⟩ ++ bs na ++ ⟨#[61]⟩ ++ bs vw)) = .string (bs (o ++ u)) := by
      rw [show (⟨#[59,32]⟩ : ByteArray) = bs [59,32] from rfl,show (⟨#[61]⟩ : ByteArray) = bs [61] from rfl,bs_add,bs_add,bs_add,bs_add,HPL.out]
     have hle : (o ++ u).length ≤ 1000 + (q + 1) * 6000010 := by rw [List.length_append]; omega
     have HLE := Lib.hid hle
     have HSTR := Lib.hid hstr
     clear hle hstr
     clear hon
     go_wp2_with fail
     refine ⟨⟨q + 1,o ++ u,by omega,by go_num,by rw [HOKN.out],HSTR.out,HWN,HLE.out,hCw.trans hs4,hC1.trans (hb4.mono hC1.size)⟩,?_⟩
     simp [intOf]
     omega
    ·exact absurd ho (by rw [hlv]; simp)
  ·obtain rfl : q = n := by omega
   rw [take_all ms (by omega)] at ho ⊢
   have hrb : rightB kind ms = ((kindB kind && ms.all parOk) && decide (lk = kind)) := by
    unfold rightB
    rw [hlk]
    cases kindB kind <;> cases ms.all parOk <;> simp
   obtain ⟨z,hz⟩ : ∃ z,(kindB kind && ms.all parOk) = z := ⟨_,rfl⟩
   rw [hz] at hrb ⊢
   clear hz hp hlk hol
   by_cases h : lk = kind
   ·have hbe : (lk == kind) = true := by simp [h]
    rw [decide_eq_true h] at hrb
    have HR := Lib.hid hrb
    clear hrb h
    cases z
    ·go_wp2_with fail
     go_ret2
     exact ⟨.inr ⟨by rw [HR.out]; rfl,rfl⟩,hB⟩
    ·go_wp2_with fail
     go_ret2
     exact ⟨.inl ⟨by rw [HR.out]; rfl,by rw [ho.out]; rfl⟩,hB⟩
   ·have hbe : (lk == kind) = false := by simp [h]
    rw [decide_eq_false h] at hrb
    have HR := Lib.hid (show rightB kind ms = false by rw [hrb]; simp)
    clear hrb h
    cases z
    all_goals
     go_wp2_with fail
     go_ret2
     exact ⟨.inr ⟨HR.out,rfl⟩,hB⟩
end Tk
end
section
open Go.RowKit
section
open Tk
def paramP (ms : List (List UInt8 × List UInt8)) (nm : List UInt8) : List UInt8 := match ms.find? (fun p => p.1 == nm) with
 | some p => p.2
 | none => []
def parZ (ms : List (List UInt8 × List UInt8)) (nm : List UInt8) : Int := match ms.findIdx? (fun p => p.1 == nm) with
 | some i => (i : Int)
 | none => -1
theorem find_ahead {nm : List UInt8} {p : List UInt8 × List UInt8} : ∀ {ms : List (List UInt8 × List UInt8)} {k : Nat},(∀ q ∈ ms.take k,(q.1 == nm) = false) → ms[k]? = some p → (p.1 == nm) = true → ms.find? (fun p => p.1 == nm) = some p ∧ ms.findIdx? (fun p => p.1 == nm) = some k
 | [],k,_,h,_ => by simp at h
 | q :: ms,0,_,h,hs => by
  simp at h
  subst h
  simp [List.findIdx?_cons,hs]
 | q :: ms,k + 1,ha,h,hs => by
  have h1 : (q.1 == nm) = false := ha q (by simp)
  obtain ⟨i1,i2⟩ := find_ahead (ms := ms) (k := k) (fun x hx => ha x (by simp [hx])) (by simpa using h) hs
  simp only [List.find?_cons,List.findIdx?_cons,h1,i1,i2]
  simp
theorem find_no {nm : List UInt8} {ms : List (List UInt8 × List UInt8)} (h : ∀ q ∈ ms,(q.1 == nm) = false) : ms.find? (fun p => p.1 == nm) = none ∧ ms.findIdx? (fun p => p.1 == nm) = none := by
 constructor
 ·rw [List.find?_eq_none]
  intro x hx
  rw [h x hx]
  simp
 ·rw [List.findIdx?_eq_none_iff]
  exact h
theorem eg_param : ∀ args w,(callFunc 136 args).run Tryz.prog w = .ok (.enter 136 args) w := enters_of Tryz.func136 (by kernel_rfl) rfl
theorem param1_any (p : List UInt8 × List UInt8) (nm : List UInt8) (B : Nat) (w : World) (hc : w.cell? ⟨B,0,none⟩ = some (.string (bs nm))) :
  Calls Tryz.prog 136 #[.agg #[.string (bs p.1),.string (bs p.2)],.pointer (some ⟨B,0,none⟩)] w fun e w' => e = .returned (.bool (p.1 == nm)) ∧ Below w.heap.size w w' := by
 have hA0 : Below w.heap.size w (w.alloc (.cells #[.string (bs p.1),.string (bs p.2)] 36)) := (Below.refl _ _).alloc (Nat.le_refl _) _
 have hc2 : (w.alloc (.cells #[.string (bs p.1),.string (bs p.2)] 36)).cell? ⟨B,0,none⟩ = some (.string (bs nm)) := (hA0.cell (p := ⟨B,0,none⟩) (cell_lt hc)).trans hc
 obtain ⟨z,hz⟩ : ∃ z,(p.1 == nm) = z := ⟨_,rfl⟩
 rw [hz]
 go_enter Tryz.func136,Tryz.ntmps136
 go_wp2_with fail
 go_ret
 exact ⟨rfl,hA0⟩
def hasP (B : Nat) : Value := .func (.func 136) #[] #[.pointer (some ⟨B,0,none⟩)]
theorem pindex_any (A : Option Addr) (ms : List (List UInt8 × List UInt8)) (n c B : Nat) (nm : List UInt8) (w : World) (hn : ms.length = n) (hA : Rv w A (pcells ms)) (hc : w.cell? ⟨B,0,none⟩ = some (.string (bs nm))) (hb : n ≤ 1000000) :
  Calls Tryz.prog 94 #[.slice A n c,hasP B] w fun e w' => e = .returned (.int .i64 (parZ ms nm)) ∧ Below w.heap.size w w' := by
 have HN := Lib.hid hn
 have eg := eg_param
 unfold hasP
 clear hn
 go_enter Tryz.func94,Tryz.ntmps94
 go_wp2_with fail
 go_loopw [8] (fun i wr => ∃ k : Nat,i = .int .i64 k ∧ k ≤ n ∧ Hid (∀ q ∈ ms.take k,(q.1 == nm) = false) ∧ Below w.heap.size w wr) (fun i _ => n - (intOf i).toNat)
 case atStart => exact ⟨0,rfl,by omega,Lib.hid (by simp),Below.refl _ _⟩
 case round =>
  obtain ⟨k,rfl,hk,ha,hB⟩ := hrel
  by_cases hlt : k < n
  ·obtain ⟨p,hpq⟩ : ∃ p,ms[k]? = some p := ⟨_,List.getElem?_eq_getElem (by rw [HN.out]; exact hlt)⟩
   have hp := Lib.hid hpq
   obtain ⟨b,o,rfl,hcell⟩ := (hA.below hB) (by rw [pcells_len,HN.out]; omega)
   have k0 : wr.cell? ⟨b,o + k * 2,none⟩ = some (.string (bs p.1)) := by have := hcell _ _ (pcells_get hpq).1; rwa [Nat.mul_comm] at this
   have k1 : wr.cell? ⟨b,o + k * 2 + 1,none⟩ = some (.string (bs p.2)) := by have := hcell _ _ (pcells_get hpq).2; rwa [Nat.mul_comm,← Nat.add_assoc] at this
   have hcr : wr.cell? ⟨B,0,none⟩ = some (.string (bs nm)) := (hB.cell (p := ⟨B,0,none⟩) (cell_lt hc)).trans hc
   have hcall := param1_any p nm B wr hcr
   have hHit : (p.1 == nm) = true → Hid (parZ ms nm = (k : Int)) := fun h => Lib.hid (by
    unfold parZ
    rw [(find_ahead ha.out hp.out h).2])
   have hMiss : (p.1 == nm) = false → Hid (∀ q ∈ ms.take (k + 1),(q.1 == nm) = false) := fun h => Lib.hid (by
    rw [take_succ_of hp.out]
    intro q hq
    rcases List.mem_append.1 hq with hq | hq
    ·exact ha.out q hq
    ·simp at hq
     rw [hq]
     exact h)
   clear hpq hcell
   obtain ⟨z,hz⟩ : ∃ z,(p.1 == nm) = z := ⟨_,rfl⟩
   rw [hz] at hcall hHit hMiss
   clear hz
   cases z with
   | true =>
    have HH := hHit rfl
    clear hHit hMiss
    go_wp2_with fail
    refine hcall.mono ?_
    rintro e w2 ⟨rfl,hb2⟩
    go_wp2_with fail
    go_ret
    exact ⟨ret_int HH.out.symm,hB.trans (hb2.mono hB.size)⟩
   | false =>
    have HH := hMiss rfl
    clear hHit hMiss
    go_wp2_with fail
    refine hcall.mono ?_
    rintro e w2 ⟨rfl,hb2⟩
    go_wp2_with fail
    go_roundw
    case rel => exact ⟨k + 1,by go_num,by omega,HH,hB.trans (hb2.mono hB.size)⟩
    case measure => simp [intOf]; omega
  ·obtain rfl : k = n := by omega
   have hno : parZ ms nm = -1 := by
    have h := ha.out
    rw [List.take_of_length_le (by rw [HN.out]; omega)] at h
    unfold parZ
    rw [(find_no h).2]
   have HNO := Lib.hid hno
   clear hno
   go_wp2_with fail
   go_ret
   exact ⟨ret_int HNO.out.symm,hB⟩
theorem param_at {ms : List (List UInt8 × List UInt8)} {nm : List UInt8} : (∃ (k : Nat) (p : List UInt8 × List UInt8),ms[k]? = some p ∧ parZ ms nm = (k : Int) ∧ paramP ms nm = p.2) ∨ (parZ ms nm = -1 ∧ paramP ms nm = []) := by
 by_cases h : ∃ (k : Nat) (p : List UInt8 × List UInt8),ms[k]? = some p ∧ (p.1 == nm) = true
 ·cases hf : ms.findIdx? (fun p => p.1 == nm) with
  | none =>
   obtain ⟨k,p,hk,hp⟩ := h
   rw [List.findIdx?_eq_none_iff] at hf
   rw [hf p (List.mem_of_getElem? hk)] at hp
   cases hp
  | some i =>
   obtain ⟨hi,h1,h2⟩ := List.findIdx?_eq_some_iff_getElem.1 hf
   obtain ⟨e1,e2⟩ := find_ahead (ms := ms) (k := i) (p := ms[i]) (nm := nm) (fun q hq => by
    obtain ⟨j,hj⟩ := List.mem_iff_getElem?.1 hq
    have hjl := lt_of_get hj
    rw [List.length_take] at hjl
    rw [List.getElem?_take,if_pos (by omega),List.getElem?_eq_getElem (by omega)] at hj
    have := h2 j (by omega)
    rw [Option.some.inj hj] at this
    simpa using this) (List.getElem?_eq_getElem hi) h1
   left
   refine ⟨i,ms[i],List.getElem?_eq_getElem hi,?_,?_⟩
   ·unfold parZ; rw [e2]
   ·unfold paramP; rw [e1]
 ·right
  have hn : ∀ q ∈ ms,(q.1 == nm) = false := by
   intro q hq
   obtain ⟨j,hj⟩ := List.mem_iff_getElem?.1 hq
   cases hb : (q.1 == nm) with
   | false => rfl
   | true => exact absurd ⟨j,q,hj,hb⟩ h
  obtain ⟨e1,e2⟩ := find_no hn
  exact ⟨by unfold parZ; rw [e2],by unfold paramP; rw [e1]⟩
theorem named_box (nm : List UInt8) (w : World) : Below w.heap.size w (w.alloc (.cells #[.string (bs nm)] 9)) := (Below.refl _ _).alloc (Nat.le_refl _) _
theorem param_any (A : Option Addr) (ms : List (List UInt8 × List UInt8)) (nm : List UInt8) (n c : Nat) (w : World) (hn : ms.length = n) (hA : Rv w A (pcells ms)) (hb : n ≤ 1000000) :
  Calls Tryz.prog 70 #[.slice A n c,.string (bs nm)] w fun e w' => e = .returned (.string (bs (paramP ms nm))) ∧ Below w.heap.size w w' := by
 have HN := Lib.hid hn
 clear hn
 have hB0 := named_box nm w
 have c0 : (w.alloc (.cells #[.string (bs nm)] 9)).cell? ⟨w.heap.size,0,none⟩ = some (.string (bs nm)) := by simp
 have hix := pindex_any A ms n c w.heap.size nm (w.alloc (.cells #[.string (bs nm)] 9)) HN.out (hA.below hB0) c0 hb
 unfold hasP at hix
 go_enter Tryz.func70,Tryz.ntmps70
 go_wp2_with fail
 refine hix.mono ?_
 rintro e w1 ⟨rfl,hb1⟩
 have hB1 := hB0.trans (hb1.mono hB0.size)
 rcases param_at (ms := ms) (nm := nm) with ⟨k,p,hk,hz,hp⟩ | ⟨hz,hp⟩
 ·rw [hz]
  have HP := Lib.hid hp
  have hkl := lt_of_get hk
  rw [HN.out] at hkl
  obtain ⟨b,o,rfl,hcell⟩ := (hA.below hB1) (by rw [pcells_len,HN.out]; omega)
  have k1 : w1.cell? ⟨b,o + k * 2 + 1,none⟩ = some (.string (bs p.2)) := by have := hcell _ _ (pcells_get hk).2; rwa [Nat.mul_comm,← Nat.add_assoc] at this
  clear hz hp hk hcell hix
  go_wp2_with fail
  go_ret
  exact ⟨by rw [HP.out]; rfl,hB1⟩
 ·rw [hz]
  have HP := Lib.hid hp
  clear hz hp hix
  go_wp2_with fail
  go_ret
  exact ⟨by rw [HP.out]; rfl,hB1⟩
end
end
section
namespace Fd
open Go.RowKit
theorem fblank_any (c : UInt8) (w : World) :
  Calls Tryz.prog 171 #[.int .u8 (c.toNat : Int)] w fun e w' => e = .returned (.bool (blk c)) ∧ w = w' := by
 rcases blk_cases c with ⟨hb,h | ⟨h',h⟩⟩ | ⟨hb,h,h'⟩
 all_goals
  have HB := Lib.hid hb
  clear hb
  go_enter Tryz.func171,Tryz.ntmps171
  go_wp2_with fail
  go_ret
  exact ⟨ret_bool (by rw [HB.out]; all_goals (simp [h] <;> omega)),rfl⟩
theorem fname_any (l : List UInt8) (w : World) (hl : l.length ≤ 9223372036854775807) :
  Calls Tryz.prog 106 #[.string (bs l)] w fun e w' => e = .returned (.bool (nmOk l)) ∧ Below w.heap.size w w' := by
 obtain ⟨c,W,hcv,hown,hB,_⟩ := conv_bs (P := Tryz.prog) (src := 9) (dst := 22) Tryz.underlying9 Tryz.underlying22 Tryz.underlying5 w l (by unfold maxLen; omega)
 go_enter Tryz.func106,Tryz.ntmps106
 obtain ⟨g,hg⟩ : ∃ g,decide (1 ≤ l.length ∧ l.length ≤ 64) = g := ⟨_,rfl⟩
 obtain ⟨A,_,hA,_,_,hR,_⟩ := hown.form
 cases hA
 have hRb : Rb W _ l := hR
 have hres : nmOk l = (l.all nmc && g) := by rw [← hg]; rfl
 have HR := Lib.hid hres
 have HG := Lib.hid hg
 clear hres hR hown hg
 rcases (by omega : l.length = 0 ∨ (1 ≤ l.length ∧ l.length ≤ 64) ∨ (1 ≤ l.length ∧ ¬ l.length ≤ 64)) with h1 | h1
 ·have h0 : nmOk l = false := by rw [List.eq_nil_of_length_eq_zero h1]; rfl
  have H0 := Lib.hid h0
  clear h0
  go_wp2_with fail
  go_loopw [3,17] (fun v i wr => v = .bool false ∧ i = .int .i64 0 ∧ wr = W) (fun _ _ _ => 0)
  case atStart => exact ⟨rfl,rfl,rfl⟩
  case round =>
   obtain ⟨rfl,rfl,rfl⟩ := hrel
   go_wp2_with fail
   go_ret
   exact ⟨ret_bool H0.out.symm,hB⟩
 rcases h1 with ⟨h1,h2⟩ | ⟨h1,h2⟩
 all_goals
  go_wp2_with fail
  go_loopw [3,17] (fun v i wr => ∃ q : Nat,i = .int .i64 q ∧ q ≤ l.length ∧ v = .bool (g && (l.take q).all nmc) ∧ Dn W wr) (fun _ i _ => l.length - (intOf i).toNat)
  case atStart =>
   refine ⟨0,rfl,by omega,?_,Dn.refl _⟩
   refine congrArg Value.bool ?_
   rw [← HG.out,Bool.eq_iff_iff]
   first
    | (simp only [List.take_zero,List.all_nil,Bool.and_true,decide_eq_true_eq]; omega)
    | (simp; omega)
  case round =>
   obtain ⟨q,rfl,hq,rfl,hd⟩ := hrel
   by_cases hlt : q < l.length
   ·obtain ⟨b,o,x,e,hx,hcell⟩ := (hRb.below (hd.below _)).one hlt
    cases e
    rw [Nat.zero_add] at hcell
    have hst : (g && (l.take (q + 1)).all nmc) = ((g && (l.take q).all nmc) && nmc x) := by rw [all_take nmc _ hx.out,Bool.and_assoc]
    have HST := Lib.hid hst
    clear hst
    rcases Bool.eq_false_or_eq_true (g && (l.take q).all nmc) with hG | hG
    ·rw [hG] at HST ⊢
     have hx2 : (nmc x = true ∧ (32 : Int) < (x.toNat : Int) ∧ (x.toNat : Int) ≤ 126 ∧ ((x.toNat : Int) != 58) = true) ∨ (nmc x = false ∧ (¬ (32 : Int) < (x.toNat : Int) ∨ ((32 : Int) < (x.toNat : Int) ∧ ¬ (x.toNat : Int) ≤ 126) ∨ ((32 : Int) < (x.toNat : Int) ∧ (x.toNat : Int) ≤ 126 ∧ ((x.toNat : Int) != 58) = false))) := by
      rcases Bool.eq_false_or_eq_true (nmc x) with h | h
      ·have := (nmc_iff x).1 h
       exact .inl ⟨h,by omega,by omega,by rw [bne_iff_ne]; omega⟩
      ·refine .inr ⟨h,?_⟩
       have h' : ¬ nmc x = true := by simp [h]
       rw [nmc_iff] at h'
       rw [bne_eq_false_iff_eq]
       omega
     rcases hx2 with ⟨hn,k1,k2,k3⟩ | ⟨hn,k1 | ⟨k1,k2⟩ | ⟨k1,k2,k3⟩⟩
     all_goals
      rw [hn] at HST
      clear hn
      go_wp2_with fail
      go_roundw
      case rel => exact ⟨q + 1,by go_num,by omega,by rw [HST.out]; rfl,hd⟩
      case measure => simp [intOf]; omega
    ·rw [hG] at HST ⊢
     go_wp2_with fail
     go_roundw
     case rel => exact ⟨q + 1,by go_num,by omega,by rw [HST.out]; rfl,hd⟩
     case measure => simp [intOf]; omega
   ·obtain rfl : q = l.length := by omega
    have ha : (g && (l.take l.length).all nmc) = nmOk l := by rw [List.take_length,Bool.and_comm]; exact HR.out.symm
    rw [ha]
    clear ha
    go_wp2_with fail
    go_ret
    exact ⟨rfl,hB.trans ((hd.below _).mono hB.size)⟩
end Fd
end
end Go.Proofs.YtkllecicddfjpaaGreatDoor
