/- The walk of the law, part 12. -/
import Derived.Test.YtkllecicddfjpaaGreatDoorJ03
import Derived.Shelf.Strings.SlTrimAscii
import Derived.Test.YtkllecicddfjpaaGreatDoorJ02
import Derived.Test.YtkllecicddfjpaaGreatDoorChecked
import Derived.Test.YtkllecicddfjpaaGreatDoorJ06
import Derived.Test.YtkllecicddfjpaaGreatDoorJ11
import Derived.Deep.RegionHeld3
import Derived.Deep.RegionHeldLaw
set_option maxRecDepth 100000
set_option maxHeartbeats 16000000
set_option linter.unusedVariables false
set_option linter.unusedSimpArgs false
namespace Go.Proofs.YtkllecicddfjpaaGreatDoor
section
open Go.RowKit
def Pl (A : Option Addr) (c : Nat) : Prop := (A = none ∧ c = 0) ∨ ∃ b o,A = some ⟨b,o,none⟩
def SB (A B : Option Addr) : Prop := ∀ b o,B = some ⟨b,o,none⟩ → ∃ o',A = some ⟨b,o',none⟩
theorem SB.refl (A : Option Addr) : SB A A := fun _ o h => ⟨o,h⟩
theorem SB.trans {A B C : Option Addr} (h : SB A B) (k : SB B C) : SB A C := fun b o e => by
 obtain ⟨o',e'⟩ := k b o e
 exact h b o' e'
def cutAt (s : UInt8) : List UInt8 → Option (List UInt8 × List UInt8)
 | [] => none
 | c :: r => if c = s then some ([],r) else (cutAt s r).map fun p => (c :: p.1,p.2)
theorem cutAt_some {s : UInt8} : ∀ {l a b : List UInt8},cutAt s l = some (a,b) → l = a ++ s :: b ∧ s ∉ a ∧ Lib.indexByte l s = (a.length : Int)
 | [],_,_,h => by simp [cutAt] at h
 | c :: r,a,b,h => by
  unfold cutAt at h
  by_cases hc : c = s
  ·rw [if_pos hc] at h
   cases h
   subst hc
   exact ⟨rfl,by simp,by simp [Lib.indexByte]⟩
  ·rw [if_neg hc,Option.map_eq_some_iff] at h
   obtain ⟨⟨a',b'⟩,h1,h2⟩ := h
   cases h2
   obtain ⟨e,hn,hi⟩ := cutAt_some h1
   refine ⟨by rw [e]; rfl,by simp [hn,Ne.symm hc],?_⟩
   have hne : (c == s) = false := by simpa using hc
   have h1 : (((a'.length : Int)) == -1) = false := by rw [beq_eq_false_iff_ne]; omega
   simp [Lib.indexByte,hne,hi,h1]
theorem cutAt_none {s : UInt8} : ∀ {l : List UInt8},cutAt s l = none → s ∉ l ∧ Lib.indexByte l s = -1
 | [],_ => ⟨by simp,rfl⟩
 | c :: r,h => by
  unfold cutAt at h
  by_cases hc : c = s
  ·rw [if_pos hc] at h
   cases h
  ·rw [if_neg hc,Option.map_eq_none_iff] at h
   obtain ⟨hn,hi⟩ := cutAt_none h
   have hne : (c == s) = false := by simpa using hc
   exact ⟨by simp [hn,Ne.symm hc],by simp [Lib.indexByte,hne,hi]⟩
def nums (l : List UInt8) : List Int := l.map fun c => (c.toNat : Int)
theorem bytesOf_nums (l : List UInt8) : Lib.bytesOf (nums l) = l := by
 unfold Lib.bytesOf nums
 rw [List.map_map]
 conv => rhs; rw [← List.map_id l]
 apply List.map_congr_left
 intro c _
 simp
theorem nums_len (l : List UInt8) : (nums l).length = l.length := by simp [nums]
theorem nums_getD (l : List UInt8) (i : Nat) (h : i < l.length) : (nums l).getD i 0 = (l[i].toNat : Int) := by
 simp [nums,List.getD,List.getElem?_eq_getElem h]
theorem bytesIn_of {w : World} {A : Option Addr} {l : List UInt8} (h : Rb w A l) : Lib.BytesIn w A l.length (nums l) := fun hp => by
 obtain ⟨b,o,rfl,hc⟩ := h (by simpa using hp)
 refine ⟨b,o,rfl,fun i hi => ?_⟩
 rw [hc i (bv l[i]) (by simp [List.getElem?_eq_getElem hi]),nums_getD l i hi]
 rfl
def CutOut (A : Option Addr) (n c : Nat) (l : List UInt8) (s : UInt8) (e : Ending) (w' : World) : Prop :=
 match cutAt s l with
 | some (a,b) => ∃ B d,e = .returned (.tuple #[.slice A a.length c,.slice B b.length d,.bool true]) ∧ Rb w' A a ∧ Rb w' B b ∧ b.length ≤ d ∧ Pl B d ∧ a.length ≤ c ∧ SB A B
 | none => e = .returned (.tuple #[.slice A n c,.slice none 0 0,.bool false])
theorem cut_any (A : Option Addr) (l : List UInt8) (n c b2 o2 d : Nat) (s : UInt8) (w : World) (hn : l.length = n) (hA : Rb w A l) (hnc : n ≤ c) (hpl : Pl A c) (hs : w.cell? ⟨b2,o2,none⟩ = some (bv s)) (hb : n ≤ 1000000000) :
  Calls Tryz.prog 149 #[.slice A n c,.slice (some ⟨b2,o2,none⟩) 1 d] w fun e w' => CutOut A n c l s e w' ∧ Dn w w' := by
 subst hn
 have hidx : Calls Tryz.prog 199 #[.slice A l.length c,.slice (some ⟨b2,o2,none⟩) 1 d] w fun e w' => e = .returned (.int .i64 (Lib.indexByte l s)) ∧ ∃ q,w' = w.drewN q := by
  rcases hpl with ⟨rfl,rfl⟩ | ⟨b,o,rfl⟩
  ·have h0 : l = [] := List.eq_nil_of_length_eq_zero (by omega)
   subst h0
   refine (Tryz.bytes_Index_one_nil b2 o2 d (s.toNat : Int) w hs).mono ?_
   rintro e w' ⟨rfl,rfl⟩
   exact ⟨rfl,0,rfl⟩
  ·have h := Tryz.bytes_Index_one_at ⟨b,o,none⟩ l.length c b2 o2 d (nums l) (s.toNat : Int) w (nums_len l) (fun i hi => by
    rw [nums_getD l i hi]
    obtain ⟨b',o',x,e,hx,hc⟩ := hA.one hi
    cases e
    have hx' : l[i] = x := by have := hx.out; rw [List.getElem?_eq_getElem hi] at this; exact Option.some.inj this
    rw [Go.WideShapes.add_plain,hc,hx']) hs
   rw [bytesOf_nums] at h
   refine h.mono ?_
   rintro e w' ⟨rfl,rfl⟩
   refine ⟨?_,0,rfl⟩
   congr 3
   simp
 cases hcut : cutAt s l with
 | none =>
  obtain ⟨_,hi⟩ := cutAt_none hcut
  rw [hi] at hidx
  refine (Tryz.bytes_Cut_of A (some ⟨b2,o2,none⟩) l.length c 1 d (-1) w hnc (by omega) (by omega) (by omega) hidx).mono ?_
  rintro e w' ⟨rfl,hq⟩
  refine ⟨?_,hq⟩
  unfold CutOut
  rw [hcut]
  rfl
 | some p =>
  obtain ⟨a,b⟩ := p
  obtain ⟨hl,_,hi⟩ := cutAt_some hcut
  rw [hi] at hidx
  have hll : l.length = a.length + b.length + 1 := by rw [hl]; simp; omega
  refine (Tryz.bytes_Cut_of A (some ⟨b2,o2,none⟩) l.length c 1 d (a.length : Int) w hnc (by omega) (by omega) (by omega) hidx).mono ?_
  rintro e w' ⟨rfl,hq⟩
  refine ⟨?_,hq⟩
  obtain ⟨q,rfl⟩ := hq
  unfold CutOut
  rw [hcut]
  have hA' : Rb (w.drewN q) A l := hA.drewN q
  obtain ⟨b0,o0,rfl,_⟩ := hA (by simp; omega)
  have ha : Rb (w.drewN q) (some ⟨b0,o0,none⟩) a := by
   have := hA'.take a.length
   rwa [hl,List.take_left'] at this
   rfl
  have hbr : Rb (w.drewN q) (some ⟨b0,o0 + (a.length + 1),none⟩) b := by
   have := hA'.drop (a.length + 1)
   rwa [hl,show a ++ s :: b = (a ++ [s]) ++ b by simp,List.drop_left' (by simp)] at this
  unfold Lib.cutV
  rw [if_pos (by omega)]
  unfold Lib.fromV
  simp only [Int.toNat_natCast]
  by_cases hc : c = a.length + 1
  ·rw [if_pos hc]
   have hb0 : b = [] := List.eq_nil_of_length_eq_zero (by omega)
   subst hb0
   refine ⟨_,c - (a.length + 1),?_,ha,Rb.nil _ _,by simp,.inr ⟨b0,o0,rfl⟩,by omega,SB.refl _⟩
   congr 5
   simp at hll ⊢
   omega
  ·rw [if_neg hc]
   refine ⟨_,c - (a.length + 1),?_,ha,hbr,by omega,.inr ⟨_,_,rfl⟩,by omega,fun b o e => by cases e; exact ⟨o0,rfl⟩⟩
   have e1 : l.length - (a.length + 1) = b.length := by omega
   rw [e1,Option.map_some,Go.WideShapes.add_plain]
def deCr (l : List UInt8) : List UInt8 := if l.getLast? = some 13 then l.take (l.length - 1) else l
theorem hasSuffix_one (l : List UInt8) (c : UInt8) : Lib.hasSuffix l [c] = true ↔ l.getLast? = some c := by
 unfold Lib.hasSuffix
 rw [List.isSuffixOf_iff_suffix]
 constructor
 ·rintro ⟨t,rfl⟩
  simp
 ·intro h
  obtain ⟨t,rfl⟩ := List.getLast?_eq_some_iff.1 h
  exact ⟨t,rfl⟩
theorem trimCr_any (A : Option Addr) (l : List UInt8) (n c b2 o2 d : Nat) (w : World) (hn : l.length = n) (hA : Rb w A l) (hnc : n ≤ c) (hs : w.cell? ⟨b2,o2,none⟩ = some (bv 13)) (hb : n ≤ 1000000000) :
  Calls Tryz.prog 150 #[.slice A n c,.slice (some ⟨b2,o2,none⟩) 1 d] w fun e w' => e = .returned (.slice A (deCr l).length c) ∧ w' = w := by
 subst hn
 have h13 : Rb w (some ⟨b2,o2,none⟩) [13] := fun _ => ⟨b2,o2,rfl,fun j v hj => by
  match j with
  | 0 => simp at hj; rw [← hj]; exact hs
  | j + 1 => simp at hj⟩
 refine (Tryz.bytes_TrimSuffix_all A (some ⟨b2,o2,none⟩) l.length c 1 d (nums l) [13] w (nums_len l) rfl hnc (by omega) (bytesIn_of hA) (bytesIn_of h13)).mono ?_
 rintro e w' ⟨rfl,rfl⟩
 refine ⟨?_,rfl⟩
 congr 1
 by_cases hl : 0 < l.length
 ·obtain ⟨b,o,rfl,_⟩ := hA (by simpa using hl)
  show Lib.bytesTrimSuffix b o l.length c (nums l) [13] = _
  unfold Lib.bytesTrimSuffix deCr
  rw [bytesOf_nums]
  have e13 : Lib.bytesOf [13] = [13] := rfl
  rw [e13]
  by_cases h : l.getLast? = some 13
  ·rw [if_pos ((hasSuffix_one l 13).2 h),if_pos h]
   unfold Lib.sliceTo
   congr 1
   simp
  ·rw [if_neg (fun k => h ((hasSuffix_one l 13).1 k)),if_neg h]
 ·have : l = [] := List.eq_nil_of_length_eq_zero (by omega)
  subst this
  unfold Lib.trimSuffixV
  split
  ·rfl
  ·rfl
theorem clone_any (A : Option Addr) (l : List UInt8) (n c : Nat) (w : World) (hn : l.length = n) (hA : Rb w A l) (hnc : n ≤ c) (hpl : Pl A c) (hb : n ≤ 1000000000) :
  Calls Tryz.prog 63 #[.slice A n c] w fun e w' => (∃ v,e = .returned v ∧ w'.ownsRow w.heap.size 5 1 v n (l.map bv)) ∧ Below w.heap.size w w' := by
 subst hn
 rcases hpl with ⟨rfl,rfl⟩ | ⟨b,o,rfl⟩
 ·have h0 : l = [] := List.eq_nil_of_length_eq_zero (by omega)
  subst h0
  refine (AnyE.slices_Clone_nil Tryz.cloneB 0 0 w).mono ?_
  rintro e w' ⟨rfl,rfl⟩
  exact ⟨⟨_,rfl,World.ownsRow_nil _ _ _ _⟩,Below.refl _ _⟩
 ·obtain ⟨i0,h1,h2,h3,h4⟩ := info_parts infoU8
  refine (AnyE.slices_Clone Tryz.cloneB i0 (.int .u8 0) 1 1 h1 h2 h3 h4 rfl (by omega) Tryz.sizeOf5 b o l.length c (l.map bv) w (by simp) (by unfold maxLen; omega) (by omega) (fun j u hj => ?_) (bv_one l)).mono ?_
  ·obtain ⟨b',o',e,hc⟩ := hA (by have := lt_of_get hj; omega)
   cases e
   exact hc j u hj
  ·rintro e w' ⟨v,rfl,hv,_,hb⟩
   exact ⟨⟨v,rfl,hv⟩,hb⟩
def trimB (l : List UInt8) : List UInt8 := Lib.trimS l [32,9]
theorem trim_any (l : List UInt8) (w : World) (hb : l.length ≤ 1000000000) :
  Calls Tryz.prog 138 #[.string (bs l),.string ⟨#[32,9]⟩] w fun e w' => e = .returned (.string (bs (trimB l))) ∧ Below w.heap.size w w' := by
 have h := Any.strings_Trim_laid Tryz.lays160 (by kernel_rfl) (bs l) ⟨#[32,9]⟩ w (by rw [bs_size]; omega) (by decide) (ascii_of_all (by decide))
 rw [bs_toList] at h
 exact h
end
section
namespace Fd
open Go.RowKit Go.Shelf
theorem trimB_edges (l : List UInt8) : trimB l = l ↔ edges l = true := by
 have hc : ∀ c : UInt8,([32,9] : List UInt8).contains c = blk c := by
  intro c
  unfold blk
  simp [List.contains,List.elem]
  cases c == 32 <;> cases c == 9 <;> rfl
 unfold trimB Lib.trimS Lib.trimLeftS Lib.trimRightS edges
 simp only [hc]
 have hlen : ∀ (m : List UInt8),(m.dropWhile blk).length ≤ m.length := fun m => (List.dropWhile_sublist _).length_le
 have hdw : ∀ m : List UInt8,m.dropWhile blk = m ↔ m.head?.all (fun c => !blk c) = true := by
  intro m
  cases m with
  | nil => simp
  | cons a r =>
   by_cases ha : blk a = true
   ·rw [List.dropWhile_cons_of_pos ha]
    simp only [List.head?_cons,Option.all_some,ha]
    constructor
    ·intro e
     have := hlen r
     rw [e] at this
     simp at this
     omega
    ·intro h
     cases h
   ·rw [List.dropWhile_cons_of_neg ha]
    simp [ha]
 rw [Bool.and_eq_true]
 have hrev : l.reverse.head? = l.getLast? := by simp
 constructor
 ·intro h
  have h1 : (l.reverse.dropWhile blk).reverse.length = l.length := by
   have a1 := hlen (l.reverse.dropWhile blk).reverse
   have a2 := hlen l.reverse
   rw [h] at a1
   simp only [List.length_reverse] at a1 a2 ⊢
   omega
  have h2 : l.reverse.dropWhile blk = l.reverse := by
   have hs := List.dropWhile_suffix blk (l := l.reverse)
   exact hs.eq_of_length (by simpa using h1)
  rw [h2,List.reverse_reverse] at h
  have h3 := (hdw l.reverse).1 h2
  rw [hrev] at h3
  exact ⟨(hdw l).1 h,h3⟩
 ·rintro ⟨h1,h2⟩
  have h3 := (hdw l.reverse).2 (by rw [hrev]; exact h2)
  rw [h3,List.reverse_reverse]
  exact (hdw l).2 h1
theorem trimB_len (l : List UInt8) : (trimB l).length ≤ l.length := by
 unfold trimB Lib.trimS Lib.trimLeftS Lib.trimRightS
 have h1 := (List.dropWhile_sublist (l := ((l.reverse.dropWhile (([32,9] : List UInt8).contains ·)).reverse)) (([32,9] : List UInt8).contains ·)).length_le
 have h2 := (List.dropWhile_sublist (l := l.reverse) (([32,9] : List UInt8).contains ·)).length_le
 simp only [List.length_reverse] at h1 h2 ⊢
 omega
theorem signs1_any (c : UInt8) (w : World) :
  Calls Tryz.prog 202 #[.int .u8 (c.toNat : Int)] w fun e w' => e = .returned (.bool (!sgc c)) ∧ w' = w := by
 have h := sgc_iff c
 have h1 : (sgc c = true ∧ (((c.toNat : Int) != 9) = false)) ∨ (sgc c = true ∧ ((c.toNat : Int) != 9) = true ∧ ¬ (c.toNat : Int) < 32 ∧ ¬ (126 : Int) < (c.toNat : Int)) ∨ (sgc c = false ∧ ((c.toNat : Int) != 9) = true ∧ (c.toNat : Int) < 32) ∨ (sgc c = false ∧ ((c.toNat : Int) != 9) = true ∧ ¬ (c.toNat : Int) < 32 ∧ (126 : Int) < (c.toNat : Int)) := by
  have h' : sgc c = false ↔ ¬ (c.toNat = 9 ∨ 32 ≤ c.toNat ∧ c.toNat ≤ 126) := by rw [← Bool.not_eq_true,h]
  simp only [h,h',bne_iff_ne,bne_eq_false_iff_eq,ne_eq]
  omega
 clear h
 rcases h1 with ⟨hs,h1⟩ | ⟨hs,h1,h2,h3⟩ | ⟨hs,h1,h2⟩ | ⟨hs,h1,h2,h3⟩
 all_goals
  rw [hs]
  clear hs
  go_enter Tryz.func202,Tryz.ntmps202
  go_wp2_with fail
  go_ret
  exact ⟨rfl,rfl⟩
theorem eg_signs : ∀ args w,(callFunc 202 args).run Tryz.prog w = .ok (.enter 202 args) w := enters_of Tryz.func202 (by kernel_rfl) rfl
theorem signs_any (l : List UInt8) (w : World) (hl : l.length ≤ 1000000000) :
  Calls Tryz.prog 152 #[.string (bs l)] w fun e w' => e = .returned (.bool (l.all sgc)) ∧ Below w.heap.size w w' := by
 obtain ⟨c,W,hcv,hown,hB,_⟩ := conv_bs (P := Tryz.prog) (src := 9) (dst := 22) Tryz.underlying9 Tryz.underlying22 Tryz.underlying5 w l (by unfold maxLen; omega)
 obtain ⟨A,_,hA,_,_,hR,_⟩ := hown.form
 cases hA
 have hres : (!l.any fun c => !sgc c) = l.all sgc := by rw [List.all_eq_not_any_not]
 have HR := Lib.hid hres
 have hc : Calls Tryz.prog 201 #[.slice (some ⟨w.heap.size,0,none⟩) l.length c,.func (.func 202) #[] #[]] W fun e w' => e = .returned (.bool (l.any fun c => !sgc c)) ∧ Dn W w' := by
  have h := AnyE.slices_ContainsFunc Tryz.containsB bv (fun c => !sgc c) 202 #[] eg_signs w.heap.size 0 l.length c l W
   (fun W' x _ => (signs1_any x W').mono (by rintro e w' ⟨rfl,rfl⟩; exact ⟨rfl,0,rfl⟩)) (Nat.le_refl _) (by omega) (fun j hj => by
    obtain ⟨b,o,x,e,hx,hcell⟩ := (show Rb W _ l from hR).one hj
    cases e
    rw [hcell]
    have : l[j]! = x := by rw [List.getElem!_eq_getElem?_getD,hx.out]; rfl
    rw [this]
    rfl)
  rw [List.take_length] at h
  exact h
 clear hres hown hR
 generalize (l.any fun c => !sgc c) = g at *
 go_enter Tryz.func152,Tryz.ntmps152
 go_wp2_with fail
 refine hc.mono ?_
 rintro e w' ⟨rfl,hd⟩
 go_wp2_with fail
 go_ret
 exact ⟨ret_bool HR.out,hB.trans ((hd.below _).mono hB.size)⟩
theorem value_any (l : List UInt8) (w : World) (hl : l.length ≤ 9223372036854775807) :
  Calls Tryz.prog 107 #[.string (bs l)] w fun e w' => e = .returned (.bool (vlOk l)) ∧ Below w.heap.size w w' := by
 have hv : vlOk l = (l.all sgc && decide (l.length ≤ 8192) && edges l) := rfl
 have HV := Lib.hid hv
 have hte := trimB_edges l
 have HT := Lib.hid hte
 clear hv hte
 go_enter Tryz.func107,Tryz.ntmps107
 by_cases h2 : l.length ≤ 8192
 ·go_wp2_with fail
  refine (signs_any l _ (by omega)).mono ?_
  rintro e w1 ⟨rfl,hb1⟩
  rcases Bool.eq_false_or_eq_true (l.all sgc) with h | h
  ·rw [h]
   go_wp2_with fail
   refine (trim_any l _ (by omega)).mono ?_
   rintro e w2 ⟨rfl,hb2⟩
   have hB := hb1.trans (hb2.mono hb1.size)
   generalize trimB l = m at *
   go_wp2_with fail
   go_ret
   refine ⟨ret_bool ?_,hB⟩
   rw [HV.out,h,decide_eq_true h2,Bool.eq_iff_iff]
   simp only [Bool.and_self,Bool.true_and,beq_iff_eq]
   rw [← HT.out]
   exact eq_comm
  ·rw [h]
   go_wp2_with fail
   go_ret
   exact ⟨ret_bool (by rw [HV.out,h]; rfl),hb1⟩
 ·go_wp2_with fail
  go_ret
  exact ⟨ret_bool (by rw [HV.out,decide_eq_false h2]; simp),Below.refl _ _⟩
end Fd
end
section
namespace Fd
open Go.RowKit
theorem nmOk_no {l : List UInt8} {q : Nat} {c : UInt8} (h : l[q]? = some c) (hc : nmc c = false) : nmOk l = false := by
 unfold nmOk
 rw [all_hit nmc h hc]
 rfl
theorem rname_any (l : List UInt8) (w : World) (hl : l.length ≤ 9223372036854775807) :
  Calls Tryz.prog 36 #[.string (bs l)] w fun e w' => e = .returned (.bool (nmOk l)) ∧ Dn w w' := by
 go_enter Tryz.func36,Tryz.ntmps36
 go_wp2_with fail
 go_loopw [3] (fun i wr => ∃ q : Nat,i = .int .i64 q ∧ q ≤ l.length ∧ Hid ((l.take q).all nmc = true) ∧ Dn w wr) (fun i _ => l.length - (intOf i).toNat)
 case atStart => exact ⟨0,rfl,by omega,Lib.hid (by simp),Dn.refl _⟩
 case round =>
  obtain ⟨q,rfl,hq,ha,hd⟩ := hrel
  by_cases hlt : q < l.length
  ·obtain ⟨c,hc⟩ : ∃ c,l[q]? = some c := ⟨_,List.getElem?_eq_getElem hlt⟩
   have hi := str_index (P := Tryz.prog) Tryz.underlying9 hc .i64
   have HC := Lib.hid hc
   clear hc
   by_cases h : nmc c = true
   ·have h1 := (nmc_iff c).1 h
    have h2 : ¬ (c.toNat : Int) < 33 := by omega
    have h3 : ¬ (126 : Int) < (c.toNat : Int) := by omega
    have h4 : ((c.toNat : Int) == 58) = false := by rw [beq_eq_false_iff_ne]; omega
    have HN := Lib.hid h
    clear h h1
    go_wp2_with fail
    go_roundw
    case rel => exact ⟨q + 1,by go_num,by omega,Lib.hid (by rw [all_take nmc _ HC.out,ha.out,HN.out]; rfl),hd⟩
    case measure => simp [intOf]; omega
   ·have hno := nmOk_no HC.out (by simpa using h)
    have h1 : (c.toNat : Int) < 33 ∨ (¬ (c.toNat : Int) < 33 ∧ (126 : Int) < (c.toNat : Int)) ∨ (¬ (c.toNat : Int) < 33 ∧ ¬ (126 : Int) < (c.toNat : Int) ∧ ((c.toNat : Int) == 58) = true) := by
     rw [nmc_iff] at h
     rw [beq_iff_eq]
     omega
    have HNO := Lib.hid hno
    clear h hno
    rcases h1 with h1 | ⟨h1,h2⟩ | ⟨h1,h2,h3⟩
    all_goals
     go_wp2_with fail
     go_ret
     exact ⟨ret_bool HNO.out.symm,hd⟩
  ·obtain rfl : q = l.length := by omega
   have hall : l.all nmc = true := by have := ha.out; rwa [List.take_length] at this
   have hres : nmOk l = (decide (1 ≤ l.length) && decide (l.length ≤ 64)) := by
    unfold nmOk
    rw [hall,Bool.true_and,Bool.decide_and]
   have HR := Lib.hid hres
   clear hres hall
   rcases (by omega : (1 ≤ l.length ∧ l.length ≤ 64) ∨ (1 ≤ l.length ∧ ¬ l.length ≤ 64) ∨ l.length = 0) with ⟨h1,h2⟩ | ⟨h1,h2⟩ | h1
   all_goals
    go_wp2_with fail
    go_ret
    exact ⟨ret_bool (by rw [HR.out,Bool.eq_iff_iff]; first | (simp only [Bool.and_eq_true,decide_eq_true_eq]; omega) | (simp; omega)),hd⟩
theorem rblank_any (c : UInt8) (w : World) :
  Calls Tryz.prog 80 #[.int .u8 (c.toNat : Int)] w fun e w' => e = .returned (.bool (blk c)) ∧ w = w' := by
 rcases blk_cases c with ⟨hb,h | ⟨h',h⟩⟩ | ⟨hb,h,h'⟩
 all_goals
  have HB := Lib.hid hb
  clear hb
  go_enter Tryz.func80,Tryz.ntmps80
  go_wp2_with fail
  go_ret
  exact ⟨ret_bool (by rw [HB.out]; all_goals (simp [h] <;> omega)),rfl⟩
theorem rsigns_any (l : List UInt8) (w : World) (hl : l.length ≤ 9223372036854775807) :
  Calls Tryz.prog 79 #[.string (bs l)] w fun e w' => e = .returned (.bool (l.all sgc)) ∧ Dn w w' := by
 go_enter Tryz.func79,Tryz.ntmps79
 go_wp2_with fail
 go_loopw [3] (fun i wr => ∃ q : Nat,i = .int .i64 q ∧ q ≤ l.length ∧ Hid ((l.take q).all sgc = true) ∧ Dn w wr) (fun i _ => l.length - (intOf i).toNat)
 case atStart => exact ⟨0,rfl,by omega,Lib.hid (by simp),Dn.refl _⟩
 case round =>
  obtain ⟨q,rfl,hq,ha,hd⟩ := hrel
  by_cases hlt : q < l.length
  ·obtain ⟨c,hc⟩ : ∃ c,l[q]? = some c := ⟨_,List.getElem?_eq_getElem hlt⟩
   have hi := str_index (P := Tryz.prog) Tryz.underlying9 hc .i64
   have HC := Lib.hid hc
   clear hc
   by_cases h : sgc c = true
   ·have h1 : ((c.toNat : Int) != 9) = false ∨ (((c.toNat : Int) != 9) = true ∧ ¬ (c.toNat : Int) < 32 ∧ ¬ (126 : Int) < (c.toNat : Int)) := by
     have := (sgc_iff c).1 h
     rw [bne_iff_ne,bne_eq_false_iff_eq]
     omega
    have HN := Lib.hid h
    clear h
    rcases h1 with h1 | ⟨h1,h2,h3⟩
    all_goals
     go_wp2_with fail
     go_roundw
     case rel => exact ⟨q + 1,by go_num,by omega,Lib.hid (by rw [all_take sgc _ HC.out,ha.out,HN.out]; rfl),hd⟩
     case measure => simp [intOf]; omega
   ·have hno := all_hit sgc HC.out (by simpa using h)
    have h1 : ((c.toNat : Int) != 9) = true ∧ ((c.toNat : Int) < 32 ∨ (¬ (c.toNat : Int) < 32 ∧ (126 : Int) < (c.toNat : Int))) := by
     rw [sgc_iff] at h
     rw [bne_iff_ne]
     omega
    have HNO := Lib.hid hno
    clear h hno
    rcases h1 with ⟨h0,h1 | ⟨h1,h2⟩⟩
    all_goals
     go_wp2_with fail
     go_ret
     exact ⟨ret_bool HNO.out.symm,hd⟩
  ·obtain rfl : q = l.length := by omega
   have hall : l.all sgc = true := by have := ha.out; rwa [List.take_length] at this
   have HR := Lib.hid hall
   clear hall
   go_wp2_with fail
   go_ret
   exact ⟨ret_bool HR.out.symm,hd⟩
theorem edges_one {l : List UInt8} {a b : UInt8} (ha : l[0]? = some a) (hb : l[l.length - 1]? = some b) : edges l = (!blk a && !blk b) := by
 unfold edges
 rw [List.head?_eq_getElem?,ha,List.getLast?_eq_getElem?,hb]
 rfl
theorem rvalue_any (l : List UInt8) (w : World) (hl : l.length ≤ 9223372036854775807) :
  Calls Tryz.prog 37 #[.string (bs l)] w fun e w' => e = .returned (.bool (vlOk l)) ∧ Dn w w' := by
 go_enter Tryz.func37,Tryz.ntmps37
 go_wp2_with fail
 refine (rsigns_any l w hl).mono ?_
 rintro e w1 ⟨rfl,hd⟩
 have hv : vlOk l = (l.all sgc && decide (l.length ≤ 8192) && edges l) := rfl
 have HV := Lib.hid hv
 clear hv
 rcases Bool.eq_false_or_eq_true (l.all sgc) with h | h
 ·by_cases h2 : l.length ≤ 8192
  ·by_cases h3 : l.length = 0
   ·have he : edges l = true := by rw [List.eq_nil_of_length_eq_zero h3]; rfl
    have HE := Lib.hid he
    clear he
    go_wp2_with fail
    go_ret
    exact ⟨ret_bool (by rw [HV.out,h,HE.out]; simp [h2]),hd⟩
   ·obtain ⟨a,ha⟩ : ∃ c,l[0]? = some c := ⟨_,List.getElem?_eq_getElem (by omega)⟩
    obtain ⟨b,hb⟩ : ∃ c,l[l.length - 1]? = some c := ⟨_,List.getElem?_eq_getElem (by omega)⟩
    have hi : ∀ W,(Instr.index 9 (.string (bs l)) (.int .i64 0)).run Tryz.prog W = .ok (.int .u8 (a.toNat : Int)) W := str_index (P := Tryz.prog) Tryz.underlying9 ha .i64
    have hj : ∀ W,(Instr.index 9 (.string (bs l)) (.int .i64 ((l.length : Int) - 1))).run Tryz.prog W = .ok (.int .u8 (b.toNat : Int)) W := by
     rw [show ((l.length : Int) - 1) = ((l.length - 1 : Nat) : Int) by omega]
     exact str_index (P := Tryz.prog) Tryz.underlying9 hb .i64
    have he := edges_one ha hb
    have HE := Lib.hid he
    have hne : l ≠ [] := fun e => h3 (by rw [e]; rfl)
    clear he ha hb
    go_wp2_with fail
    refine (rblank_any a _).mono ?_
    rintro e w2 ⟨rfl,rfl⟩
    rcases Bool.eq_false_or_eq_true (blk a) with h5 | h5
    ·rw [h5]
     go_wp2_with fail
     go_ret
     exact ⟨ret_bool (by rw [HV.out,HE.out,h,h5]; simp [hne]),hd⟩
    ·rw [h5]
     go_wp2_with fail
     refine (rblank_any b _).mono ?_
     rintro e w3 ⟨rfl,rfl⟩
     go_wp2_with fail
     go_ret
     exact ⟨ret_bool (by rw [HV.out,HE.out,h,h5]; simp [h2,hne]),hd⟩
  ·go_wp2_with fail
   go_ret
   exact ⟨ret_bool (by rw [HV.out,h]; simp [h2]),hd⟩
 ·rw [h]
  go_wp2_with fail
  go_ret
  exact ⟨ret_bool (by rw [HV.out,h]; rfl),hd⟩
theorem sameN_no {a b : List UInt8} {q : Nat} {x y : UInt8} (hx : a[q]? = some x) (hy : b[q]? = some y) (h : small x ≠ small y) : sameN a b = false := by
 unfold sameN
 rw [decide_eq_false_iff_not]
 intro e
 have := congrArg (fun l => l[q]?) e
 simp only [List.getElem?_map,hx,hy,Option.map_some,Option.some.injEq] at this
 exact h this
theorem sameN_len {a b : List UInt8} (h : a.length ≠ b.length) : sameN a b = false := by
 unfold sameN
 rw [decide_eq_false_iff_not]
 intro e
 have := congrArg List.length e
 simp only [List.length_map] at this
 exact h this
end Fd
end
section
namespace Fd
open Go.RowKit Go.Shelf
def lowF (x : Int) : Int := if 65 ≤ x ∧ x ≤ 90 then x + 32 else x
theorem lowF_one (c : UInt8) : Lib.mapD lowF [c] = if c.toNat < 128 then [small c] else [239,191,189] := by
 have key : ∀ n : Fin 256,Lib.mapD lowF [UInt8.ofNat n.1] = if n.1 < 128 then [small (UInt8.ofNat n.1)] else [239,191,189] := by decide +kernel
 have := key ⟨c.toNat,c.toNat_lt⟩
 simpa using this
theorem lower1_any (x : Nat) (w : World) (hx : x ≤ 1114111) :
  Calls Tryz.prog 238 #[.int .i32 (x : Int)] w fun e w' => e = .returned (.int .i32 (lowF x)) ∧ Below w.heap.size w w' := by
 unfold lowF
 rcases (by omega : (65 ≤ x ∧ x ≤ 90) ∨ x < 65 ∨ (65 ≤ x ∧ 90 < x)) with ⟨h1,h2⟩ | h1 | ⟨h1,h2⟩
 ·rw [if_pos ⟨by omega,by omega⟩]
  go_enter Tryz.func238,Tryz.ntmps238
  go_wp2_with fail
  go_ret
  exact ⟨ret_int (by go_num),Below.refl _ _⟩
 all_goals
  rw [if_neg (by omega)]
  go_enter Tryz.func238,Tryz.ntmps238
  go_wp2_with fail
  go_ret
  exact ⟨ret_int (by go_num),Below.refl _ _⟩
theorem eg_lower : ∀ args w,(callFunc 238 args).run Tryz.prog w = .ok (.enter 238 args) w := enters_of Tryz.func238 (by kernel_rfl) rfl
theorem lower_any (l : List UInt8) (w : World) (hT : Lib.Utf8Tabs 2 3 w) (hl : l.length ≤ 1000000000) :
  Calls Tryz.prog 209 #[.string (bs l)] w fun e w' => e = .returned (.string (bs (Lib.mapD lowF l))) ∧ Below w.heap.size w w' := by
 have h := Tryz.strings_Map_grows 238 #[] eg_lower lowF (bs l) w (by rw [bs_size]; omega) (fun W x hx _ => lower1_any x W hx) (fun x hx => by unfold lowF; split <;> omega) hT
 rw [bs_toList] at h
 have h2 : Calls Tryz.prog 237 #[.func (.func 238) #[] #[],.string (bs l)] w fun e w' => e = .returned (.string (bs (Lib.mapD lowF l))) ∧ Below w.heap.size w w' := h
 clear h
 generalize Lib.mapD lowF l = m at *
 go_enter Tryz.func209,Tryz.ntmps209
 go_wp2_with fail
 refine h2.mono ?_
 rintro e w' ⟨rfl,hb⟩
 go_wp2_with fail
 go_ret
 exact ⟨rfl,hb⟩
theorem small_128 (c : UInt8) : (small c).toNat < 128 ↔ c.toNat < 128 := by
 rw [small_nat]
 split <;> omega
theorem sameN_step {x y : UInt8} : small x = small y ↔ (x = y ∨ (Lib.mapD lowF [x] = Lib.mapD lowF [y] ∧ x.toNat < 128)) := by
 rw [lowF_one,lowF_one]
 have hx := small_128 x
 have hy := small_128 y
 constructor
 ·intro e
  by_cases h : x.toNat < 128
  ·have h2 : y.toNat < 128 := by rw [← hy,← e,hx]; exact h
   rw [if_pos h,if_pos h2,e]
   exact .inr ⟨rfl,h⟩
  ·left
   have h2 : ¬ y.toNat < 128 := by rw [← hy,← e,hx]; exact h
   have e1 := small_nat x
   have e2 := small_nat y
   rw [if_neg (by omega)] at e1 e2
   exact UInt8.toNat_inj.1 (by rw [← e1,← e2,e])
 ·rintro (rfl | ⟨e,h⟩)
  ·rfl
  ·rw [if_pos h] at e
   by_cases h2 : y.toNat < 128
   ·rw [if_pos h2] at e
    simpa using e
   ·rw [if_neg h2] at e
    simp at e
theorem fsame_any (a b : List UInt8) (w : World) (hT : Lib.Utf8Tabs 2 3 w) (ha : a.length ≤ 1000000000) (hb : b.length ≤ 1000000000) :
  Calls Tryz.prog 160 #[.string (bs a),.string (bs b)] w fun e w' => e = .returned (.bool (sameN a b)) ∧ Below w.heap.size w w' := by
 by_cases hl : a.length = b.length
 ·obtain ⟨n,hn⟩ : ∃ n,a.length = n := ⟨_,rfl⟩
  have hm : b.length = n := by omega
  rw [hn] at ha
  go_enter Tryz.func160,Tryz.ntmps160
  go_wp2_with fail
  go_loopw [13] (fun i wr => ∃ q : Nat,i = .int .i64 q ∧ q ≤ n ∧ Hid ((a.take q).map small = (b.take q).map small) ∧ Below w.heap.size w wr) (fun i _ => n - (intOf i).toNat)
  case atStart => exact ⟨0,rfl,by omega,Lib.hid (by simp),Below.refl _ _⟩
  case round =>
   obtain ⟨q,rfl,hq,he,hB⟩ := hrel
   by_cases hlt : q < n
   ·obtain ⟨x,hx⟩ : ∃ c,a[q]? = some c := ⟨_,List.getElem?_eq_getElem (by omega)⟩
    obtain ⟨y,hy⟩ : ∃ c,b[q]? = some c := ⟨_,List.getElem?_eq_getElem (by omega)⟩
    have hi := str_index (P := Tryz.prog) Tryz.underlying9 hx .i64
    have hj := str_index (P := Tryz.prog) Tryz.underlying9 hy .i64
    have hxa : (a.drop q).take 1 = [x] := by rw [List.drop_eq_getElem_cons (by omega)]; rw [List.getElem?_eq_getElem (by omega)] at hx; simp [Option.some.inj hx]
    have hyb : (b.drop q).take 1 = [y] := by rw [List.drop_eq_getElem_cons (by omega)]; rw [List.getElem?_eq_getElem (by omega)] at hy; simp [Option.some.inj hy]
    have hst := @sameN_step x y
    have hlx : ∀ W,Below w.heap.size w W → Calls Tryz.prog 209 #[.string (bs [x])] W fun e w' => e = .returned (.string (bs (Lib.mapD lowF [x]))) ∧ Below w.heap.size w w' := fun W hb => (lower_any [x] W (tabs_below hT hb) (by simp)).mono fun e w' h => ⟨h.1,hb.trans (h.2.mono hb.size)⟩
    have hly : ∀ W,Below w.heap.size w W → Calls Tryz.prog 209 #[.string (bs [y])] W fun e w' => e = .returned (.string (bs (Lib.mapD lowF [y]))) ∧ Below w.heap.size w w' := fun W hb => (lower_any [y] W (tabs_below hT hb) (by simp)).mono fun e w' h => ⟨h.1,hb.trans (h.2.mono hb.size)⟩
    have hok : small x = small y → Hid ((a.take (q + 1)).map small = (b.take (q + 1)).map small) := fun h => Lib.hid (by rw [take_succ_of hx,take_succ_of hy,List.map_append,List.map_append,he.out]; simp [h])
    have hno : small x ≠ small y → Hid (sameN a b = false) := fun h => Lib.hid (sameN_no hx hy h)
    clear hx hy he
    have f0 : (0 : Int) ≤ (q : Int) := by omega
    have f1 : (0 : Int) ≤ (q : Int) + 1 := by omega
    have f2 : (q : Int) ≤ (q : Int) + 1 := by omega
    have f3 : (q : Int) + 1 ≤ (n : Int) := by omega
    have f4 : IntKind.i64.wrap ((q : Int) + 1) = (q : Int) + 1 := by rw [IntKind.wrap_i64]; omega
    generalize Lib.mapD lowF [x] = mx at *
    generalize Lib.mapD lowF [y] = my at *
    by_cases h1 : x = y
    ·have hbb : ((x.toNat : Int) != (y.toNat : Int)) = false := by rw [bne_eq_false_iff_eq,h1]
     have hok := hok (by rw [h1])
     clear hlx hly hst hno h1
     go_wp2_with fail
     go_quiet (fail)
     go_wp2_with fail
     go_roundw
     case rel => exact ⟨q + 1,by go_num,by omega,hok,hB.trans (Dn.below (Dn.of _ _) _ |>.mono hB.size)⟩
     case measure => simp [intOf]; omega
    ·have hbb : ((x.toNat : Int) != (y.toNat : Int)) = true := by rw [bne_iff_ne]; exact fun h => h1 (u8_eq.1 h)
     by_cases h2 : mx = my
     ·have h2b : (mx == my) = true := by simp [h2]
      by_cases h3 : x.toNat < 128
      ·have hok := hok (hst.2 (.inr ⟨h2,h3⟩))
       have h3i : ¬ (128 : Int) ≤ (x.toNat : Int) := by omega
       have h3b : decide ((128 : Int) ≤ (x.toNat : Int)) = false := decide_eq_false h3i
       clear hst hno h1 h2 h3
       go_wp2_with fail
       go_region_held3 (fun w' => Below w.heap.size w w') (first | assumption | exact Below.drew (by assumption))
        (first
        | (go_at_call 209; (try simp only [hxa]); refine (hlx _ (by assumption)).mono ?_; rintro e w2 ⟨rfl,hB2⟩)
        | (go_at_call 209; (try simp only [hyb]); refine (hly _ (by assumption)).mono ?_; rintro e w3 ⟨rfl,hB3⟩))
       all_goals
        go_wp2_with fail
        go_roundw
        case rel => exact ⟨q + 1,by go_num,by omega,hok,by first | assumption | exact Below.drew (by assumption)⟩
        case measure => simp [intOf]; omega
      ·have hno := hno (fun h => by rcases hst.1 h with h | h; exact h1 h; exact h3 h.2)
       have h3i : (128 : Int) ≤ (x.toNat : Int) := by omega
       clear hst hok h1 h2 h3
       go_wp2_with fail
       go_region_held3 (fun w' => Below w.heap.size w w') (first | assumption | exact Below.drew (by assumption))
        (first
        | (go_at_call 209; (try simp only [hxa]); refine (hlx _ (by assumption)).mono ?_; rintro e w2 ⟨rfl,hB2⟩)
        | (go_at_call 209; (try simp only [hyb]); refine (hly _ (by assumption)).mono ?_; rintro e w3 ⟨rfl,hB3⟩))
       all_goals
        go_wp2_with fail
        go_ret
        exact ⟨ret_bool hno.out.symm,by first | assumption | exact Below.drew (by assumption)⟩
     ·have h2b : (mx == my) = false := by simp [h2]
      have hno := hno (fun h => by rcases hst.1 h with h | h; exact h1 h; exact h2 h.1)
      clear hst hok h1 h2
      go_wp2_with fail
      first
      | (go_region_held_law (fun w' => Below w.heap.size w w') (first | assumption | exact Below.drew (by assumption))
       (first
       | (go_at_call 209; (try simp only [hxa]); refine (hlx _ (by assumption)).mono ?_; rintro e w2 ⟨rfl,hB2⟩)
       | (go_at_call 209; (try simp only [hyb]); refine (hly _ (by assumption)).mono ?_; rintro e w3 ⟨rfl,hB3⟩)))
      | fail
      all_goals
       go_wp2_with fail
       go_ret
       exact ⟨ret_bool hno.out.symm,by first | assumption | exact Below.drew (by assumption)⟩
   ·obtain rfl : q = n := by omega
    have hall : sameN a b = true := by
     have := he.out
     rw [take_all a (by omega),take_all b (by omega)] at this
     unfold sameN
     rw [decide_eq_true_iff]
     exact this
    have HR := Lib.hid hall
    clear hall
    go_wp2_with fail
    go_ret
    exact ⟨ret_bool HR.out.symm,hB⟩
 ·have hno := Lib.hid (sameN_len hl)
  have hbb : ((a.length : Int) != (b.length : Int)) = true := by rw [bne_iff_ne]; omega
  go_enter Tryz.func160,Tryz.ntmps160
  go_wp2_with fail
  go_ret
  exact ⟨ret_bool hno.out.symm,Below.refl _ _⟩
end Fd
end
end Go.Proofs.YtkllecicddfjpaaGreatDoor
