/- The walk of the law, part 9. -/
import Derived.Test.YtkllecicddfjpaaGreatDoorJ08
import Derived.Test.YtkllecicddfjpaaGreatDoorJ04
import Derived.Test.YtkllecicddfjpaaGreatDoorJ02
import Derived.Deep.RegionHeld3
set_option maxRecDepth 100000
set_option maxHeartbeats 16000000
set_option linter.unusedVariables false
set_option linter.unusedSimpArgs false
namespace Go.Proofs.YtkllecicddfjpaaGreatDoor
section
namespace Tk
open Go.RowKit
theorem bareP_len : ∀ (n : Nat) (l o : List UInt8),l.length ≤ n → bareP l = .ok o → o.length ≤ l.length
 | _,[],o,_,h => by
  have : o = [] := by simpa [bareP,bareN,eq_comm] using h
  simp [this]
 | 0,c :: l,_,hl,_ => by simp at hl
 | n + 1,c :: r,o,hl,h => by
  simp only [List.length_cons] at hl ⊢
  have key : ∀ (t : List UInt8) (f : List UInt8 → List UInt8),t.length ≤ n → (bareP t).map f = .ok o → ∃ p,o = f p ∧ p.length ≤ t.length := fun t f ht hm => by
   cases hb : bareP t with
   | error e => rw [hb] at hm; cases hm
   | ok p =>
    rw [hb] at hm
    cases hm
    exact ⟨p,rfl,bareP_len n t p ht hb⟩
  rw [bareP_cons] at h
  split at h
  ·cases hg : cmtGo 1 r with
   | error e => rw [hg] at h; cases h
   | ok t =>
    rw [hg] at h
    have := cmtGo_len _ _ _ _ (Nat.le_refl _) hg
    obtain ⟨p,rfl,hp⟩ := key t _ (by omega) h
    simp
    omega
  ·split at h
   ·cases hg : qGo r with
    | none => rw [hg] at h; cases h
    | some p =>
     obtain ⟨a,t⟩ := p
     rw [hg] at h
     have h1 := (qGo_len _ _ _ _ (Nat.le_refl _) hg).1
     have h2 := congrArg List.length h1
     simp at h2
     obtain ⟨p,rfl,hp⟩ := key t _ (by omega) h
     simp
     omega
   ·split at h
    ·cases h
    ·obtain ⟨p,rfl,hp⟩ := key r _ (by omega) h
     simp
     omega
theorem hasSuffix_one (l : List UInt8) (c : UInt8) : Lib.hasSuffix l [c] = true ↔ l.getLast? = some c := by
 unfold Lib.hasSuffix
 rw [List.isSuffixOf_iff_suffix]
 constructor
 ·rintro ⟨t,rfl⟩
  simp
 ·intro h
  obtain ⟨t,rfl⟩ := List.getLast?_eq_some_iff.1 h
  exact ⟨t,rfl⟩
def cutV (s : UInt8) (l : List UInt8) : List UInt8 × List UInt8 × Bool := match cutAt s l with | some (a,b) => (a,b,true) | none => (l,[],false)
theorem cut_any (l : List UInt8) (s : UInt8) (w : World) (hw : Mx w) (hl : l.length ≤ 1000000000) :
  Calls Tryz.prog 133 #[.string (bs l),.string ⟨#[s]⟩] w fun e w' => e = .returned (.tuple #[.string (bs (cutV s l).1),.string (bs (cutV s l).2.1),.bool (cutV s l).2.2]) ∧ Below w.heap.size w w' := by
 obtain ⟨m,hm⟩ := hw
 refine (Tryz.strings_Cut (bs l) ⟨#[s]⟩ m w (by rw [bs_size]; omega) hm).mono ?_
 rintro e w' ⟨rfl,q,rfl⟩
 rw [bs_toList,show (⟨#[s]⟩ : ByteArray).data.toList = [s] from rfl,lib_cut]
 exact ⟨rfl,(Dn.of w q).below _⟩
theorem csuf_any (l : List UInt8) (s : UInt8) (w : World) (hl : l.length ≤ 1000000000) :
  Calls Tryz.prog 153 #[.string (bs l),.string ⟨#[s]⟩] w fun e w' => e = .returned (.tuple #[.string (bs (if l.getLast? = some s then l.dropLast else l)),.bool (decide (l.getLast? = some s))]) ∧ w' = w := by
 have h := Tryz.strings_CutSuffix (bs l) ⟨#[s]⟩ w (by rw [bs_size]; omega)
 rw [bs_toList,show (⟨#[s]⟩ : ByteArray).data.toList = [s] from rfl] at h
 unfold Lib.trimSuffix at h
 by_cases hs : l.getLast? = some s
 ·rw [(hasSuffix_one l s).2 hs] at h
  rw [if_pos hs,decide_eq_true hs,List.dropLast_eq_take]
  exact h
 ·have hs' : Lib.hasSuffix l [s] = false := by
   rw [← Bool.not_eq_true]
   exact fun k => hs ((hasSuffix_one l s).1 k)
  rw [hs'] at h
  rw [if_neg hs,decide_eq_false hs]
  exact h
theorem bs_sep (x : List UInt8) (s : UInt8) : bs x ++ (⟨#[s]⟩ : ByteArray) = bs (x ++ [s]) := bs_add x [s]
theorem addr_any (l : List UInt8) (w : World) (hw : Mx w) (hl : l.length ≤ 1000000) :
  Calls Tryz.prog 86 #[.string (bs l)] w fun e w' => BareOut (addrP l) e ∧ Below w.heap.size w w' := by
 have hb := bare_any l w (by omega)
 cases hbp : bareP l with
 | error k =>
  have hk : ((k : Int) != 0) = true := by have := bareP_err _ _ _ (Nat.le_refl _) hbp; rw [bne_iff_ne]; omega
  have hr : addrP l = .error k := by unfold addrP; rw [hbp]
  have HR := Lib.hid hr
  rw [hbp] at hb
  have hb' : Calls Tryz.prog 130 #[.string (bs l)] w fun e w' => e = .returned (.tuple #[.string (bs []),.int .i64 (k : Int)]) ∧ Below w.heap.size w w' := hb
  clear hb hbp hr
  go_enter Tryz.func86,Tryz.ntmps86
  go_wp2_with fail
  refine hb'.mono ?_
  rintro e w1 ⟨rfl,hb1⟩
  go_wp2_with fail
  go_ret2
  exact ⟨bareOut_err HR.out rfl,hb1⟩
 | ok b =>
  have hbl := bareP_len _ _ _ (Nat.le_refl _) hbp
  have hr : addrP l = match addrIn b with | none => .error 3 | some t => addrAt t := by unfold addrP; rw [hbp]; rfl
  rw [hbp] at hb
  have hb' : Calls Tryz.prog 130 #[.string (bs l)] w fun e w' => e = .returned (.tuple #[.string (bs b),.int .i64 0]) ∧ Below w.heap.size w w' := hb
  have htl := trimB_len b
  obtain ⟨t0,ht0⟩ : ∃ t,trimB b = t := ⟨_,rfl⟩
  have htrim := fun W => tktrim_any b W (by omega)
  unfold addrIn at hr
  rw [ht0] at hr htl htrim
  clear hb hbp ht0
  have hsuf := fun W => csuf_any t0 62 W (by omega)
  go_enter Tryz.func86,Tryz.ntmps86
  go_wp2_with fail
  refine hb'.mono ?_
  rintro e w1 ⟨rfl,hb1⟩
  go_wp2_with fail
  refine (htrim _).mono ?_
  rintro e w2 ⟨rfl,hb2⟩
  have hB2 := hb1.trans (hb2.mono hb1.size)
  go_wp2_with fail
  refine (hsuf _).mono ?_
  rintro e w3 ⟨rfl,rfl⟩
  clear hb1 hb2 htrim hsuf hb'
  have hfin : ∀ s : List UInt8,addrAt s = match cutAt 64 s with | none => .error 3 | some (x,y) => if dotP x && dotP y then .ok (x ++ 64 :: y.map small) else .error 3 := fun _ => rfl
  by_cases hs : t0.getLast? = some 62
  ·rw [if_pos hs] at hr ⊢
   rw [decide_eq_true hs]
   have hin : t0.dropLast.length ≤ t0.length := by simp
   clear hs
   generalize t0.dropLast = inn at *
   have hlast := fun W => Tryz.strings_LastIndexByte (bs inn) 60 (by rw [bs_size]; omega) W
   rcases lastCut_lib 60 inn with ⟨h1,h2⟩ | ⟨i,h1,hi,h2⟩
   ·have h1' : Lib.lastIndexByte (bs inn) 60 = -1 := h1
    rw [h1'] at hlast
    rw [h2] at hr
    have HR := Lib.hid (show addrP l = .error 3 from hr)
    clear h1 h2 h1' hr hfin
    go_wp2_with fail
    refine (hlast _).mono ?_
    rintro e w4 ⟨rfl,rfl⟩
    go_wp2_with fail
    go_ret2
    exact ⟨bareOut_err HR.out rfl,hB2⟩
   ·have h1' : Lib.lastIndexByte (bs inn) 60 = (i : Int) := h1
    rw [h1'] at hlast
    rw [h2] at hr
    have hr2 : addrP l = addrAt (trimB (inn.drop (i + 1))) := hr
    have f0 : (0 : Int) ≤ (i : Int) + 1 := by omega
    have f1 : (i : Int) + 1 ≤ (inn.length : Int) := by omega
    have f2 : IntKind.i64.wrap ((i : Int) + 1) = (i : Int) + 1 := by rw [IntKind.wrap_i64]; omega
    have f3 : ¬ (i : Int) < 0 := by omega
    have hn : ((i : Int) + 1).toNat = i + 1 := by omega
    have htk : (inn.drop (i + 1)).take (inn.length - (i + 1)) = inn.drop (i + 1) := List.take_of_length_le (by rw [List.length_drop]; omega)
    have hdl : (inn.drop (i + 1)).length ≤ inn.length := by rw [List.length_drop]; omega
    have hdl2 := trimB_len (inn.drop (i + 1))
    have htrim := fun W => tktrim_any (inn.drop (i + 1)) W (by omega)
    clear h1 h2 h1' hr
    obtain ⟨s,hss⟩ : ∃ s,trimB (inn.drop (i + 1)) = s := ⟨_,rfl⟩
    rw [hss] at hr2 hdl2 htrim
    rw [hfin] at hr2
    have HR := Lib.hid hr2
    have hsl : s.length ≤ 1000000 := by omega
    clear hss hr2 hfin
    go_wp2_with fail
    refine (hlast _).mono ?_
    rintro e w4 ⟨rfl,rfl⟩
    go_wp2_with fail
    try simp only [hn,htk]
    refine (htrim _).mono ?_
    rintro e w5 ⟨rfl,hb5⟩
    have hB5 := hB2.trans (hb5.mono hB2.size)
    clear htrim hb5 hlast hB2 f0 f1 f2 f3 hn htk hdl hdl2
    have hcut := fun W hW => cut_any s 64 W hW (by omega)
    unfold cutV at hcut
    cases hc : cutAt 64 s with
    | none =>
     rw [hc] at hcut HR
     have HR2 := Lib.hid (show addrP l = .error 3 from HR.out)
     clear hc HR
     go_wp2_with fail
     refine (hcut _ (hw.below hB5)).mono ?_
     rintro e w6 ⟨rfl,hb6⟩
     have hB6 := hB5.trans (hb6.mono hB5.size)
     clear hcut hb6
     go_wp2_with fail
     go_ret2
     exact ⟨bareOut_err HR2.out rfl,hB6⟩
    | some xy =>
     obtain ⟨x,y⟩ := xy
     have hxy := cutAt_len hc
     rw [hc] at hcut HR
     have HR2 := Lib.hid (show addrP l = if dotP x && dotP y then .ok (x ++ 64 :: y.map small) else .error 3 from HR.out)
     have hx : x.length ≤ 1000000 := by omega
     have hy : y.length ≤ 1000000 := by omega
     have hdx := fun W hW => dotted_any x W hW hx
     have hdy := fun W hW => dotted_any y W hW hy
     have hlow := fun W => lower_any y W (by omega)
     clear hc HR hxy
     go_wp2_with fail
     refine (hcut _ (hw.below hB5)).mono ?_
     rintro e w6 ⟨rfl,hb6⟩
     have hB6 := hB5.trans (hb6.mono hB5.size)
     clear hcut hb6 hB5
     rcases Bool.eq_false_or_eq_true (dotP x) with h1 | h1
     ·rw [h1] at hdx HR2
      rcases Bool.eq_false_or_eq_true (dotP y) with h2 | h2
      ·rw [h2] at hdy HR2
       have HR3 := Lib.hid (show addrP l = .ok (x ++ 64 :: y.map small) from HR2.out)
       have hcat := bs_sep x 64
       have hcat2 := bs_add (x ++ [64]) (y.map small)
       rw [show x ++ [64] ++ y.map small = x ++ 64 :: y.map small by simp] at hcat2
       have hyl : (y.map small).length ≤ 1000000 := by simpa using hy
       generalize y.map small = ym at *
       clear h1 h2 HR2
       go_wp2_with fail
       refine (hdx _ (hw.below hB6)).mono ?_
       rintro e w7 ⟨rfl,hb7⟩
       have hB7 := hB6.trans (hb7.mono hB6.size)
       go_wp2_with fail
       refine (hdy _ (hw.below hB7)).mono ?_
       rintro e w8 ⟨rfl,hb8⟩
       have hB8 := hB7.trans (hb8.mono hB7.size)
       clear hdx hdy hb7 hb8
       go_wp2_with fail
       refine (hlow _).mono ?_
       rintro e w9 ⟨rfl,hb9⟩
       have hB9 := hB8.trans (hb9.mono hB8.size)
       go_wp2_with fail
       go_ret2
       exact ⟨bareOut_ok HR3.out (by first | rfl | (rw [← hcat2,← hcat])),hB9⟩
      ·rw [h2] at hdy HR2
       have HR3 := Lib.hid (show addrP l = .error 3 from HR2.out)
       clear h1 h2 HR2
       go_wp2_with fail
       refine (hdx _ (hw.below hB6)).mono ?_
       rintro e w7 ⟨rfl,hb7⟩
       have hB7 := hB6.trans (hb7.mono hB6.size)
       go_wp2_with fail
       refine (hdy _ (hw.below hB7)).mono ?_
       rintro e w8 ⟨rfl,hb8⟩
       have hB8 := hB7.trans (hb8.mono hB7.size)
       go_wp2_with fail
       go_ret2
       exact ⟨bareOut_err HR3.out rfl,hB8⟩
     ·rw [h1] at hdx HR2
      have HR3 := Lib.hid (show addrP l = .error 3 from HR2.out)
      clear h1 HR2
      go_wp2_with fail
      refine (hdx _ (hw.below hB6)).mono ?_
      rintro e w7 ⟨rfl,hb7⟩
      have hB7 := hB6.trans (hb7.mono hB6.size)
      go_wp2_with fail
      go_ret2
      exact ⟨bareOut_err HR3.out rfl,hB7⟩
  ·rw [if_neg hs] at hr ⊢
   rw [decide_eq_false hs]
   have hr2 : addrP l = addrAt t0 := hr
   rw [hfin] at hr2
   have HR := Lib.hid hr2
   have hsl : t0.length ≤ 1000000 := by omega
   clear hs hr hr2 hfin
   have hcut := fun W hW => cut_any t0 64 W hW (by omega)
   unfold cutV at hcut
   cases hc : cutAt 64 t0 with
   | none =>
    rw [hc] at hcut HR
    have HR2 := Lib.hid (show addrP l = .error 3 from HR.out)
    clear hc HR
    go_wp2_with fail
    refine (hcut _ (hw.below hB2)).mono ?_
    rintro e w6 ⟨rfl,hb6⟩
    have hB6 := hB2.trans (hb6.mono hB2.size)
    clear hcut hb6
    go_wp2_with fail
    go_ret2
    exact ⟨bareOut_err HR2.out rfl,hB6⟩
   | some xy =>
    obtain ⟨x,y⟩ := xy
    have hxy := cutAt_len hc
    rw [hc] at hcut HR
    have HR2 := Lib.hid (show addrP l = if dotP x && dotP y then .ok (x ++ 64 :: y.map small) else .error 3 from HR.out)
    have hx : x.length ≤ 1000000 := by omega
    have hy : y.length ≤ 1000000 := by omega
    have hdx := fun W hW => dotted_any x W hW hx
    have hdy := fun W hW => dotted_any y W hW hy
    have hlow := fun W => lower_any y W (by omega)
    clear hc HR hxy
    go_wp2_with fail
    refine (hcut _ (hw.below hB2)).mono ?_
    rintro e w6 ⟨rfl,hb6⟩
    have hB6 := hB2.trans (hb6.mono hB2.size)
    clear hcut hb6 hB2
    rcases Bool.eq_false_or_eq_true (dotP x) with h1 | h1
    ·rw [h1] at hdx HR2
     rcases Bool.eq_false_or_eq_true (dotP y) with h2 | h2
     ·rw [h2] at hdy HR2
      have HR3 := Lib.hid (show addrP l = .ok (x ++ 64 :: y.map small) from HR2.out)
      have hcat := bs_sep x 64
      have hcat2 := bs_add (x ++ [64]) (y.map small)
      rw [show x ++ [64] ++ y.map small = x ++ 64 :: y.map small by simp] at hcat2
      have hyl : (y.map small).length ≤ 1000000 := by simpa using hy
      generalize y.map small = ym at *
      clear h1 h2 HR2
      go_wp2_with fail
      refine (hdx _ (hw.below hB6)).mono ?_
      rintro e w7 ⟨rfl,hb7⟩
      have hB7 := hB6.trans (hb7.mono hB6.size)
      go_wp2_with fail
      refine (hdy _ (hw.below hB7)).mono ?_
      rintro e w8 ⟨rfl,hb8⟩
      have hB8 := hB7.trans (hb8.mono hB7.size)
      clear hdx hdy hb7 hb8
      go_wp2_with fail
      refine (hlow _).mono ?_
      rintro e w9 ⟨rfl,hb9⟩
      have hB9 := hB8.trans (hb9.mono hB8.size)
      go_wp2_with fail
      go_ret2
      exact ⟨bareOut_ok HR3.out (by first | rfl | (rw [← hcat2,← hcat])),hB9⟩
     ·rw [h2] at hdy HR2
      have HR3 := Lib.hid (show addrP l = .error 3 from HR2.out)
      clear h1 h2 HR2
      go_wp2_with fail
      refine (hdx _ (hw.below hB6)).mono ?_
      rintro e w7 ⟨rfl,hb7⟩
      have hB7 := hB6.trans (hb7.mono hB6.size)
      go_wp2_with fail
      refine (hdy _ (hw.below hB7)).mono ?_
      rintro e w8 ⟨rfl,hb8⟩
      have hB8 := hB7.trans (hb8.mono hB7.size)
      go_wp2_with fail
      go_ret2
      exact ⟨bareOut_err HR3.out rfl,hB8⟩
    ·rw [h1] at hdx HR2
     have HR3 := Lib.hid (show addrP l = .error 3 from HR2.out)
     clear h1 HR2
     go_wp2_with fail
     refine (hdx _ (hw.below hB6)).mono ?_
     rintro e w7 ⟨rfl,hb7⟩
     have hB7 := hB6.trans (hb7.mono hB6.size)
     go_wp2_with fail
     go_ret2
     exact ⟨bareOut_err HR3.out rfl,hB7⟩
end Tk
end
section
namespace Tk
open Go.RowKit
theorem infoStr : (Tryz.prog.info? 9).map (fun i => (i.zero,i.size,i.bytes)) = some (some (.string ⟨#[]⟩),1,16) := by kernel_rfl
theorem TStr : ElT Tryz.prog 65 9 1 16 := ElT.mk' (z := .string ⟨#[]⟩) Tryz.underlying65 (by omega) (by omega) rfl infoStr
def SemAt (l : List UInt8) (ps out : List (List UInt8)) (f q : Nat) : Prop := ∃ rest,semP (l.drop q) = some rest ∧ ps = out ++ pre ((l.drop f).take (q - f)) rest
theorem SemAt.start {l : List UInt8} {ps : List (List UInt8)} (h : semP l = some ps) : SemAt l ps [] 0 0 := ⟨ps,h,by simp [pre_nil (semP_ne h)]⟩
theorem cur_more {l : List UInt8} {f q n : Nat} (hf : f ≤ q) : (l.drop f).take (q + n - f) = (l.drop f).take (q - f) ++ (l.drop q).take n := by
 rw [show q + n - f = (q - f) + n by omega,List.take_add,List.drop_drop,show f + (q - f) = q by omega]
theorem cur_snoc {l : List UInt8} {f q : Nat} {c : UInt8} (hf : f ≤ q) (hc : l[q]? = some c) : (l.drop f).take (q + 1 - f) = (l.drop f).take (q - f) ++ [c] := by
 rw [show q + 1 - f = q - f + 1 by omega]
 exact take_succ_of (by rw [List.getElem?_drop,show f + (q - f) = q by omega]; exact hc)
theorem SemAt.quo {l : List UInt8} {ps out : List (List UInt8)} {f q : Nat} {c : UInt8} (h : SemAt l ps out f q) (hf : f ≤ q) (hc : l[q]? = some c) (h3 : c = 34) :
  ∃ n,quoAt (l.drop q) 1 = some n ∧ 2 ≤ n ∧ q + n ≤ l.length ∧ SemAt l ps out f (q + n) := by
 obtain ⟨rest,h1,h2⟩ := h
 have hd := drop_at hc
 have hq := lt_of_get hc
 have h1' := h1
 rw [hd,semP_cons,if_pos h3] at h1
 cases hg : qGo (l.drop (q + 1)) with
 | none => rw [hg] at h1; cases h1
 | some p =>
  obtain ⟨a,t⟩ := p
  rw [hg] at h1
  simp only at h1
  rw [Option.map_eq_some_iff] at h1
  obtain ⟨r',hr',rfl⟩ := h1
  obtain ⟨hu,ha⟩ := qGo_len _ _ _ _ (Nat.le_refl _) hg
  have e2 : a.length + t.length = l.length - (q + 1) := by
   have := congrArg List.length hu
   rw [List.length_drop,List.length_append] at this
   omega
  have ht : l.drop (q + (1 + a.length)) = t := by
   have e1 : l.drop (q + (1 + a.length)) = (l.drop (q + 1)).drop a.length := by rw [List.drop_drop]; congr 1; omega
   rw [e1,hu,List.drop_left' rfl]
  have hn : quoAt (l.drop q) 1 = some (1 + a.length) := by
   unfold quoAt
   rw [hd]
   simp only [List.drop_succ_cons,List.drop_zero]
   rw [hg]
   rfl
  refine ⟨1 + a.length,hn,by omega,by omega,r',by rw [ht]; exact hr',?_⟩
  rw [h2,cur_more hf,pre_pre,hd,Nat.add_comm 1,List.take_succ_cons,hu,List.take_left' rfl,h3]
theorem SemAt.cut {l : List UInt8} {ps out : List (List UInt8)} {f q : Nat} {c : UInt8} (h : SemAt l ps out f q) (hf : f ≤ q) (hc : l[q]? = some c) (h5 : c = 59) :
  SemAt l ps (out ++ [(l.drop f).take (q - f)]) (q + 1) (q + 1) := by
 obtain ⟨rest,h1,h2⟩ := h
 rw [drop_at hc,semP_cons,if_neg (by rw [h5]; decide),if_pos h5,Option.map_eq_some_iff] at h1
 obtain ⟨r',hr',rfl⟩ := h1
 refine ⟨r',hr',?_⟩
 rw [h2,Nat.sub_self,List.take_zero,pre_nil (semP_ne hr')]
 simp [pre]
theorem SemAt.more {l : List UInt8} {ps out : List (List UInt8)} {f q : Nat} {c : UInt8} (h : SemAt l ps out f q) (hf : f ≤ q) (hc : l[q]? = some c) (h3 : c ≠ 34) (h5 : c ≠ 59) :
  SemAt l ps out f (q + 1) := by
 obtain ⟨rest,h1,h2⟩ := h
 rw [drop_at hc,semP_cons,if_neg h3,if_neg h5,Option.map_eq_some_iff] at h1
 obtain ⟨r',hr',rfl⟩ := h1
 refine ⟨r',hr',?_⟩
 rw [h2,cur_snoc hf hc,pre_pre]
theorem SemAt.last {l : List UInt8} {ps out : List (List UInt8)} {f q : Nat} (h : SemAt l ps out f q) (hf : f ≤ q) (hq : l.length ≤ q) : ps = out ++ [(l.drop f).take (l.length - f)] := by
 obtain ⟨rest,h1,h2⟩ := h
 rw [List.drop_of_length_le hq] at h1
 have : rest = [[]] := by simpa [semP,semN,eq_comm] using h1
 rw [h2,this]
 simp only [pre,List.append_nil]
 rw [List.take_of_length_le (by rw [List.length_drop]; omega),List.take_of_length_le (by rw [List.length_drop]; omega)]
theorem tksplit_any (l : List UInt8) (ps : List (List UInt8)) (w : World) (hps : semP l = some ps) (hl : l.length ≤ 1000000) :
  Calls Tryz.prog 131 #[.string (bs l)] w fun e w' => (∃ v,e = .returned v ∧ w'.ownsRow w.heap.size 9 1 v ps.length (ps.map sv)) ∧ Below w.heap.size w w' := by
 have HS := Lib.hid (SemAt.start hps)
 clear hps
 go_enter Tryz.func131,Tryz.ntmps131
 go_wp2_with fail
 go_loopw [2,3,4] (fun v a i wr => ∃ (q f k : Nat) (out : List (List UInt8)),a = .int .i64 f ∧ i = .int .i64 q ∧ f ≤ q ∧ q ≤ l.length ∧ k ≤ q ∧ Hid (SemAt l ps out f q) ∧ wr.ownsRow w.heap.size 9 1 v k (out.map sv) ∧ Below w.heap.size w wr) (fun _ _ i _ => l.length - (intOf i).toNat)
 case atStart => exact ⟨0,0,0,[],rfl,rfl,by omega,by omega,by omega,HS,World.ownsRow_nil _ _ _ _,Below.refl _ _⟩
 case round =>
  obtain ⟨q,f,k,out,rfl,rfl,hf,hq,hk,hp,hown,hB⟩ := hrel
  have hs1 := hB.size
  clear HS
  have f0 : (0 : Int) ≤ (q : Int) := by omega
  have f1 : (q : Int) ≤ (l.length : Int) := by omega
  by_cases hlt : q < l.length
  ·obtain ⟨c,hc⟩ : ∃ c,l[q]? = some c := ⟨_,List.getElem?_eq_getElem hlt⟩
   have hi := str_index (P := Tryz.prog) Tryz.underlying9 hc .i64
   have t34 : ((c.toNat : Int) == 34) = (c == 34) := u8_test c 34 rfl
   have t59 : ((c.toNat : Int) == 59) = (c == 59) := u8_test c 59 rfl
   by_cases h1 : c = 34
   ·have hb : ((c.toNat : Int) == 34) = true := by rw [t34,h1]; rfl
    obtain ⟨n,hn,hn2,hnl,hst⟩ := hp.out.quo hf hc h1
    have hcall : ∀ W,Calls Tryz.prog 134 #[.string (bs (l.drop q))] W fun e w' => e = .returned (.tuple #[.int .i64 (n : Int),.bool true]) ∧ w' = W := fun W => by
     have h := quoted_any (l.drop q) W (by rw [List.length_drop]; omega)
     rw [hn] at h
     exact h
    have htk : (l.drop q).take (l.length - q) = l.drop q := List.take_of_length_le (by rw [List.length_drop]; omega)
    have HST := Lib.hid hst
    clear hst hn t34 t59 hc h1 hp
    go_wp2_with fail
    try simp only [htk]
    refine (hcall _).mono ?_
    rintro e w1 ⟨rfl,rfl⟩
    clear hcall htk
    go_wp2_with fail
    go_roundw
    case rel => exact ⟨q + n,f,k,out,rfl,by go_num,by omega,by omega,by omega,HST,hown,hB⟩
    case measure => simp [intOf]; omega
   ·have hb : ((c.toNat : Int) == 34) = false := by rw [t34]; simp [h1]
    by_cases h2 : c = 59
    ·have hb2 : ((c.toNat : Int) == 59) = true := by rw [t59,h2]; rfl
     have HST := Lib.hid (hp.out.cut hf hc h2)
     clear t34 t59 hc h1 h2 hp
     go_wp2_with (at_builtin; refine wpList_app rfl (.tmp 31) (.tmp 36) _ _ rfl TStr (hown.alloc (.cells #[sv ((l.drop f).take (q - f))] 9)) rfl (Src_rv (news := [sv ((l.drop f).take (q - f))]) Tryz.underlying65 rfl (Rv_new wr _ _ _ rfl) (by simp [Value.oneCell',sv]) (by omega)) rfl (by omega) (by simp; omega) ?_; intro v2 w2 hown2 hgr2 hat2; have hB2 := below_app (hB.alloc hs1 (.cells #[sv ((l.drop f).take (q - f))] 9)) (hown.alloc _) hgr2 (by simp; omega) (Nat.le_refl _))
     go_roundw
     case rel => exact ⟨q + 1,q + 1,k + 1,out ++ [(l.drop f).take (q - f)],by go_num,by go_num,by omega,by omega,by omega,HST,by rw [List.map_append]; exact hown2,hB2⟩
     case measure => simp [intOf]; omega
    ·have hb2 : ((c.toNat : Int) == 59) = false := by rw [t59]; simp [h2]
     have HST := Lib.hid (hp.out.more hf hc h1 h2)
     clear t34 t59 hc h1 h2 hp
     go_wp2_with fail
     go_roundw
     case rel => exact ⟨q + 1,f,k,out,rfl,by go_num,by omega,by omega,by omega,HST,hown,hB⟩
     case measure => simp [intOf]; omega
  ·have HL := Lib.hid (hp.out.last hf (by omega))
   clear hp
   go_wp2_with (at_builtin; refine wpList_app rfl (.tmp 40) (.tmp 44) _ _ rfl TStr (hown.alloc (.cells #[sv ((l.drop f).take (l.length - f))] 9)) rfl (Src_rv (news := [sv ((l.drop f).take (l.length - f))]) Tryz.underlying65 rfl (Rv_new wr _ _ _ rfl) (by simp [Value.oneCell',sv]) (by omega)) rfl (by omega) (by simp; omega) ?_; intro v2 w2 hown2 hgr2 hat2; have hB2 := below_app (hB.alloc hs1 (.cells #[sv ((l.drop f).take (l.length - f))] 9)) (hown.alloc _) hgr2 (by simp; omega) (Nat.le_refl _))
   go_ret
   refine ⟨⟨_,rfl,?_⟩,hB2⟩
   have hk2 : (out.map sv).length = k * 1 := hown.1
   rw [HL.out,List.map_append,List.length_append,show out.length = k by simpa using hk2]
   exact hown2
def QAt (v : List UInt8) (q : Nat) : Prop := qGo (v.drop q) = some (v.drop q,[])
theorem QAt.step {v : List UInt8} {q : Nat} {c : UInt8} (h : QAt v q) (hc : v[q]? = some c) : (c = 34 ∧ q + 1 = v.length) ∨
  (c = 92 ∧ c ≠ 34 ∧ q + 2 < v.length ∧ ∃ x,v[q + 1]? = some x ∧ QAt v (q + 2) ∧ unq (v.drop q) = x :: unq (v.drop (q + 2))) ∨
  (c ≠ 34 ∧ c ≠ 92 ∧ q + 1 < v.length ∧ QAt v (q + 1) ∧ unq (v.drop q) = c :: unq (v.drop (q + 1))) := by
 have hq := lt_of_get hc
 unfold QAt at *
 rw [drop_at hc] at h ⊢
 rw [qGo.eq_def] at h
 simp only at h
 by_cases h9 : c = 92
 ·rw [if_pos h9] at h
  right; left
  cases hd : v.drop (q + 1) with
  | nil => rw [hd] at h; cases h
  | cons x r =>
   rw [hd] at h
   simp only at h
   rw [Option.map_eq_some_iff] at h
   obtain ⟨⟨a,t⟩,h1,h2⟩ := h
   have hx : v[q + 1]? = some x := by
    have := congrArg (·[0]?) hd
    simpa [List.getElem?_drop] using this
   have hr : v.drop (q + 2) = r := by
    have := drop_at hx
    rw [hd] at this
    injection this with _ e
    exact e.symm
   rw [hr]
   simp only [Prod.mk.injEq,List.cons.injEq] at h2
   obtain ⟨⟨_,_,rfl⟩,rfl⟩ := h2
   have hpos := (qGo_len _ _ _ _ (Nat.le_refl _) h1).2
   have hl := congrArg List.length hr
   rw [List.length_drop] at hl
   refine ⟨h9,by rw [h9]; decide,by omega,x,hx,h1,?_⟩
   rw [unq.eq_def]
   simp only
   rw [if_neg (by rw [h9]; decide),if_pos h9]
 ·rw [if_neg h9] at h
  by_cases h3 : c = 34
  ·rw [if_pos h3] at h
   left
   refine ⟨h3,?_⟩
   simp only [Option.some.injEq,Prod.mk.injEq] at h
   have := congrArg List.length h.2
   rw [List.length_drop] at this
   simp at this
   omega
  ·rw [if_neg h3,Option.map_eq_some_iff] at h
   obtain ⟨⟨a,t⟩,h1,h2⟩ := h
   simp only [Prod.mk.injEq,List.cons.injEq] at h2
   obtain ⟨⟨_,rfl⟩,rfl⟩ := h2
   have hpos := (qGo_len _ _ _ _ (Nat.le_refl _) h1).2
   rw [List.length_drop] at hpos
   right; right
   refine ⟨h3,h9,by omega,h1,?_⟩
   rw [unq.eq_def]
   simp only
   rw [if_neg h3,if_neg h9]
theorem QAt.lt {v : List UInt8} {q : Nat} (h : QAt v q) : q < v.length := by
 have := (qGo_len _ _ _ _ (Nat.le_refl _) h).2
 rw [List.length_drop] at this
 omega
theorem unq_one : unq [34] = [] := by simp [unq]
theorem text_any (v : List UInt8) (w : World) (hq : QAt v 1) (hl : v.length ≤ 1000000) :
  Calls Tryz.prog 135 #[.string (bs v)] w fun e w' => e = .returned (.tuple #[.string (bs (unq (v.drop 1))),.bool (valB (unq (v.drop 1)))]) ∧ Below w.heap.size w w' := by
 obtain ⟨T,hT⟩ : ∃ T,unq (v.drop 1) = T := ⟨_,rfl⟩
 have HST := Lib.hid (show QAt v 1 ∧ [] ++ unq (v.drop 1) = T from ⟨hq,hT⟩)
 have h2 : 2 ≤ v.length := by have := hq.lt; omega
 rw [hT]
 clear hq hT
 go_enter Tryz.func135,Tryz.ntmps135
 go_wp2_with fail
 go_loopw [4,5] (fun x i wr => ∃ (q k : Nat) (out : List UInt8),i = .int .i64 q ∧ 1 ≤ q ∧ q < v.length ∧ k ≤ q ∧ Hid (QAt v q ∧ out ++ unq (v.drop q) = T) ∧ wr.ownsRow w.heap.size 5 1 x k (out.map bv) ∧ Below w.heap.size w wr) (fun _ i _ => v.length - (intOf i).toNat)
 case atStart => exact ⟨1,0,[],rfl,by omega,by omega,by omega,HST,World.ownsRow_nil _ _ _ _,Below.refl _ _⟩
 case round =>
  obtain ⟨q,k,out,rfl,hq1,hqK,hk,hp,hown,hB⟩ := hrel
  have hs1 := hB.size
  clear HST
  obtain ⟨c,hc⟩ : ∃ c,v[q]? = some c := ⟨_,List.getElem?_eq_getElem hqK⟩
  have hi := str_index (P := Tryz.prog) Tryz.underlying9 hc .i64
  have t92 : ((c.toNat : Int) == 92) = (c == 92) := u8_test c 92 rfl
  have hqa := hp.out.1
  have hto := hp.out.2
  rcases hqa.step hc with ⟨h34,hend⟩ | ⟨h92,_,hlt,x,hx,hqn,hun⟩ | ⟨h3,h9,hlt,hqn,hun⟩
  ·have hd : out = T := by
    rw [drop_at hc,List.drop_of_length_le (by omega),h34,unq_one,List.append_nil] at hto
    exact hto
   subst hd
   have hlt1 : ¬ (q : Int) < (v.length : Int) - 1 := by omega
   have hval := value_any out
   obtain ⟨A,ca,rfl,hca,hcm,hRb,hol⟩ := own_slice hown
   have hcs : ∀ W,Below wr.heap.size wr W → (convert 22 9 (.slice A k ca)).run Tryz.prog W = .ok (.string (bs out)) W := fun W hW => conv_str Tryz.underlying22 Tryz.underlying5 Tryz.underlying9 (hRb.below hW) hol
   have hcs0 := hcs wr (Below.refl _ _)
   have hB0 : Below wr.heap.size wr wr := Below.refl _ _
   have hol2 : out.length ≤ 1000000000 := by omega
   clear hqa hto hp h34 hend hc t92 hown hRb hol hi
   obtain ⟨vb,hvb⟩ : ∃ vb,valB out = vb := ⟨_,rfl⟩
   rw [hvb] at hval
   have HVB := Lib.hid hvb
   clear hvb
   go_wp2_with fail
   go_region_held3 (fun w' => Below wr.heap.size wr w' ∧ (convert 22 9 (.slice A k ca)).run Tryz.prog w' = .ok (.string (bs out)) w')
    (first | exact ⟨Below.refl _ _,hcs0⟩ | exact ⟨Below.drew (by assumption),hcs _ (Below.drew (by assumption))⟩ | exact ⟨by assumption,hcs _ (by assumption)⟩)
    (first
    | (go_at_call 120; refine (hval _ (by omega)).mono ?_; rintro e w2 ⟨rfl,hb2⟩; have hB2 : Below wr.heap.size wr w2 := by first | exact hb2 | exact (Below.drew hB0).trans hb2 | exact Below.trans (by assumption) (hb2.mono (Below.size (by assumption)))))
   all_goals
    rename_i hS
    have hB3 := hB.trans (hS.1.mono hs1)
    clear hS
    go_wp2_with fail
    go_ret2
    exact ⟨by rw [HVB.out]; rfl,hB3⟩
  ·have hb : ((c.toNat : Int) == 92) = true := by rw [t92,h92]; rfl
   have hlt1 : (q : Int) < (v.length : Int) - 1 := by omega
   have hj : ∀ W,(Instr.index 9 (.string (bs v)) (.int .i64 ((q : Int) + 1))).run Tryz.prog W = .ok (.int .u8 (x.toNat : Int)) W := by
    rw [show ((q : Int) + 1) = ((q + 1 : Nat) : Int) by omega]
    exact str_index (P := Tryz.prog) Tryz.underlying9 hx .i64
   have HST := Lib.hid (show QAt v (q + 2) ∧ (out ++ [x]) ++ unq (v.drop (q + 2)) = T from ⟨hqn,by rw [← hto,hun]; simp⟩)
   clear hqa hto hp h92 hc hx t92 hqn hun
   go_wp2_with (at_builtin; refine wpList_app rfl (.tmp 19) (.tmp 23) _ _ rfl TU8 (hown.alloc (.cells #[bv x] 5)) rfl (Src_rv (news := [bv x]) Tryz.underlying22 rfl (Rv_new wr _ _ _ rfl) (by simp [Value.oneCell',bv]) (by omega)) rfl (by omega) (by simp; omega) ?_; intro v2 w2 hown2 hgr2 hat2; have hB2 := below_app (hB.alloc hs1 (.cells #[bv x] 5)) (hown.alloc _) hgr2 (by simp; omega) (Nat.le_refl _))
   go_roundw
   case rel => exact ⟨q + 2,k + 1,out ++ [x],by go_num,by omega,by omega,by omega,HST,by rw [List.map_append]; exact hown2,hB2⟩
   case measure => simp [intOf]; omega
  ·have hb : ((c.toNat : Int) == 92) = false := by rw [t92]; simp [h9]
   have hlt1 : (q : Int) < (v.length : Int) - 1 := by omega
   have HST := Lib.hid (show QAt v (q + 1) ∧ (out ++ [c]) ++ unq (v.drop (q + 1)) = T from ⟨hqn,by rw [← hto,hun]; simp⟩)
   clear hqa hto hp h3 h9 hc t92 hqn hun
   go_wp2_with (at_builtin; refine wpList_app rfl (.tmp 19) (.tmp 23) _ _ rfl TU8 (hown.alloc (.cells #[bv c] 5)) rfl (Src_rv (news := [bv c]) Tryz.underlying22 rfl (Rv_new wr _ _ _ rfl) (by simp [Value.oneCell',bv]) (by omega)) rfl (by omega) (by simp; omega) ?_; intro v2 w2 hown2 hgr2 hat2; have hB2 := below_app (hB.alloc hs1 (.cells #[bv c] 5)) (hown.alloc _) hgr2 (by simp; omega) (Nat.le_refl _))
   go_roundw
   case rel => exact ⟨q + 1,k + 1,out ++ [c],by go_num,by omega,by omega,by omega,HST,by rw [List.map_append]; exact hown2,hB2⟩
   case measure => simp [intOf]; omega
theorem kindly_any (l : List UInt8) (w : World) (hw : Mx w) (hl : l.length ≤ 1000000) :
  Calls Tryz.prog 117 #[.string (bs l)] w fun e w' => e = .returned (.tuple #[.string (bs (l.map small)),.bool (kindB l)]) ∧ Below w.heap.size w w' := by
 have hcut := cut_any l 47 w hw (by omega)
 unfold cutV at hcut
 have hlow := fun W => lower_any l W (by omega)
 have hk : kindB l = match cutAt 47 l with | none => false | some (a,b) => atomB a && atomB b := rfl
 generalize l.map small = lm at *
 cases hc : cutAt 47 l with
 | none =>
  rw [hc] at hcut hk
  have HK := Lib.hid (show kindB l = false from hk)
  clear hc hk
  go_enter Tryz.func117,Tryz.ntmps117
  go_wp2_with fail
  refine hcut.mono ?_
  rintro e w1 ⟨rfl,hb1⟩
  go_wp2_with fail
  refine (hlow _).mono ?_
  rintro e w2 ⟨rfl,hb2⟩
  go_wp2_with fail
  go_ret2
  exact ⟨by rw [HK.out]; rfl,hb1.trans (hb2.mono hb1.size)⟩
 | some xy =>
  obtain ⟨x,y⟩ := xy
  have hxy := cutAt_len hc
  rw [hc] at hcut hk
  have HK := Lib.hid (show kindB l = (atomB x && atomB y) from hk)
  have hx := fun W => atom_any x W (by omega)
  have hy := fun W => atom_any y W (by omega)
  clear hc hk hxy
  go_enter Tryz.func117,Tryz.ntmps117
  go_wp2_with fail
  refine hcut.mono ?_
  rintro e w1 ⟨rfl,hb1⟩
  go_wp2_with fail
  refine (hlow _).mono ?_
  rintro e w2 ⟨rfl,hb2⟩
  have hB2 := hb1.trans (hb2.mono hb1.size)
  rcases Bool.eq_false_or_eq_true (atomB x) with h1 | h1
  ·rw [h1] at hx HK
   go_wp2_with fail
   refine (hx _).mono ?_
   rintro e w3 ⟨rfl,hb3⟩
   have hB3 := hB2.trans (hb3.mono hB2.size)
   go_wp2_with fail
   refine (hy _).mono ?_
   rintro e w4 ⟨rfl,hb4⟩
   have hB4 := hB3.trans (hb4.mono hB3.size)
   go_wp2_with fail
   go_ret2
   exact ⟨by rw [HK.out]; rfl,hB4⟩
  ·rw [h1] at hx HK
   go_wp2_with fail
   refine (hx _).mono ?_
   rintro e w3 ⟨rfl,hb3⟩
   have hB3 := hB2.trans (hb3.mono hB2.size)
   go_wp2_with fail
   go_ret2
   exact ⟨by rw [HK.out]; rfl,hB3⟩
end Tk
end
end Go.Proofs.YtkllecicddfjpaaGreatDoor
