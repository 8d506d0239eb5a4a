/- The walk of the law, part 42. -/
import Derived.Test.YtkllecicddfjpaaGreatDoorJ41
import Derived.Deep.RegionHeldLaw
import Derived.Test.YtkllecicddfjpaaGreatDoorJ36
set_option maxRecDepth 100000
set_option maxHeartbeats 16000000
set_option linter.unusedVariables false
set_option linter.unusedSimpArgs false
namespace Go.Proofs.YtkllecicddfjpaaGreatDoor
section
namespace Tk
open Go.RowKit
theorem trimB_left {c : UInt8} {r : List UInt8} (h : blk c = true) : trimB (c :: r) = trimB r := by
 rw [trimB_def,trimB_def,List.reverse_cons,List.dropWhile_append]
 by_cases he : (r.reverse.dropWhile blk).isEmpty = true
 ·rw [if_pos he]
  have : r.reverse.dropWhile blk = [] := by simpa using he
  rw [this]
  simp [h]
 ·rw [if_neg he,List.reverse_append]
  simp [h]
theorem trimB_right {c : UInt8} {v : List UInt8} (h : blk c = true) : trimB (v ++ [c]) = trimB v := by
 rw [trimB_def,trimB_def,List.reverse_append]
 simp [h]
theorem trimB_self {u : List UInt8} (h1 : ∀ x,u.head? = some x → blk x = false) (h2 : ∀ x,u.getLast? = some x → blk x = false) : trimB u = u := by
 rw [trimB_def]
 have e1 : u.reverse.dropWhile blk = u.reverse := by
  cases hr : u.reverse with
  | nil => rfl
  | cons x r =>
    have : u.getLast? = some x := by rw [List.getLast?_eq_head?_reverse,hr]; rfl
    rw [List.dropWhile_cons_of_neg (by rw [h2 x this]; simp)]
 rw [e1,List.reverse_reverse]
 cases u with
 | nil => rfl
 | cons x r => rw [List.dropWhile_cons_of_neg (by rw [h1 x rfl]; simp)]
theorem trimB_nil : trimB [] = [] := rfl
theorem blk_tests (c : UInt8) : (blk c = true ∧ ((c.toNat : Int) == 32) = true) ∨ (blk c = true ∧ ((c.toNat : Int) == 32) = false ∧ ((c.toNat : Int) == 9) = true) ∨ (blk c = false ∧ ((c.toNat : Int) == 32) = false ∧ ((c.toNat : Int) == 9) = false) := by
 rcases blk_cases c with ⟨h,k | ⟨k,k2⟩⟩ | ⟨h,k,k2⟩
 ·exact .inl ⟨h,by simpa using k⟩
 ·exact .inr (.inl ⟨h,by simpa using k,by simpa using k2⟩)
 ·exact .inr (.inr ⟨h,by simpa using k,by simpa using k2⟩)
theorem rtrim_any (l : List UInt8) (w : World) (hl : l.length ≤ 1000000000) :
 Calls Tryz.prog 57 #[.string (bs l)] w fun e w' => e = .returned (.string (bs (trimB l))) ∧ w' = w := by
 go_enter Tryz.func57,Tryz.ntmps57
 go_wp2_with fail
 go_loopw [0] (fun s0 wr => ∃ u : List UInt8,s0 = .string (bs u) ∧ u.length ≤ l.length ∧ Hid (trimB l = trimB u) ∧ wr = w) (fun s0 _ => strLen s0)
 case atStart => exact ⟨l,rfl,by omega,Lib.hid rfl,rfl⟩
 case round =>
  obtain ⟨u,rfl,hul,he,rfl⟩ := hrel
  have leave : ∀ u : List UInt8,(∀ x,u.head? = some x → blk x = false) → True := fun _ _ => trivial
  cases u with
  | nil =>
    have HE := Lib.hid (he.out.trans trimB_nil)
    clear he
    go_wp2_with fail
    go_loopw [0] (fun s0 wr2 => s0 = .string (bs []) ∧ wr2 = wr) (fun s0 _ => strLen s0)
    case atStart => exact ⟨rfl,rfl⟩
    case round =>
     obtain ⟨rfl,rfl⟩ := hrel
     go_wp2_with fail
     go_ret
     exact ⟨by rw [HE.out]; rfl,by first | rfl | trivial⟩
  | cons c r =>
    have hi0 : ∀ W,(Instr.index 9 (.string (bs (c :: r))) (.int .i64 0)).run Tryz.prog W = .ok (.int .u8 (c.toNat : Int)) W := fun W => str_index (P := Tryz.prog) Tryz.underlying9 (k := 0) (x := c) rfl .i64 W
    simp only [List.length_cons] at hul
    rcases blk_tests c with ⟨h,k⟩ | ⟨h,k,k2⟩ | ⟨h,k,k2⟩
    ·have HE := Lib.hid (he.out.trans (trimB_left h))
     clear he h
     go_wp2_with fail
     go_roundw
     case rel => exact ⟨r,by simp,by omega,HE,by first | rfl | trivial⟩
     case measure => simp [strLen]
    ·have HE := Lib.hid (he.out.trans (trimB_left h))
     clear he h
     go_wp2_with fail
     go_roundw
     case rel => exact ⟨r,by simp,by omega,HE,by first | rfl | trivial⟩
     case measure => simp [strLen]
    ·have HH := Lib.hid (show ∀ x,(c :: r).head? = some x → blk x = false from fun x hx => by cases hx; exact h)
     have hul2 : (c :: r).length ≤ l.length := by simpa using hul
     obtain ⟨u,hu⟩ : ∃ u,c :: r = u := ⟨_,rfl⟩
     rw [hu] at HH he hi0 hul2 ⊢
     have hun : 0 < u.length := by rw [← hu]; simp
     clear hu h hul
     go_wp2_with fail
     go_loopw [0] (fun s0 wr2 => ∃ v : List UInt8,s0 = .string (bs v) ∧ v.length ≤ l.length ∧ Hid (trimB l = trimB v) ∧ Hid (∀ x,v.head? = some x → blk x = false) ∧ wr2 = wr) (fun s0 _ => strLen s0)
     case atStart => exact ⟨u,rfl,hul2,he,HH,rfl⟩
     case round =>
      clear he HH hi0 hul2 hun
      obtain ⟨v,rfl,hvl,he,hh,rfl⟩ := hrel
      rcases List.eq_nil_or_concat v with rfl | ⟨v',c',rfl⟩
      ·have HE := Lib.hid (he.out.trans trimB_nil)
       clear he
       go_wp2_with fail
       go_ret
       exact ⟨by rw [HE.out]; rfl,by first | rfl | trivial⟩
      ·rw [List.concat_eq_append] at hvl he hh ⊢
       simp only [List.length_append,List.length_cons,List.length_nil] at hvl
       have hj : ∀ W,(Instr.index 9 (.string (bs (v' ++ [c']))) (.int .i64 (v'.length : Int))).run Tryz.prog W = .ok (.int .u8 (c'.toNat : Int)) W := fun W => str_index (P := Tryz.prog) Tryz.underlying9 (k := v'.length) (x := c') (by simp) .i64 W
       have hj2 : ∀ W,(Instr.index 9 (.string (bs (v' ++ [c']))) (.int .i64 ((v'.length : Int) + 1 - 1))).run Tryz.prog W = .ok (.int .u8 (c'.toNat : Int)) W := fun W => by
        rw [Int.add_sub_cancel]
        exact hj W
       have f5 : (0 : Int) ≤ (v'.length : Int) + 1 - 1 := by omega
       have f6 : (v'.length : Int) + 1 - 1 ≤ (v'.length : Int) + 1 := by omega
       rcases blk_tests c' with ⟨h,k⟩ | ⟨h,k,k2⟩ | ⟨h,k,k2⟩
       ·have HE := Lib.hid (he.out.trans (trimB_right h))
        have HH := Lib.hid (show ∀ x,v'.head? = some x → blk x = false from fun x hx => hh.out x (by cases v' with | nil => cases hx | cons y t => exact hx))
        clear he h hh
        go_wp2_with fail
        go_roundw
        case rel => exact ⟨v',by simp,by omega,HE,HH,by first | rfl | trivial⟩
        case measure => simp [strLen]
       ·have HE := Lib.hid (he.out.trans (trimB_right h))
        have HH := Lib.hid (show ∀ x,v'.head? = some x → blk x = false from fun x hx => hh.out x (by cases v' with | nil => cases hx | cons y t => exact hx))
        clear he h hh
        go_wp2_with fail
        go_roundw
        case rel => exact ⟨v',by simp,by omega,HE,HH,by first | rfl | trivial⟩
        case measure => simp [strLen]
       ·have HE := Lib.hid (he.out.trans (trimB_self hh.out (fun x hx => by simp at hx; rw [← hx]; exact h)))
        clear he h hh
        go_wp2_with fail
        go_ret
        exact ⟨by rw [HE.out]; rfl,by first | rfl | trivial⟩
theorem rdotted_any (l : List UInt8) (w : World) (hl : l.length ≤ 1000000000) :
 Calls Tryz.prog 58 #[.string (bs l)] w fun e w' => e = .returned (.bool (dotP l)) ∧ w' = w := by
 have H0 := Lib.hid (show dotP l = dotGo 46 (l.drop 0) by rw [List.drop_zero,dot_eq])
 go_enter Tryz.func58,Tryz.ntmps58
 go_wp2_with fail
 go_loopw [3,4] (fun s3 i wr => ∃ (q : Nat) (last : UInt8),i = .int .i64 q ∧ s3 = .int .u8 (last.toNat : Int) ∧ q ≤ l.length ∧ Hid (dotP l = dotGo last (l.drop q)) ∧ wr = w) (fun _ i _ => l.length - (intOf i).toNat)
 case atStart => exact ⟨0,46,rfl,rfl,by omega,H0,rfl⟩
 case round =>
  clear H0
  obtain ⟨q,last,rfl,rfl,hq,he,rfl⟩ := hrel
  have l46 : ((last.toNat : Int) == 46) = (last == 46) := u8_test last 46 rfl
  by_cases hlt : q < l.length
  ·obtain ⟨c,hc⟩ : ∃ c,l[q]? = some c := ⟨_,List.getElem?_eq_getElem hlt⟩
   have hi := str_index (P := Tryz.prog) Tryz.underlying9 hc .i64
   have t46 : ((c.toNat : Int) == 46) = (c == 46) := u8_test c 46 rfl
   have n46 : ((c.toNat : Int) != 46) = (c != 46) := by rw [bne,t46]; rfl
   have hstep : dotGo last (l.drop q) = if c = 46 then (if last = 46 then false else dotGo 46 (l.drop (q + 1))) else if atc c then dotGo c (l.drop (q + 1)) else false := by
    rw [drop_at hc,dotGo]
   have hst := he.out.trans hstep
   by_cases h : c = 46
   ·rw [if_pos h] at hst
    have hb : ((c.toNat : Int) == 46) = true := by rw [t46,h]; rfl
    have hb2 : ((c.toNat : Int) != 46) = false := by rw [n46,h]; rfl
    by_cases h2 : last = 46
    ·rw [if_pos h2] at hst
     have HST := Lib.hid hst
     have hb3 : ((last.toNat : Int) == 46) = true := by rw [l46,h2]; rfl
     clear l46 t46 n46 hstep hst he h h2 hc
     go_wp2_with fail
     go_ret
     exact ⟨ret_bool HST.out.symm,by first | rfl | trivial⟩
    ·rw [if_neg h2] at hst
     rw [← h] at hst
     have HST := Lib.hid hst
     have hb3 : ((last.toNat : Int) == 46) = false := by rw [l46]; simp [h2]
     clear l46 t46 n46 hstep hst he h h2 hc
     go_wp2_with fail
     go_roundw
     case rel => exact ⟨q + 1,c,by go_num,rfl,by omega,HST,by first | rfl | trivial⟩
     case measure => simp [intOf]; omega
   ·rw [if_neg h] at hst
    have hb : ((c.toNat : Int) == 46) = false := by rw [t46]; simp [h]
    have hb2 : ((c.toNat : Int) != 46) = true := by rw [n46]; simp [h]
    have hcall := rplain_any c
    rcases Bool.eq_false_or_eq_true (atc c) with h2 | h2
    ·rw [h2] at hst hcall
     rw [if_pos rfl] at hst
     have HST := Lib.hid hst
     clear l46 t46 n46 hstep hst he h h2 hc
     go_wp2_with fail
     refine (hcall _).mono ?_
     rintro e w' ⟨rfl,rfl⟩
     go_wp2_with fail
     go_roundw
     case rel => exact ⟨q + 1,c,by go_num,rfl,by omega,HST,by first | rfl | trivial⟩
     case measure => simp [intOf]; omega
    ·rw [h2] at hst hcall
     have HST := Lib.hid (show dotP l = false from hst)
     clear l46 t46 n46 hstep hst he h h2 hc
     go_wp2_with fail
     refine (hcall _).mono ?_
     rintro e w' ⟨rfl,rfl⟩
     go_wp2_with fail
     go_ret
     exact ⟨ret_bool HST.out.symm,by first | rfl | trivial⟩
  ·have hst : dotP l = (last != 46) := by rw [he.out,List.drop_of_length_le (by omega),dotGo]
   have HST := Lib.hid hst
   clear hst he
   go_wp2_with fail
   go_ret
   exact ⟨ret_bool (by rw [HST.out,bne,bne,l46]),by first | rfl | trivial⟩
theorem rlower_any (l : List UInt8) (w : World) (hl : l.length ≤ 1000000) :
 Calls Tryz.prog 59 #[.string (bs l)] w fun e w' => e = .returned (.string (bs (l.map small))) ∧ Below w.heap.size w w' := by
 have hpu : ∀ W,Sem.run Tryz.prog (pure #[] : Sem (Array Value)) W = .ok #[] W := fun _ => rfl
 have hst : ∀ a W,Sem.run Tryz.prog (storeCells a []) W = .ok () W := fun _ _ => rfl
 have hB0 : Below w.heap.size w (w.alloc (.cells #[] 5)) := (Below.refl _ _).alloc (Nat.le_refl _) _
 have hown0 := World.ownsRow_made (base := w.heap.size) (e := 5) (size := 1) w #[] 0 (Nat.le_refl _) (by unfold maxLen; omega) rfl
 go_enter Tryz.func59,Tryz.ntmps59
 go_wp2_with fail
 clear hpu hst
 go_loopw [3,4] (fun v i wr => ∃ q : Nat,i = .int .i64 q ∧ q ≤ l.length ∧ wr.ownsRow w.heap.size 5 1 v q (((l.take q).map small).map bv) ∧ Below w.heap.size w wr) (fun _ i _ => l.length - (intOf i).toNat)
 case atStart => exact ⟨0,rfl,by omega,hown0,hB0⟩
 case round =>
  clear hown0 hB0
  obtain ⟨q,rfl,hq,hown,hB⟩ := hrel
  have hs1 := hB.size
  by_cases hlt : q < l.length
  ·obtain ⟨c,hc⟩ : ∃ c,l[q]? = some c := ⟨_,List.getElem?_eq_getElem hlt⟩
   have hi := str_index (P := Tryz.prog) Tryz.underlying9 hc .i64
   have hst : ((l.take (q + 1)).map small).map bv = ((l.take q).map small).map bv ++ [bv (small c)] := by
    rw [take_succ_of hc]
    simp
   by_cases h : 65 ≤ c.toNat ∧ c.toNat ≤ 90
   ·obtain ⟨h1,h2⟩ := h
    have k1 : (65 : Int) ≤ (c.toNat : Int) := by omega
    have k2 : (c.toNat : Int) ≤ 90 := by omega
    have hbv : bv (small c) = .int .u8 ((c.toNat : Int) + 32) := by unfold bv; rw [small_nat,if_pos ⟨h1,h2⟩]; congr 1
    rw [hbv] at hst
    have HST := Lib.hid hst
    clear hst hbv h1 h2 hc
    go_wp2_with (at_builtin; refine wpList_app rfl (.tmp 24) (.tmp 26) _ _ rfl TU8 (hown.alloc (.cells #[.int .u8 ((c.toNat : Int) + 32)] 5)) rfl (Src_rv (news := [.int .u8 ((c.toNat : Int) + 32)]) Tryz.underlying22 rfl (Rv_new wr _ _ _ rfl) (by simp [Value.oneCell',bv]) (by omega)) rfl (by omega) (by simp; omega) ?_; intro v1 y1 own1 gr1 at1; have bb1 := below_app (hB.alloc hs1 (.cells #[.int .u8 ((c.toNat : Int) + 32)] 5)) (hown.alloc _) gr1 (by simp; omega) (Nat.le_refl _); have bb1s := bb1.size)
    go_roundw
    case rel => exact ⟨q + 1,by go_num,by omega,by rw [HST.out]; exact own1,bb1⟩
    case measure => simp [intOf]; omega
   ·have hbv : small c = c := by unfold small; rw [if_neg h]
    rw [hbv] at hst
    have HST := Lib.hid hst
    have k : ¬ (65 : Int) ≤ (c.toNat : Int) ∨ ((65 : Int) ≤ (c.toNat : Int) ∧ ¬ (c.toNat : Int) ≤ 90) := by omega
    clear hst hbv h hc
    rcases k with k1 | ⟨k1,k2⟩
    all_goals
     go_wp2_with (at_builtin; refine wpList_app rfl (.tmp 24) (.tmp 26) _ _ rfl TU8 (hown.alloc (.cells #[bv c] 5)) rfl (Src_rv (news := [bv c]) Tryz.underlying22 rfl (Rv_new wr _ _ _ rfl) (by simp [Value.oneCell',bv]) (by omega)) rfl (by omega) (by simp; omega) ?_; intro v1 y1 own1 gr1 at1; have bb1 := below_app (hB.alloc hs1 (.cells #[bv c] 5)) (hown.alloc _) gr1 (by simp; omega) (Nat.le_refl _); have bb1s := bb1.size)
     go_roundw
     case rel => exact ⟨q + 1,by go_num,by omega,by rw [HST.out]; exact own1,bb1⟩
     case measure => simp [intOf]; omega
  ·obtain rfl : q = l.length := by omega
   rw [List.take_length] at hown
   obtain ⟨A,ca,rfl,hca,hcm,hRb,hol⟩ := own_slice hown
   have hcs := conv_str (P := Tryz.prog) (src := 22) (dst := 9) (c := ca) (n := l.length) Tryz.underlying22 Tryz.underlying5 Tryz.underlying9 hRb hol
   clear hown hRb hol
   go_wp2_with fail
   go_ret
   exact ⟨rfl,hB⟩
end Tk
end
section
namespace Tk
open Go.RowKit
theorem lastCut_at {inn : List UInt8} {p : Nat} (h : (inn ++ [62])[p]? = some 60) (hn : (60 : UInt8) ∉ (inn ++ [62]).drop (p + 1)) : p < inn.length ∧ lastCut 60 inn = some (inn.drop (p + 1)) := by
 have hp : p < inn.length := by
  rcases Nat.lt_or_ge p inn.length with h1 | h1
  ·exact h1
  ·rw [List.getElem?_append_right h1] at h
   have := lt_of_get h
   simp at this
   rw [this] at h
   simp at h
 refine ⟨hp,?_⟩
 rw [List.getElem?_append_left hp] at h
 have e : inn = inn.take p ++ 60 :: inn.drop (p + 1) := by
  rw [← drop_at h,List.take_append_drop]
 conv => lhs; rw [e]
 apply lastCut_some
 intro hm
 apply hn
 rw [List.drop_append_of_le_length (by omega)]
 exact List.mem_append_left _ hm
theorem cut_found {s : List UInt8} {q : Nat} {c : UInt8} (h : s[q]? = some c) (hn : c ∉ s.take q) : cutAt c s = some (s.take q,s.drop (q + 1)) := by
 have e : s = s.take q ++ c :: s.drop (q + 1) := by rw [← drop_at h,List.take_append_drop]
 conv => lhs; rw [e]
 exact cutAt_app hn
theorem not_in_succ {s : List UInt8} {q : Nat} {c x : UInt8} (h : s[q]? = some x) (hx : x ≠ c) (hn : c ∉ s.take q) : c ∉ s.take (q + 1) := by
 rw [take_succ_of h]
 simp [hn,Ne.symm hx]
theorem not_in_pred {s : List UInt8} {q : Nat} {c x : UInt8} (h : s[q]? = some x) (hx : x ≠ c) (hn : c ∉ s.drop (q + 1)) : c ∉ s.drop q := by
 rw [drop_at h]
 simp [hn,Ne.symm hx]
theorem raddr_any (l : List UInt8) (w : World) (hl : l.length ≤ 1000000) :
 Calls Tryz.prog 29 #[.string (bs l)] w fun e w' => BareOut (addrP l) e ∧ Below w.heap.size w w' := by
 have hb := rbare_any l w hl
 cases hbp : bareP l with
 | error k =>
   have hk : ((k : Int) != 0) = true := by have := bareP_err _ _ _ (Nat.le_refl _) hbp; rw [bne_iff_ne]; omega
   have hr : addrP l = .error k := by unfold addrP; rw [hbp]
   have HR := Lib.hid hr
   rw [hbp] at hb
   have hb' : Calls Tryz.prog 56 #[.string (bs l)] w fun e w' => e = .returned (.tuple #[.string (bs []),.int .i64 (k : Int)]) ∧ Below w.heap.size w w' := hb
   clear hb hbp hr
   go_enter Tryz.func29,Tryz.ntmps29
   go_wp2_with fail
   refine hb'.mono ?_
   rintro e w1 ⟨rfl,hb1⟩
   go_wp2_with fail
   go_ret2
   exact ⟨bareOut_err HR.out rfl,hb1⟩
 | ok b =>
   have hbl := bareP_len _ _ _ (Nat.le_refl _) hbp
   have hr : addrP l = match addrIn b with | none => .error 3 | some t => addrAt t := by unfold addrP; rw [hbp]; rfl
   rw [hbp] at hb
   have hb' : Calls Tryz.prog 56 #[.string (bs l)] w fun e w' => e = .returned (.tuple #[.string (bs b),.int .i64 0]) ∧ Below w.heap.size w w' := hb
   have htl := trimB_len b
   obtain ⟨t,ht⟩ : ∃ t,trimB b = t := ⟨_,rfl⟩
   have htrim := fun W => rtrim_any b W (by omega)
   unfold addrIn at hr
   rw [ht] at hr htl htrim
   have HR := Lib.hid hr
   have htl2 : t.length ≤ 1000000 := by omega
   clear hb hbp ht hr htl hbl
   go_enter Tryz.func29,Tryz.ntmps29
   go_wp2_with fail
   refine hb'.mono ?_
   rintro e w1 ⟨rfl,hB⟩
   go_wp2_with fail
   refine (htrim _).mono ?_
   rintro e w2 ⟨rfl,rfl⟩
   clear htrim hb'
   go_upto_region 5 with fail
   go_cut [27] (fun s27 wx => ∃ g : Bool,s27 = .bool g ∧ Hid (g = decide (t.getLast? = some 62)) ∧ w2 = wx)
   case first => as_aux_lemma =>
    clear HR hB
    have hcc : t = [] ∨ ∃ v c,t = v ++ [c] := by
     rcases List.eq_nil_or_concat t with h | ⟨v,c,h⟩
     ·exact .inl h
     ·exact .inr ⟨v,c,by rw [h,List.concat_eq_append]⟩
    rcases hcc with rfl | ⟨v,c,rfl⟩
    ·go_wp2_with fail
     go_meet
     exact ⟨_,rfl,Lib.hid (by simp),rfl⟩
    ·simp only [List.length_append,List.length_cons,List.length_nil] at htl2
     have hj : ∀ W,(Instr.index 9 (.string (bs (v ++ [c]))) (.int .i64 (v.length : Int))).run Tryz.prog W = .ok (.int .u8 (c.toNat : Int)) W := fun W => str_index (P := Tryz.prog) Tryz.underlying9 (k := v.length) (x := c) (by simp) .i64 W
     have hg : decide ((v ++ [c]).getLast? = some 62) = (c == 62) := by
      rw [List.getLast?_concat,Bool.eq_iff_iff]
      simp
     have t62 : ((c.toNat : Int) == 62) = (c == 62) := u8_test c 62 rfl
     have HG := Lib.hid hg
     have HT := Lib.hid t62
     clear hg t62
     go_wp2_with fail
     go_meet
     exact ⟨_,rfl,Lib.hid (by rw [HG.out]; exact HT.out),rfl⟩
   case rest =>
    obtain ⟨g,rfl,hg,rfl⟩ := hcut
    go_upto_if 27 with fail
    go_cut [0] (fun s0 wx => ∃ s : List UInt8,s0 = .string (bs s) ∧ s.length ≤ 1000000 ∧ Hid (addrP l = addrAt s) ∧ w2 = wx)
    case first => as_aux_lemma =>
     cases g with
     | false =>
       have hn : ¬ t.getLast? = some 62 := by
        have := hg.out
        simpa using this.symm
       have HR2 := Lib.hid (show addrP l = addrAt t by rw [HR.out,if_neg hn])
       clear hn hg HR
       go_wp2_with fail
       go_meet
       exact ⟨t,rfl,htl2,HR2,rfl⟩
     | true =>
       have hy : t.getLast? = some 62 := by
        have := hg.out
        simpa using this.symm
       obtain ⟨inn,rfl⟩ := List.getLast?_eq_some_iff.1 hy
       have hr2 := HR.out
       rw [if_pos hy,List.dropLast_concat] at hr2
       have HR2 := Lib.hid hr2
       simp only [List.length_append,List.length_cons,List.length_nil] at htl2
       clear hg hy HR hr2
       go_wp2_with fail
       go_loopw [5] (fun i wr => (i = .int .i64 (-1) ∧ Hid ((60 : UInt8) ∉ inn ++ [62]) ∧ wr = w2 ∨ ∃ p : Nat,i = .int .i64 p ∧ p < inn.length + 1 ∧ Hid ((60 : UInt8) ∉ (inn ++ [62]).drop (p + 1)) ∧ wr = w2)) (fun i _ => ((intOf i) + 1).toNat)
       case atStart => exact .inr ⟨inn.length,by go_num,by omega,Lib.hid (by rw [List.drop_of_length_le (by simp)]; simp),rfl⟩
       case round =>
        rcases hrel with ⟨rfl,hn,rfl⟩ | ⟨p,rfl,hp,hn,rfl⟩
        ·have hno : (60 : UInt8) ∉ inn := fun hm => hn.out (List.mem_append_left _ hm)
         have HR3 := Lib.hid (show addrP l = .error 3 by rw [HR2.out,lastCut_none hno]; rfl)
         clear hno HR2 hn
         go_wp2_with fail
         go_ret2
         exact ⟨bareOut_err HR3.out rfl,hB⟩
        ·obtain ⟨c,hc⟩ : ∃ c,(inn ++ [62])[p]? = some c := ⟨_,List.getElem?_eq_getElem (by simp; omega)⟩
         have hi := str_index (P := Tryz.prog) Tryz.underlying9 hc .i64
         have n60 : ((c.toNat : Int) != 60) = (c != 60) := u8_bne c 60
         by_cases h : c = 60
         ·have hb1 : ((c.toNat : Int) != 60) = false := by rw [n60,h]; rfl
          rw [h] at hc
          obtain ⟨hpl,hlc⟩ := lastCut_at hc hn.out
          have HR3 := Lib.hid (show addrP l = addrAt (trimB (inn.drop (p + 1))) by rw [HR2.out,hlc]; rfl)
          have htr := fun W => rtrim_any (inn.drop (p + 1)) W (by rw [List.length_drop]; omega)
          have htl3 := trimB_len (inn.drop (p + 1))
          rw [List.length_drop] at htl3
          have htk : ((inn ++ [62]).drop (p + 1)).take (inn.length - (p + 1)) = inn.drop (p + 1) := by
           rw [List.drop_append_of_le_length (by omega),List.take_left' (by rw [List.length_drop])]
          have hn1 : ((p : Int) + 1).toNat = p + 1 := by omega
          have hn2 : ((inn.length : Int) + 1 - 1).toNat = inn.length := by omega
          have f0 : (0 : Int) ≤ (p : Int) + 1 := by omega
          have f1 : (p : Int) + 1 ≤ (inn.length : Int) := by omega
          have f2 : (inn.length : Int) ≤ (inn.length : Int) + 1 := by omega
          have f3 : IntKind.i64.wrap ((p : Int) + 1) = (p : Int) + 1 := by rw [IntKind.wrap_i64]; omega
          generalize inn.drop (p + 1) = dd at *
          generalize trimB dd = td at *
          clear hlc HR2 hn n60 h
          go_wp2_with fail
          try simp only [hn1,hn2,htk]
          refine (htr _).mono ?_
          rintro e w4 ⟨rfl,rfl⟩
          go_wp2_with fail
          go_meet
          exact ⟨td,rfl,by omega,HR3,rfl⟩
         ·have hb1 : ((c.toNat : Int) != 60) = true := by rw [n60]; simp [h]
          have hnn := not_in_pred hc h hn.out
          cases p with
          | zero =>
            rw [List.drop_zero] at hnn
            have HN := Lib.hid hnn
            have hi0 : ∀ W,(Instr.index 9 (.string (bs (inn ++ [62]))) (.int .i64 0)).run Tryz.prog W = .ok (.int .u8 (c.toNat : Int)) W := hi
            clear hnn hn h n60 hc
            go_wp2_with fail
            go_roundw
            case rel => exact .inl ⟨by go_num,HN,by first | rfl | trivial⟩
            case measure => simp [intOf]
          | succ p =>
            have HN := Lib.hid hnn
            have hi2 : ∀ W,(Instr.index 9 (.string (bs (inn ++ [62]))) (.int .i64 ((p : Int) + 1))).run Tryz.prog W = .ok (.int .u8 (c.toNat : Int)) W := by
             rw [show ((p : Int) + 1) = ((p + 1 : Nat) : Int) by omega]
             exact hi
            clear hnn hn h n60 hc
            go_wp2_with fail
            go_roundw
            case rel => exact .inr ⟨p,by go_num,by omega,HN,by first | rfl | trivial⟩
            case measure => simp [intOf]; omega
    case rest =>
     obtain ⟨s,rfl,hsl,HRS,rfl⟩ := hcut
     clear HR hg
     go_wp2_with fail
     go_loopw [6] (fun i wr => ∃ q : Nat,i = .int .i64 q ∧ q ≤ s.length ∧ Hid ((64 : UInt8) ∉ s.take q) ∧ wr = w2) (fun i _ => s.length - (intOf i).toNat)
     case atStart => exact ⟨0,rfl,by omega,Lib.hid (by simp),rfl⟩
     case round =>
      obtain ⟨q,rfl,hq,hn,rfl⟩ := hrel
      by_cases hlt : q < s.length
      ·obtain ⟨c,hc⟩ : ∃ c,s[q]? = some c := ⟨_,List.getElem?_eq_getElem hlt⟩
       have hi := str_index (P := Tryz.prog) Tryz.underlying9 hc .i64
       have n64 : ((c.toNat : Int) != 64) = (c != 64) := u8_bne c 64
       by_cases h : c = 64
       ·have hb1 : ((c.toNat : Int) != 64) = false := by rw [n64,h]; rfl
        rw [h] at hc
        have hcut := cut_found hc hn.out
        have hqe : ((q : Int) == (s.length : Int)) = false := by rw [beq_eq_false_iff_ne]; omega
        have hr := HRS.out
        unfold addrAt at hr
        rw [hcut] at hr
        have HR := Lib.hid (show addrP l = if dotP (s.take q) && dotP (s.drop (q + 1)) then .ok (s.take q ++ 64 :: (s.drop (q + 1)).map small) else .error 3 from hr)
        have htk1 : s.take (q + 1) = s.take q ++ [64] := take_succ_of hc
        have htk2 : (s.drop (q + 1)).take (s.length - (q + 1)) = s.drop (q + 1) := List.take_of_length_le (by rw [List.length_drop]; omega)
        have hxl : (s.take q).length ≤ 1000000 := by rw [List.length_take]; omega
        have hyl : (s.drop (q + 1)).length ≤ 1000000 := by rw [List.length_drop]; omega
        have hn1 : ((q : Int) + 1).toNat = q + 1 := by omega
        have f0 : (0 : Int) ≤ (q : Int) + 1 := by omega
        have f1 : (q : Int) + 1 ≤ (s.length : Int) := by omega
        have f4 : (q : Int) ≤ (s.length : Int) := by omega
        have f5 : (0 : Int) ≤ (q : Int) := by omega
        have f3 : IntKind.i64.wrap ((q : Int) + 1) = (q : Int) + 1 := by rw [IntKind.wrap_i64]; omega
        have hdx := fun W => rdotted_any (s.take q) W (by omega)
        have hdy := fun W => rdotted_any (s.drop (q + 1)) W (by omega)
        have hlow := fun W => rlower_any (s.drop (q + 1)) W (by omega)
        have hcat2 := bs_add (s.take q ++ [64]) ((s.drop (q + 1)).map small)
        rw [show s.take q ++ [64] ++ (s.drop (q + 1)).map small = s.take q ++ 64 :: (s.drop (q + 1)).map small by simp] at hcat2
        have hyl2 : ((s.drop (q + 1)).map small).length ≤ 1000000 := by simpa using hyl
        generalize hxx : s.take q = x at *
        generalize hyy : s.drop (q + 1) = y at *
        generalize y.map small = ym at *
        clear hcut hr HRS hn n64 h hc
        rcases Bool.eq_false_or_eq_true (dotP x) with h1 | h1
        ·rw [h1] at hdx HR
         rcases Bool.eq_false_or_eq_true (dotP y) with h2 | h2
         ·rw [h2] at hdy HR
          have HR3 := Lib.hid (show addrP l = .ok (x ++ 64 :: ym) from HR.out)
          clear h1 h2 HR
          go_wp2_with fail
          try simp only [hn1,htk1,htk2,hxx,hyy]
          refine (hdx _).mono ?_
          rintro e w7 ⟨rfl,rfl⟩
          go_wp2_with fail
          try simp only [hn1,htk1,htk2,hxx,hyy]
          refine (hdy _).mono ?_
          rintro e w8 ⟨rfl,rfl⟩
          have hm1 : min (q + 1) s.length + ym.length ≤ 9223372036854775807 := by omega
          have hm2 : (s.take (q + 1)).length + ym.length ≤ 9223372036854775807 := by rw [List.length_take]; omega
          have hm3 : x.length + 1 + ym.length ≤ 9223372036854775807 := by omega
          have hm4 : min (q + 1) s.length = q + 1 := by omega
          clear hdx hdy
          go_wp2_with fail
          first
          | (go_region_held_law (fun w' => Below w.heap.size w w') (first | assumption | exact Below.drew (by assumption))
              (first
              | (go_at_call 59; (try simp only [hn1,htk1,htk2,hxx,hyy]); refine (hlow _).mono ?_; rintro e w9 ⟨rfl,hb9⟩; have hB9 : Below w.heap.size w w9 := Below.trans (by assumption) (hb9.mono (Below.size (by assumption))))))
          | fail
          all_goals
           go_wp2_with fail
           go_ret2
           exact ⟨bareOut_ok HR3.out rfl,by assumption⟩
         ·rw [h2] at hdy HR
          have HR3 := Lib.hid (show addrP l = .error 3 from HR.out)
          clear h1 h2 HR
          go_wp2_with fail
          try simp only [hn1,htk1,htk2,hxx,hyy]
          refine (hdx _).mono ?_
          rintro e w7 ⟨rfl,rfl⟩
          go_wp2_with fail
          try simp only [hn1,htk1,htk2,hxx,hyy]
          refine (hdy _).mono ?_
          rintro e w8 ⟨rfl,rfl⟩
          go_wp2_with fail
          go_ret2
          exact ⟨bareOut_err HR3.out rfl,hB⟩
        ·rw [h1] at hdx HR
         have HR3 := Lib.hid (show addrP l = .error 3 from HR.out)
         clear h1 HR
         go_wp2_with fail
         try simp only [hn1,htk1,htk2,hxx,hyy]
         refine (hdx _).mono ?_
         rintro e w7 ⟨rfl,rfl⟩
         go_wp2_with fail
         go_ret2
         exact ⟨bareOut_err HR3.out rfl,hB⟩
       ·have hb1 : ((c.toNat : Int) != 64) = true := by rw [n64]; simp [h]
        have HN := Lib.hid (not_in_succ hc h hn.out)
        clear n64 h hc hn
        go_wp2_with fail
        go_roundw
        case rel => exact ⟨q + 1,by go_num,by omega,HN,by first | rfl | trivial⟩
        case measure => simp [intOf]; omega
      ·obtain rfl : q = s.length := by omega
       have hcut : cutAt 64 s = none := cutAt_not (by have := hn.out; rwa [List.take_length] at this)
       have HR := Lib.hid (show addrP l = .error 3 by rw [HRS.out]; unfold addrAt; rw [hcut])
       clear hcut HRS hn
       go_wp2_with fail
       go_ret2
       exact ⟨bareOut_err HR.out rfl,hB⟩
end Tk
end
section
open Go.RowKit
def L4 (x : En) : List (List UInt8) := [x.fr,x.too,x.id,x.th]
theorem besP_eq (x : En) : besP x = (L4 x).flatMap fun s => s ++ [10] := by simp [besP,L4]
theorem flat_step {l : List (List UInt8)} {q : Nat} {s : List UInt8} (h : l[q]? = some s) : (l.take (q + 1)).flatMap (fun s => s ++ [10]) = (l.take q).flatMap (fun s => s ++ [10]) ++ s ++ [10] := by
 rw [take_succ_of h,List.flatMap_append]
 simp
theorem beside_any (x : En) (A : Option Addr) (ca : Nat) (B : Option Addr) (cb : Nat) (w : World) (hl : ∀ s ∈ L4 x,s.length ≤ 300) :
 Calls Tryz.prog 12 #[env x A ca B cb] w fun e w' => (∃ v,e = .returned v ∧ w'.ownsRow w.heap.size 5 1 v (besP x).length ((besP x).map bv)) ∧ Below w.heap.size w w' := by
 have hbe := besP_eq x
 obtain ⟨bp,hbp⟩ : ∃ l,besP x = l := ⟨_,rfl⟩
 rw [hbp] at hbe ⊢
 obtain ⟨l4,hl4⟩ : ∃ l,L4 x = l := ⟨_,rfl⟩
 have hl4' : l4 = [x.fr,x.too,x.id,x.th] := hl4.symm
 rw [hl4] at hbe hl
 have HBE := Lib.hid hbe
 have hlen : l4.length = 4 := by rw [hl4']; rfl
 have HLEN := Lib.hid hlen
 have hrv : Rv ((w.alloc (.cells #[.string (bs x.fr),.string (bs x.too),.string (bs x.id),.string (bs x.th),.bool x.plain,.slice A x.bun.length ca,.slice B x.cip.length cb] 24)).alloc (.cells #[.string (bs x.fr),.string (bs x.too),.string (bs x.id),.string (bs x.th)] 9)) (some ⟨w.heap.size + 1,0,none⟩) (l4.map Tk.sv) := by
  rw [hl4']
  have h := Rv_new (w.alloc (.cells #[.string (bs x.fr),.string (bs x.too),.string (bs x.id),.string (bs x.th),.bool x.plain,.slice A x.bun.length ca,.slice B x.cip.length cb] 24)) #[.string (bs x.fr),.string (bs x.too),.string (bs x.id),.string (bs x.th)] [.string (bs x.fr),.string (bs x.too),.string (bs x.id),.string (bs x.th)] 9 rfl
  rw [World.size_alloc] at h
  exact h
 have hB1 : Below w.heap.size w ((w.alloc (.cells #[.string (bs x.fr),.string (bs x.too),.string (bs x.id),.string (bs x.th),.bool x.plain,.slice A x.bun.length ca,.slice B x.cip.length cb] 24)).alloc (.cells #[.string (bs x.fr),.string (bs x.too),.string (bs x.id),.string (bs x.th)] 9)) := ((Below.refl _ _).alloc (Nat.le_refl _) _).alloc (by simp) _
 clear hbp hl4 hl4' hbe hlen
 unfold env
 go_enter Tryz.func12,Tryz.ntmps12
 go_wp2_with fail
 generalize ((w.alloc (.cells #[.string (bs x.fr),.string (bs x.too),.string (bs x.id),.string (bs x.th),.bool x.plain,.slice A x.bun.length ca,.slice B x.cip.length cb] 24)).alloc (.cells #[.string (bs x.fr),.string (bs x.too),.string (bs x.id),.string (bs x.th)] 9)) = W1 at *
 have hs1 := hB1.size
 go_loopw [2,15] (fun s2 s15 wr => ∃ (q : Nat) (o : List UInt8),s15 = .int .i64 (q : Int) ∧ q ≤ 4 ∧ Hid (o = (l4.take q).flatMap fun s => s ++ [10]) ∧ o.length ≤ q * 301 ∧ wr.ownsRow W1.heap.size 5 1 s2 o.length (o.map bv) ∧ Below W1.heap.size W1 wr) (fun _ i _ => 4 - (intOf i).toNat)
 case atStart => exact ⟨0,[],rfl,by omega,Lib.hid (by simp),by simp,World.ownsRow_nil _ _ _ _,Below.refl _ _⟩
 case round =>
  obtain ⟨q,o,rfl,hq,HO,hol,hown,hB⟩ := hrel
  obtain ⟨Ao,co,rfl,_,_,_,_⟩ := own_form hown
  have hs := hB.size
  by_cases hlt : q < 4
  ·obtain ⟨s,hsq⟩ : ∃ s,l4[q]? = some s := ⟨_,List.getElem?_eq_getElem (by rw [HLEN.out]; exact hlt)⟩
   have hsl := hl s (List.mem_of_getElem? hsq)
   have HST := Lib.hid (show o ++ s ++ [10] = (l4.take (q + 1)).flatMap fun s => s ++ [10] by rw [HO.out,flat_step hsq])
   obtain ⟨b,oo,e,hcell⟩ := hrv (by simp [HLEN.out])
   cases e
   have k0 : wr.cell? ⟨w.heap.size + 1,q,none⟩ = some (.string (bs s)) := by
    have h := hcell q (.string (bs s)) (by rw [List.getElem?_map,hsq]; rfl)
    rw [Nat.zero_add] at h
    exact (hB.cell (p := ⟨w.heap.size + 1,q,none⟩) (cell_lt h)).trans h
   have hb1 : (o.length + s.length) * 1 ≤ 140737488355328 := by omega
   clear hsq hcell
   go_wp2_with (first
    | (at_builtin; refine wpList_app rfl _ _ _ _ rfl TU8 hown rfl (Src_str Tryz.underlying9 s) rfl hb1 hs ?_; intro v5 w5 hown5 hgr5 hat5; obtain ⟨A5,c5,rfl,_,_,_,_⟩ := own_form hown5; have hB5 := below_app hB hown hgr5 hs (Nat.le_refl _); have hs5 := hB5.size)
    | (at_builtin; refine wpList_app rfl _ _ _ _ rfl TU8 (hown5.alloc (.cells #[bv 10] 5)) rfl (Src_rv (news := [bv 10]) Tryz.underlying22 rfl (Rv_new w5 _ _ _ rfl) (by simp [Value.oneCell',bv]) (by omega)) rfl (by omega) (by simp; omega) ?_; intro v6 w6 hown6 hgr6 hat6; have hB6 := below_app (hB5.alloc hs5 (.cells #[bv 10] 5)) (hown5.alloc _) hgr6 (by simp; omega) (Nat.le_refl _); have hs6 := hB6.size))
   go_roundw
   case rel => exact ⟨q + 1,o ++ s ++ [10],by go_num,by omega,HST,by simp only [List.length_append,List.length_cons,List.length_nil]; omega,by rw [List.length_append,List.length_append,List.map_append,List.map_append]; exact hown6,hB6⟩
   case measure => simp [intOf]; omega
  ·obtain rfl : q = 4 := by omega
   have HE := Lib.hid (show o = bp by rw [HO.out,HBE.out,List.take_of_length_le (by rw [HLEN.out]; exact Nat.le_refl _)])
   go_wp2_with fail
   go_ret
   refine ⟨⟨_,rfl,?_⟩,hB1.trans (hB.mono hs1)⟩
   rw [← HE.out]
   exact own_base hown hs1
end
end Go.Proofs.YtkllecicddfjpaaGreatDoor
