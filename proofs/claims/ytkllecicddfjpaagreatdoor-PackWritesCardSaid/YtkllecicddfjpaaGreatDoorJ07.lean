/- The walk of the law, part 7. -/
import Derived.Test.YtkllecicddfjpaaGreatDoorJ05
import Derived.Test.YtkllecicddfjpaaGreatDoorJ02
import Derived.Test.YtkllecicddfjpaaGreatDoorJ06
import Derived.Shelf.Lay
import Derived.Shelf.Strings.Builder1
import Derived.Test.YtkllecicddfjpaaGreatDoorProg
set_option maxRecDepth 100000
set_option maxHeartbeats 16000000
set_option linter.unusedVariables false
set_option linter.unusedSimpArgs false
namespace Go.Proofs.YtkllecicddfjpaaGreatDoor
section
namespace Tk
open Go.RowKit
theorem prc_iff (c : UInt8) : prc c = true ↔ 33 ≤ c.toNat ∧ c.toNat ≤ 126 := by
 unfold prc
 simp
theorem indexByte_neg (c : UInt8) : ∀ l : List UInt8,decide (Lib.indexByte l c < 0) = !l.contains c
 | [] => rfl
 | x :: l => by
  have ih := indexByte_neg c l
  have hge := Lib.indexByte_ge l c
  unfold Lib.indexByte
  rw [List.contains_cons]
  by_cases h : (x == c) = true
  ·have h2 : (c == x) = true := by rw [beq_iff_eq] at h ⊢; exact h.symm
   rw [if_pos h,h2]
   rfl
  ·have h2 : (c == x) = false := by
    rw [beq_eq_false_iff_ne]
    exact fun e => h (by rw [beq_iff_eq]; exact e.symm)
   rw [if_neg h,h2,Bool.false_or,← ih]
   by_cases h3 : (Lib.indexByte l c == -1) = true
   ·rw [if_pos h3]
    have := beq_iff_eq.1 h3
    rw [this]
   ·rw [if_neg h3]
    have h4 : Lib.indexByte l c ≠ -1 := fun e => h3 (beq_iff_eq.2 e)
    rw [decide_eq_decide]
    omega
theorem ixb_any (l : List UInt8) (L : ByteArray) (hL : L.data.toList = l) (c : UInt8) : ∃ ix : Int,decide (ix < 0) = !l.contains c ∧ ∀ w : World,Calls Tryz.prog 179 #[.string L,.int .u8 (c.toNat : Int)] w fun e w' => e = .returned (.int .i64 ix) ∧ w' = w := by
 refine ⟨_,indexByte_neg c l,fun w => ?_⟩
 have h := Tryz.strings_IndexByte L (c.toNat : Int) w
 rw [hL] at h
 simpa using h
theorem printed_any (c : UInt8) (w : World) : Calls Tryz.prog 158 #[.int .u8 (c.toNat : Int)] w fun e w' => e = .returned (.bool (prc c)) ∧ w' = w := by
 have h1 : (prc c = true ∧ (32 : Int) < (c.toNat : Int) ∧ (c.toNat : Int) ≤ 126) ∨ (prc c = false ∧ ((¬ (32 : Int) < (c.toNat : Int)) ∨ ((32 : Int) < (c.toNat : Int) ∧ ¬ (c.toNat : Int) ≤ 126))) := by
  rcases Bool.eq_false_or_eq_true (prc c) with h | h
  ·have := (prc_iff c).1 h
   exact .inl ⟨h,by omega,by omega⟩
  ·refine .inr ⟨h,?_⟩
   have h' : ¬ prc c = true := by simp [h]
   rw [prc_iff] at h'
   omega
 rcases h1 with ⟨hn,k1,k2⟩ | ⟨hn,k1 | ⟨k1,k2⟩⟩
 all_goals
  rw [hn]
  clear hn
  go_enter Tryz.func158,Tryz.ntmps158
  go_wp2_with fail
  go_ret
  exact ⟨rfl,rfl⟩
theorem plain_any (c : UInt8) (w : World) : Calls Tryz.prog 177 #[.int .u8 (c.toNat : Int)] w fun e w' => e = .returned (.bool (atc c)) ∧ w' = w := by
 obtain ⟨ix,hix,hcall⟩ := ixb_any [40,41,60,62,64,44,59,58,92,34,47,91,93,63,61,46] ⟨#[40,41,60,62,64,44,59,58,92,34,47,91,93,63,61,46]⟩ rfl c
 have ha : atc c = (prc c && decide (ix < 0)) := by rw [hix]; rfl
 rw [ha]
 have hp := printed_any c
 clear ha hix
 rcases Bool.eq_false_or_eq_true (prc c) with h | h
 ·rw [h] at hp ⊢
  rcases Int.lt_or_le ix 0 with h1 | h1
  ·rw [decide_eq_true h1]
   go_enter Tryz.func177,Tryz.ntmps177
   go_wp2_with fail
   refine (hp _).mono ?_
   rintro e w' ⟨rfl,rfl⟩
   go_wp2_with fail
   refine (hcall _).mono ?_
   rintro e w' ⟨rfl,rfl⟩
   go_wp2_with fail
   go_ret
   exact ⟨rfl,rfl⟩
  ·rw [decide_eq_false (by omega)]
   have h2 : ¬ ix < 0 := by omega
   go_enter Tryz.func177,Tryz.ntmps177
   go_wp2_with fail
   refine (hp _).mono ?_
   rintro e w' ⟨rfl,rfl⟩
   go_wp2_with fail
   refine (hcall _).mono ?_
   rintro e w' ⟨rfl,rfl⟩
   go_wp2_with fail
   go_ret
   exact ⟨ret_bool (by simp; omega),rfl⟩
 ·rw [h] at hp ⊢
  go_enter Tryz.func177,Tryz.ntmps177
  go_wp2_with fail
  refine (hp _).mono ?_
  rintro e w' ⟨rfl,rfl⟩
  go_wp2_with fail
  go_ret
  exact ⟨rfl,rfl⟩
theorem loose_any (c : UInt8) (w : World) : Calls Tryz.prog 122 #[.int .u8 (c.toNat : Int)] w fun e w' => e = .returned (.bool (loc' c)) ∧ w' = w := by
 obtain ⟨ix,hix,hcall⟩ := ixb_any [46,47,58,63] ⟨#[46,47,58,63]⟩ rfl c
 have ha : loc' c = (atc c || !decide (ix < 0)) := by rw [hix,Bool.not_not]; rfl
 rw [ha]
 have hp := plain_any c
 clear ha hix
 rcases Bool.eq_false_or_eq_true (atc c) with h | h
 ·rw [h] at hp ⊢
  go_enter Tryz.func122,Tryz.ntmps122
  go_wp2_with fail
  refine (hp _).mono ?_
  rintro e w' ⟨rfl,rfl⟩
  go_wp2_with fail
  go_ret
  exact ⟨rfl,rfl⟩
 ·rw [h] at hp ⊢
  rcases Int.lt_or_le ix 0 with h1 | h1
  ·rw [decide_eq_true h1]
   have h2 : ¬ 0 ≤ ix := by omega
   go_enter Tryz.func122,Tryz.ntmps122
   go_wp2_with fail
   refine (hp _).mono ?_
   rintro e w' ⟨rfl,rfl⟩
   go_wp2_with fail
   refine (hcall _).mono ?_
   rintro e w' ⟨rfl,rfl⟩
   go_wp2_with fail
   go_ret
   exact ⟨ret_bool (by simp; omega),rfl⟩
  ·rw [decide_eq_false (by omega)]
   go_enter Tryz.func122,Tryz.ntmps122
   go_wp2_with fail
   refine (hp _).mono ?_
   rintro e w' ⟨rfl,rfl⟩
   go_wp2_with fail
   refine (hcall _).mono ?_
   rintro e w' ⟨rfl,rfl⟩
   go_wp2_with fail
   go_ret
   exact ⟨rfl,rfl⟩
theorem ids1_any (c : UInt8) (w : World) : Calls Tryz.prog 157 #[.int .u8 (c.toNat : Int)] w fun e w' => e = .returned (.bool (idc c)) ∧ w' = w := by
 have hp := printed_any c
 have hb := u8_bne c 60
 have ha : idc c = (prc c && ((c.toNat : Int) != 60)) := by rw [show ((c.toNat : Int) != 60) = (c != 60) from hb]; rfl
 rw [ha]
 clear ha hb
 rcases Bool.eq_false_or_eq_true (prc c) with h | h
 ·rw [h] at hp ⊢
  rcases Bool.eq_false_or_eq_true ((c.toNat : Int) != 60) with h1 | h1
  all_goals
   rw [h1]
   go_enter Tryz.func157,Tryz.ntmps157
   go_wp2_with fail
   refine (hp _).mono ?_
   rintro e w' ⟨rfl,rfl⟩
   go_wp2_with fail
   go_ret
   exact ⟨rfl,rfl⟩
 ·rw [h] at hp ⊢
  go_enter Tryz.func157,Tryz.ntmps157
  go_wp2_with fail
  refine (hp _).mono ?_
  rintro e w' ⟨rfl,rfl⟩
  go_wp2_with fail
  go_ret
  exact ⟨rfl,rfl⟩
theorem value1_any (c : UInt8) (w : World) : Calls Tryz.prog 178 #[.int .u8 (c.toNat : Int)] w fun e w' => e = .returned (.bool (sgc c)) ∧ w' = w := by
 have hp := printed_any c
 have ha : (sgc c = true ∧ prc c = true) ∨ (sgc c = true ∧ prc c = false ∧ ((c.toNat : Int) == 32) = true) ∨ (sgc c = true ∧ prc c = false ∧ ((c.toNat : Int) == 32) = false ∧ ((c.toNat : Int) == 9) = true) ∨
   (sgc c = false ∧ prc c = false ∧ ((c.toNat : Int) == 32) = false ∧ ((c.toNat : Int) == 9) = false) := by
  have h1 := sgc_iff c
  have h2 := prc_iff c
  rw [beq_iff_eq,beq_iff_eq,beq_eq_false_iff_ne,beq_eq_false_iff_ne]
  rcases Bool.eq_false_or_eq_true (sgc c) with h | h <;> rcases Bool.eq_false_or_eq_true (prc c) with k | k <;> simp only [h,k] at h1 h2 ⊢ <;> simp at h1 h2 ⊢ <;> omega
 rcases ha with ⟨h,k⟩ | ⟨h,k,k1⟩ | ⟨h,k,k1,k2⟩ | ⟨h,k,k1,k2⟩
 all_goals
  rw [h]
  rw [k] at hp
  clear h k
  go_enter Tryz.func178,Tryz.ntmps178
  go_wp2_with fail
  refine (hp _).mono ?_
  rintro e w' ⟨rfl,rfl⟩
  go_wp2_with fail
  go_ret
  exact ⟨rfl,rfl⟩
theorem onlyB_no {p : UInt8 → Bool} {l : List UInt8} {q : Nat} {c : UInt8} (h : l[q]? = some c) (hc : p c = false) : onlyB p l = false := by
 unfold onlyB
 rw [all_hit p h hc]
 rfl
theorem only_any (p : UInt8 → Bool) (g : Nat) (eg : ∀ args w,(callFunc g args).run Tryz.prog w = .ok (.enter g args) w) (hp : ∀ (c : UInt8) (W : World),Calls Tryz.prog g #[.int .u8 (c.toNat : Int)] W fun e w' => e = .returned (.bool (p c)) ∧ w' = W)
  (l : List UInt8) (w : World) (hl : l.length ≤ 140737488351232) :
  Calls Tryz.prog 121 #[.string (bs l),.func (.func g) #[] #[]] w fun e w' => e = .returned (.bool (onlyB p l)) ∧ Below w.heap.size w w' := by
 obtain ⟨c,W,hcv,hown,hB,_⟩ := conv_bs (P := Tryz.prog) (src := 9) (dst := 22) Tryz.underlying9 Tryz.underlying22 Tryz.underlying5 w l (by unfold maxLen; omega)
 obtain ⟨A,_,hA,_,_,hR,_⟩ := hown.form
 cases hA
 have hRb : Rb W _ l := hR
 clear hown hR
 go_enter Tryz.func121,Tryz.ntmps121
 go_wp2_with fail
 go_loopw [10] (fun i wr => ∃ q : Nat,i = .int .i64 q ∧ q ≤ l.length ∧ Hid ((l.take q).all p = true) ∧ wr = W) (fun i _ => l.length - (intOf i).toNat)
 case atStart => exact ⟨0,rfl,by omega,Lib.hid (by simp),rfl⟩
 case round =>
  obtain ⟨q,rfl,hq,ha,rfl⟩ := hrel
  by_cases hlt : q < l.length
  ·obtain ⟨b,o,x,e,hx,hcell⟩ := hRb.one hlt
   cases e
   rw [Nat.zero_add] at hcell
   have hcall := hp x
   rcases Bool.eq_false_or_eq_true (p x) with h | h
   ·have hst : (l.take (q + 1)).all p = true := by rw [all_take p _ hx.out,ha.out,h]; rfl
    have HST := Lib.hid hst
    rw [h] at hcall
    clear hst h hp
    go_wp2_with (go_at_fn g; refine (hcall _).mono ?_; rintro e w' ⟨rfl,rfl⟩)
    go_roundw
    case rel => exact ⟨q + 1,by go_num,by omega,HST,trivial⟩
    case measure => simp [intOf]; omega
   ·have hno := onlyB_no hx.out h
    have HNO := Lib.hid hno
    rw [h] at hcall
    clear hno h hp
    go_wp2_with (go_at_fn g; refine (hcall _).mono ?_; rintro e w' ⟨rfl,rfl⟩)
    go_ret
    exact ⟨ret_bool HNO.out.symm,hB⟩
  ·obtain rfl : q = l.length := by omega
   have hall : onlyB p l = decide (0 < l.length) := by
    have := ha.out
    rw [List.take_length] at this
    unfold onlyB
    rw [this,Bool.true_and]
    cases l <;> simp
   have HR := Lib.hid hall
   clear hall hp
   by_cases h0 : 0 < l.length
   all_goals
    go_wp2_with fail
    go_ret
    exact ⟨ret_bool (by rw [HR.out,Bool.eq_iff_iff]; simp [h0]),hB⟩
theorem eg_plain : ∀ args w,(callFunc 177 args).run Tryz.prog w = .ok (.enter 177 args) w := enters_of Tryz.func177 (by kernel_rfl) rfl
theorem eg_loose : ∀ args w,(callFunc 122 args).run Tryz.prog w = .ok (.enter 122 args) w := enters_of Tryz.func122 (by kernel_rfl) rfl
theorem eg_ids1 : ∀ args w,(callFunc 157 args).run Tryz.prog w = .ok (.enter 157 args) w := enters_of Tryz.func157 (by kernel_rfl) rfl
theorem eg_value1 : ∀ args w,(callFunc 178 args).run Tryz.prog w = .ok (.enter 178 args) w := enters_of Tryz.func178 (by kernel_rfl) rfl
theorem only_plain (l : List UInt8) (w : World) (hl : l.length ≤ 140737488351232) :
  Calls Tryz.prog 121 #[.string (bs l),.func (.func 177) #[] #[]] w fun e w' => e = .returned (.bool (onlyB atc l)) ∧ Below w.heap.size w w' :=
 only_any atc 177 eg_plain plain_any l w hl
theorem only_loose (l : List UInt8) (w : World) (hl : l.length ≤ 140737488351232) :
  Calls Tryz.prog 121 #[.string (bs l),.func (.func 122) #[] #[]] w fun e w' => e = .returned (.bool (onlyB loc' l)) ∧ Below w.heap.size w w' :=
 only_any loc' 122 eg_loose loose_any l w hl
theorem only_ids (l : List UInt8) (w : World) (hl : l.length ≤ 140737488351232) :
  Calls Tryz.prog 121 #[.string (bs l),.func (.func 157) #[] #[]] w fun e w' => e = .returned (.bool (onlyB idc l)) ∧ Below w.heap.size w w' :=
 only_any idc 157 eg_ids1 ids1_any l w hl
theorem only_value (l : List UInt8) (w : World) (hl : l.length ≤ 140737488351232) :
  Calls Tryz.prog 121 #[.string (bs l),.func (.func 178) #[] #[]] w fun e w' => e = .returned (.bool (onlyB sgc l)) ∧ Below w.heap.size w w' :=
 only_any sgc 178 eg_value1 value1_any l w hl
theorem atom_any (l : List UInt8) (w : World) (hl : l.length ≤ 140737488351232) :
  Calls Tryz.prog 118 #[.string (bs l)] w fun e w' => e = .returned (.bool (atomB l)) ∧ Below w.heap.size w w' := by
 have h := only_plain l
 have e : onlyB atc l = atomB l := rfl
 rw [e] at h
 generalize atomB l = g at *
 go_enter Tryz.func118,Tryz.ntmps118
 go_wp2_with fail
 refine (h _ hl).mono ?_
 rintro e w' ⟨rfl,hb⟩
 go_wp2_with fail
 go_ret
 exact ⟨rfl,hb⟩
theorem value_any (l : List UInt8) (w : World) (hl : l.length ≤ 140737488351232) :
  Calls Tryz.prog 120 #[.string (bs l)] w fun e w' => e = .returned (.bool (valB l)) ∧ Below w.heap.size w w' := by
 have h := only_value l
 by_cases h0 : l = []
 ·subst h0
  have hb : (bs [] == (⟨#[]⟩ : ByteArray)) = true := rfl
  go_enter Tryz.func120,Tryz.ntmps120
  go_wp2_with fail
  go_ret
  exact ⟨rfl,Below.refl _ _⟩
 ·have hb : (bs l == (⟨#[]⟩ : ByteArray)) = false := by
   have := bs_beq l []
   rw [decide_eq_false h0] at this
   exact this
  have e : onlyB sgc l = valB l := by
   unfold onlyB valB
   cases l with
   | nil => exact absurd rfl h0
   | cons x l => simp
  rw [e] at h
  generalize valB l = g at *
  clear e
  go_enter Tryz.func120,Tryz.ntmps120
  go_wp2_with fail
  refine (h _ hl).mono ?_
  rintro e w' ⟨rfl,hb⟩
  go_wp2_with fail
  go_ret
  exact ⟨ret_bool (by simp [h0]),hb⟩
end Tk
end
section
namespace Tk
open Go.RowKit
theorem cmtGo_suf : ∀ (n : Nat) (l : List UInt8) (d : Nat) (t : List UInt8),l.length ≤ n → cmtGo d l = .ok t → ∃ u,l = u ++ t
 | 0,[],_,_,_,h => by simp [cmtGo] at h
 | n + 1,[],_,_,_,h => by simp [cmtGo] at h
 | n + 1,c :: l,d,t,hl,h => by
  simp only [List.length_cons] at hl
  rw [cmtGo.eq_def] at h
  simp only at h
  split at h
  ·split at h
   ·cases h
   ·rename_i x r'
    obtain ⟨u,e⟩ := cmtGo_suf n r' d t (by simp at hl; omega) h
    exact ⟨c :: x :: u,by rw [e]; rfl⟩
  ·split at h
   ·split at h
    ·cases h
    ·obtain ⟨u,e⟩ := cmtGo_suf n l (d + 1) t (by omega) h
     exact ⟨c :: u,by rw [e]; rfl⟩
   ·split at h
    ·split at h
     ·cases h
      exact ⟨[c],rfl⟩
     ·obtain ⟨u,e⟩ := cmtGo_suf n l (d - 1) t (by omega) h
      exact ⟨c :: u,by rw [e]; rfl⟩
    ·obtain ⟨u,e⟩ := cmtGo_suf n l d t (by omega) h
     exact ⟨c :: u,by rw [e]; rfl⟩
theorem drop_at {l : List UInt8} {q : Nat} {c : UInt8} (h : l[q]? = some c) : l.drop q = c :: l.drop (q + 1) := by
 have hq := lt_of_get h
 rw [List.drop_eq_getElem_cons hq]
 rw [List.getElem?_eq_getElem hq] at h
 rw [Option.some.inj h]
def quoAt (l : List UInt8) (q : Nat) : Option Nat := (qGo (l.drop q)).map fun p => q + p.1.length
theorem quoAt_esc {l : List UInt8} {q : Nat} {c : UInt8} (h : l[q]? = some c) (hc : c = 92) : quoAt l q = quoAt l (q + 2) := by
 unfold quoAt
 rw [drop_at h,qGo.eq_def]
 simp only
 rw [if_pos hc]
 have e : l.drop (q + 2) = (l.drop (q + 1)).drop 1 := by rw [List.drop_drop]
 rw [e]
 cases l.drop (q + 1) with
 | nil => rfl
 | cons x r =>
  simp only [List.drop_one,List.tail_cons]
  cases qGo r with
  | none => rfl
  | some p => simp; omega
theorem quoAt_end {l : List UInt8} {q : Nat} {c : UInt8} (h : l[q]? = some c) (hc : c = 34) : quoAt l q = some (q + 1) := by
 unfold quoAt
 rw [drop_at h,qGo.eq_def,hc]
 simp
theorem quoAt_more {l : List UInt8} {q : Nat} {c : UInt8} (h : l[q]? = some c) (h9 : c ≠ 92) (h3 : c ≠ 34) : quoAt l q = quoAt l (q + 1) := by
 unfold quoAt
 rw [drop_at h,qGo.eq_def]
 simp only
 rw [if_neg h9,if_neg h3]
 cases qGo (l.drop (q + 1)) with
 | none => rfl
 | some p => simp; omega
theorem quoAt_out {l : List UInt8} {q : Nat} (h : l.length ≤ q) : quoAt l q = none := by
 unfold quoAt
 rw [List.drop_of_length_le h]
 rfl
def QuoOut (r : Option Nat) (e : Ending) : Prop := match r with
 | some n => e = .returned (.tuple #[.int .i64 n,.bool true])
 | none => e = .returned (.tuple #[.int .i64 0,.bool false])
theorem quoOut_some {r : Option Nat} {n : Nat} {e : Ending} (h : r = some n) (he : e = .returned (.tuple #[.int .i64 n,.bool true])) : QuoOut r e := by rw [h]; exact he
theorem quoOut_none {r : Option Nat} {e : Ending} (h : r = none) (he : e = .returned (.tuple #[.int .i64 0,.bool false])) : QuoOut r e := by rw [h]; exact he
theorem quoted_any (l : List UInt8) (w : World) (hl : l.length ≤ 140737488351232) :
  Calls Tryz.prog 134 #[.string (bs l)] w fun e w' => QuoOut (quoAt l 1) e ∧ w' = w := by
 go_enter Tryz.func134,Tryz.ntmps134
 go_wp2_with fail
 go_loop [4] (fun i => ∃ q : Nat,i = .int .i64 q ∧ 1 ≤ q ∧ q ≤ l.length + 1 ∧ Hid (quoAt l 1 = quoAt l q)) (fun i => l.length + 1 - (intOf i).toNat)
 case atStart => exact ⟨1,rfl,by omega,by omega,Lib.hid rfl⟩
 case round =>
  obtain ⟨q,rfl,hq1,hq,he⟩ := hrel
  by_cases hlt : q < l.length
  ·obtain ⟨c,hc⟩ : ∃ c,l[q]? = some c := ⟨_,List.getElem?_eq_getElem hlt⟩
   have hi := str_index (P := Tryz.prog) Tryz.underlying9 hc .i64
   have h92 := u8_beq c 92
   have h34 := u8_beq c 34
   by_cases h1 : c = 92
   ·have hst := Lib.hid (he.out.trans (quoAt_esc hc h1))
    have hb : ((c.toNat : Int) == 92) = true := by rw [show ((c.toNat : Int) == 92) = (c == 92) from h92,h1]; rfl
    clear hc h92 h34 h1 he
    go_wp2_with fail
    go_round
    case rel => exact ⟨q + 2,by go_num,by omega,by omega,hst⟩
    case measure => simp [intOf]; omega
   ·have hb : ((c.toNat : Int) == 92) = false := by rw [show ((c.toNat : Int) == 92) = (c == 92) from h92]; simp [h1]
    by_cases h2 : c = 34
    ·have hst := Lib.hid (he.out.trans (quoAt_end hc h2))
     have hb2 : ((c.toNat : Int) == 34) = true := by rw [show ((c.toNat : Int) == 34) = (c == 34) from h34,h2]; rfl
     clear hc h92 h34 h1 h2 he
     go_wp2_with fail
     go_ret2
     exact ⟨quoOut_some hst.out (by go_num),rfl⟩
    ·have hst := Lib.hid (he.out.trans (quoAt_more hc h1 h2))
     have hb2 : ((c.toNat : Int) == 34) = false := by rw [show ((c.toNat : Int) == 34) = (c == 34) from h34]; simp [h2]
     clear hc h92 h34 h1 h2 he
     go_wp2_with fail
     go_round
     case rel => exact ⟨q + 1,by go_num,by omega,by omega,hst⟩
     case measure => simp [intOf]; omega
  ·have hst := Lib.hid (he.out.trans (quoAt_out (by omega)))
   clear he
   go_wp2_with fail
   go_ret2
   exact ⟨quoOut_none hst.out rfl,rfl⟩
def comAt (l : List UInt8) (d q : Nat) : Except Nat Nat := match cmtGo d (l.drop q) with | .ok t => .ok (l.length - t.length) | .error e => .error e
theorem comAt_esc {l : List UInt8} {d q : Nat} {c : UInt8} (h : l[q]? = some c) (hc : c = 92) : comAt l d q = comAt l d (q + 2) := by
 unfold comAt
 rw [drop_at h,cmtGo.eq_def]
 simp only
 rw [if_pos hc]
 have e : l.drop (q + 2) = (l.drop (q + 1)).drop 1 := by rw [List.drop_drop]
 rw [e]
 cases l.drop (q + 1) with
 | nil => simp [cmtGo]
 | cons x r => rfl
theorem comAt_open {l : List UInt8} {d q : Nat} {c : UInt8} (h : l[q]? = some c) (hc : c = 40) : comAt l d q = if 9 < d + 1 then .error 5 else comAt l (d + 1) (q + 1) := by
 unfold comAt
 rw [drop_at h,cmtGo.eq_def]
 simp only
 rw [if_neg (by rw [hc]; decide),if_pos hc]
 by_cases h9 : 9 < d + 1
 ·rw [if_pos h9,if_pos h9]
 ·rw [if_neg h9,if_neg h9]
theorem comAt_close {l : List UInt8} {d q : Nat} {c : UInt8} (h : l[q]? = some c) (hc : c = 41) : comAt l d q = if d = 1 then .ok (q + 1) else comAt l (d - 1) (q + 1) := by
 have hq := lt_of_get h
 unfold comAt
 rw [drop_at h,cmtGo.eq_def]
 simp only
 rw [if_neg (by rw [hc]; decide),if_neg (by rw [hc]; decide),if_pos hc]
 by_cases h9 : d = 1
 ·rw [if_pos h9,if_pos h9]
  simp
  omega
 ·rw [if_neg h9,if_neg h9]
theorem comAt_more {l : List UInt8} {d q : Nat} {c : UInt8} (h : l[q]? = some c) (h1 : c ≠ 92) (h2 : c ≠ 40) (h3 : c ≠ 41) : comAt l d q = comAt l d (q + 1) := by
 unfold comAt
 rw [drop_at h,cmtGo.eq_def]
 simp only
 rw [if_neg h1,if_neg h2,if_neg h3]
theorem comAt_out {l : List UInt8} {d q : Nat} (h : l.length ≤ q) : comAt l d q = .error 3 := by
 unfold comAt
 rw [List.drop_of_length_le h]
 simp [cmtGo]
def ComOut (r : Except Nat Nat) (e : Ending) : Prop := match r with
 | .ok n => e = .returned (.tuple #[.int .i64 n,.int .i64 0])
 | .error k => e = .returned (.tuple #[.int .i64 0,.int .i64 k])
theorem comOut_ok {r : Except Nat Nat} {n : Nat} {e : Ending} (h : r = .ok n) (he : e = .returned (.tuple #[.int .i64 n,.int .i64 0])) : ComOut r e := by rw [h]; exact he
theorem comOut_err {r : Except Nat Nat} {k : Nat} {e : Ending} (h : r = .error k) (he : e = .returned (.tuple #[.int .i64 0,.int .i64 k])) : ComOut r e := by rw [h]; exact he
theorem u8_test (c x : UInt8) {n : Int} (hn : n = (x.toNat : Int)) : ((c.toNat : Int) == n) = (c == x) := by rw [hn,u8_beq]
theorem comment_any (l : List UInt8) (w : World) (hl : l.length ≤ 140737488351232) (h0 : l[0]? = some 40) :
  Calls Tryz.prog 184 #[.string (bs l)] w fun e w' => ComOut (comAt l 0 0) e ∧ w' = w := by
 have hp := lt_of_get h0
 have H0 := Lib.hid h0
 clear h0
 go_enter Tryz.func184,Tryz.ntmps184
 go_wp2_with fail
 go_loop [4,5] (fun dp i => ∃ d q : Nat,dp = .int .i64 d ∧ i = .int .i64 q ∧ q ≤ l.length + 1 ∧ d ≤ 9 ∧ (1 ≤ d ∨ q = 0) ∧ Hid (comAt l 0 0 = comAt l d q)) (fun _ i => l.length + 1 - (intOf i).toNat)
 case atStart => exact ⟨0,0,rfl,rfl,by omega,by omega,.inr rfl,Lib.hid rfl⟩
 case round =>
  obtain ⟨d,q,rfl,rfl,hq,hd,hdq,he⟩ := hrel
  by_cases hlt : q < l.length
  ·obtain ⟨c,hc⟩ : ∃ c,l[q]? = some c := ⟨_,List.getElem?_eq_getElem hlt⟩
   have hi := str_index (P := Tryz.prog) Tryz.underlying9 hc .i64
   have t92 : ((c.toNat : Int) == 92) = (c == 92) := u8_test c 92 rfl
   have t40 : ((c.toNat : Int) == 40) = (c == 40) := u8_test c 40 rfl
   have t41 : ((c.toNat : Int) == 41) = (c == 41) := u8_test c 41 rfl
   have hc0 : q = 0 → c = 40 := fun e => by subst e; rw [H0.out] at hc; exact (Option.some.inj hc).symm
   by_cases h1 : c = 92
   ·have hst := Lib.hid (he.out.trans (comAt_esc hc h1))
    have hd1 : 1 ≤ d := by
     rcases hdq with h | h
     ·exact h
     ·have := hc0 h; rw [h1] at this; exact absurd this (by decide)
    have hb : ((c.toNat : Int) == 92) = true := by rw [t92,h1]; rfl
    clear hc t92 t40 t41 h1 he hc0 hdq
    go_wp2_with fail
    go_round
    case rel => exact ⟨d,q + 2,rfl,by go_num,by omega,hd,.inl hd1,hst⟩
    case measure => simp [intOf]; omega
   ·have hb : ((c.toNat : Int) == 92) = false := by rw [t92]; simp [h1]
    by_cases h2 : c = 40
    ·have hst := he.out.trans (comAt_open hc h2)
     have hb2 : ((c.toNat : Int) == 40) = true := by rw [t40,h2]; rfl
     by_cases h9 : 9 < d + 1
     ·rw [if_pos h9] at hst
      have HST := Lib.hid hst
      have hgt : (9 : Int) < (d : Int) + 1 := by omega
      clear hst hc t92 t40 t41 h1 h2 he hc0 hdq
      go_wp2_with fail
      go_ret2
      exact ⟨comOut_err HST.out rfl,rfl⟩
     ·rw [if_neg h9] at hst
      have HST := Lib.hid hst
      have hgt : ¬ (9 : Int) < (d : Int) + 1 := by omega
      clear hst hc t92 t40 t41 h1 h2 he hc0 hdq
      go_wp2_with fail
      go_round
      case rel => exact ⟨d + 1,q + 1,by go_num,by go_num,by omega,by omega,.inl (by omega),HST⟩
      case measure => simp [intOf]; omega
    ·have hb2 : ((c.toNat : Int) == 40) = false := by rw [t40]; simp [h2]
     have hd1 : 1 ≤ d := by
      rcases hdq with h | h
      ·exact h
      ·exact absurd (hc0 h) h2
     by_cases h3 : c = 41
     ·have hst := he.out.trans (comAt_close hc h3)
      have hb3 : ((c.toNat : Int) == 41) = true := by rw [t41,h3]; rfl
      by_cases h9 : d = 1
      ·rw [if_pos h9] at hst
       have HST := Lib.hid hst
       subst h9
       clear hst hc t92 t40 t41 h1 h2 h3 he hc0 hdq
       go_wp2_with fail
       go_ret2
       exact ⟨comOut_ok HST.out (by go_num),rfl⟩
      ·rw [if_neg h9] at hst
       have HST := Lib.hid hst
       have hne : ((d : Int) - 1 == 0) = false := by rw [beq_eq_false_iff_ne]; omega
       clear hst hc t92 t40 t41 h1 h2 h3 he hc0 hdq
       go_wp2_with fail
       go_round
       case rel => exact ⟨d - 1,q + 1,by go_num,by go_num,by omega,by omega,.inl (by omega),HST⟩
       case measure => simp [intOf]; omega
     ·have hb3 : ((c.toNat : Int) == 41) = false := by rw [t41]; simp [h3]
      have hst := Lib.hid (he.out.trans (comAt_more hc h1 h2 h3))
      clear hc t92 t40 t41 h1 h2 h3 he hc0 hdq
      go_wp2_with fail
      go_round
      case rel => exact ⟨d,q + 1,rfl,by go_num,by omega,hd,.inl hd1,hst⟩
      case measure => simp [intOf]; omega
  ·have hst := Lib.hid (he.out.trans (comAt_out (by omega)))
   clear he
   go_wp2_with fail
   go_ret2
   exact ⟨comOut_err hst.out rfl,rfl⟩
end Tk
end
end Go.Proofs.YtkllecicddfjpaaGreatDoor
namespace Go.Proofs
open Go.Shelf
def Tryz.lays167_ren : Go.Shelf.Ren := ⟨fun | 167 => 185 | 240 => 224 | 276 => 246 | n => n,fun | 0 => 0 | 4 => 4 | 5 => 5 | 9 => 9 | 20 => 20 | 37 => 22 | 70 => 214 | 72 => 216 | 75 => 220 | 80 => 224 | 164 => 270 | n => n,fun | n => n⟩
theorem Tryz.lays167 : Lays.n167 Tryz.prog Tryz.lays167_ren := {
 mixed := by kernel_rfl
 f167 := Tryz.func185.trans (congrArg some (by kernel_rfl))
 f240 := Tryz.func224.trans (congrArg some (by kernel_rfl))
 f276 := Tryz.func246.trans (congrArg some (by kernel_rfl))
 t0 := Tryz.underlying0
 a0 := Tryz.isAgg0
 z0 := Tryz.sizeOf0
 v0 := Tryz.zeroValue0
 t4 := Tryz.underlying4
 a4 := Tryz.isAgg4
 z4 := Tryz.sizeOf4
 v4 := Tryz.zeroValue4
 t5 := Tryz.underlying5
 a5 := Tryz.isAgg5
 z5 := Tryz.sizeOf5
 v5 := Tryz.zeroValue5
 t9 := Tryz.underlying9
 a9 := Tryz.isAgg9
 z9 := Tryz.sizeOf9
 v9 := Tryz.zeroValue9
 t20 := Tryz.underlying20
 a20 := Tryz.isAgg20
 z20 := Tryz.sizeOf20
 v20 := Tryz.zeroValue20
 t37 := Tryz.underlying22
 a37 := Tryz.isAgg22
 z37 := Tryz.sizeOf22
 v37 := Tryz.zeroValue22
 t70 := Tryz.underlying214
 a70 := Tryz.isAgg214
 z70 := Tryz.sizeOf214
 v70 := Tryz.zeroValue214
 t72 := Tryz.underlying216
 a72 := Tryz.isAgg216
 z72 := Tryz.sizeOf216
 v72 := Tryz.zeroValue216
 t75 := Tryz.underlying220
 a75 := Tryz.isAgg220
 z75 := Tryz.sizeOf220
 v75 := Tryz.zeroValue220
 t164 := Tryz.underlying270
 a164 := Tryz.isAgg270
 z164 := Tryz.sizeOf270
 v164 := Tryz.zeroValue270
}
def Tryz.lays166_ren : Go.Shelf.Ren := ⟨fun | 166 => 186 | 240 => 224 | 276 => 246 | n => n,fun | 0 => 0 | 3 => 3 | 4 => 4 | 5 => 5 | 9 => 9 | 20 => 20 | 37 => 22 | 70 => 214 | 72 => 216 | 75 => 220 | 80 => 224 | 164 => 270 | n => n,fun | n => n⟩
theorem Tryz.lays166 : Lays.n166 Tryz.prog Tryz.lays166_ren := {
 mixed := by kernel_rfl
 f166 := Tryz.func186.trans (congrArg some (by kernel_rfl))
 f240 := Tryz.func224.trans (congrArg some (by kernel_rfl))
 f276 := Tryz.func246.trans (congrArg some (by kernel_rfl))
 t0 := Tryz.underlying0
 a0 := Tryz.isAgg0
 z0 := Tryz.sizeOf0
 v0 := Tryz.zeroValue0
 t3 := Tryz.underlying3
 a3 := Tryz.isAgg3
 z3 := Tryz.sizeOf3
 v3 := Tryz.zeroValue3
 t4 := Tryz.underlying4
 a4 := Tryz.isAgg4
 z4 := Tryz.sizeOf4
 v4 := Tryz.zeroValue4
 t9 := Tryz.underlying9
 a9 := Tryz.isAgg9
 z9 := Tryz.sizeOf9
 v9 := Tryz.zeroValue9
 t20 := Tryz.underlying20
 a20 := Tryz.isAgg20
 z20 := Tryz.sizeOf20
 v20 := Tryz.zeroValue20
 t37 := Tryz.underlying22
 a37 := Tryz.isAgg22
 z37 := Tryz.sizeOf22
 v37 := Tryz.zeroValue22
 t70 := Tryz.underlying214
 a70 := Tryz.isAgg214
 z70 := Tryz.sizeOf214
 v70 := Tryz.zeroValue214
 t72 := Tryz.underlying216
 a72 := Tryz.isAgg216
 z72 := Tryz.sizeOf216
 v72 := Tryz.zeroValue216
 t75 := Tryz.underlying220
 a75 := Tryz.isAgg220
 z75 := Tryz.sizeOf220
 v75 := Tryz.zeroValue220
 t164 := Tryz.underlying270
 a164 := Tryz.isAgg270
 z164 := Tryz.sizeOf270
 v164 := Tryz.zeroValue270
}
theorem Tryz.Builder_Extra_167 : Builder.Extra Tryz.prog Tryz.lays167_ren where
 sizeBuilder := by kernel_rfl
 liesBuilder := by kernel_rfl
 t5 := Tryz.underlying5
 a5 := Tryz.isAgg5
 z5 := Tryz.sizeOf5
 v5 := Tryz.zeroValue5
 infoByte := by kernel_rfl
 cellsByte := by kernel_rfl
 sizeByte := by kernel_rfl
 neB5 := by decide
open Go.RowKit in
theorem Tryz.Builder_WriteByte (B b : Nat) (bs : List Value) (c : Int) (w : World) (h : Lib.IsBuilder 216 5 B b bs w) (hlen : bs.length + 1 ≤ 140737488355328) (hBw : B ≤ w.heap.size) :
  Calls Tryz.prog 185 #[.pointer (some ⟨b,0,none⟩),.int .u8 c] w fun e w' => e = .returned .nilIface ∧ (Lib.BuilderAt 216 5 B b (.pointer (some ⟨b,0,none⟩)) (bs ++ [.int .u8 c]) w' ∧ Below B w w') := Any.Builder_WriteByte Tryz.lays167 Tryz.Builder_Extra_167 B b bs c w h hlen hBw
theorem Tryz.Builder_Extra_166 : Builder.Extra Tryz.prog Tryz.lays166_ren where
 sizeBuilder := by kernel_rfl
 liesBuilder := by kernel_rfl
 t5 := Tryz.underlying5
 a5 := Tryz.isAgg5
 z5 := Tryz.sizeOf5
 v5 := Tryz.zeroValue5
 infoByte := by kernel_rfl
 cellsByte := by kernel_rfl
 sizeByte := by kernel_rfl
 neB5 := by decide
open Go.RowKit in
theorem Tryz.Builder_WriteString (B b : Nat) (bs : List Value) (s : ByteArray) (w : World) (h : Lib.IsBuilder 216 5 B b bs w) (hlen : bs.length + s.size ≤ 140737488355328) (hBw : B ≤ w.heap.size) :
  Calls Tryz.prog 186 #[.pointer (some ⟨b,0,none⟩),.string s] w fun e w' => e = .returned (.tuple #[.int .i64 s.size,.nilIface]) ∧ (Lib.BuilderAt 216 5 B b (.pointer (some ⟨b,0,none⟩)) (bs ++ Lib.strCells s) w' ∧ Below B w w') := Any.Builder_WriteString Tryz.lays166 Tryz.Builder_Extra_166 B b bs s w h hlen hBw
end Go.Proofs
namespace Go.Proofs.YtkllecicddfjpaaGreatDoor
end Go.Proofs.YtkllecicddfjpaaGreatDoor
