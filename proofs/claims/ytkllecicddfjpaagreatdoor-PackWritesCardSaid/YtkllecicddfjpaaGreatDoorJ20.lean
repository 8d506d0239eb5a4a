/- The walk of the law, part 20. -/
import Derived.Test.YtkllecicddfjpaaGreatDoorJ01
import Derived.Test.YtkllecicddfjpaaGreatDoorJ19
import Derived.Test.YtkllecicddfjpaaGreatDoorJ10
import Derived.KernelRfl
set_option maxRecDepth 100000
set_option maxHeartbeats 16000000
set_option linter.unusedVariables false
set_option linter.unusedSimpArgs false
namespace Go.Proofs.YtkllecicddfjpaaGreatDoor
section
open Go.Lib
theorem gCodes : Tryz.prog.globalNamed "despatch/mime.codes" = some 0 := by kernel_rfl
theorem yCodes : (Tryz.prog.globals[0]?).map (·.type) = some 104 := by kernel_rfl
theorem cStr : Tryz.prog.cellsOf 9 = 1 := by kernel_rfl
theorem codes_laid0 {w : World} {l : List (String × DataW Unit)} (h : laidMet Tryz.prog l w) (hm : ("despatch/mime.codes", Rows.laid_despatch_mime_codes) ∈ l) :
  w.cell? ⟨0,0,none⟩ = some (.string (bs [56,98,105,116])) := by
 obtain ⟨g,t,cs,fuel,p,hg,hty,hvar,hd⟩ := laidMet.reads h hm
 obtain rfl := Option.some.inj (gCodes.symm.trans hg)
 obtain rfl := Option.some.inj (yCodes.symm.trans hty)
 obtain ⟨fuel',d,q,hdi,he⟩ := array_elem Tryz.underlying104 hd 0 (by decide)
 obtain rfl : DataW.lit (.string [56,98,105,116]) = d := Option.some.inj hdi
 rw [cStr] at he
 obtain ⟨s,e1,e2,_⟩ := DataW.trod_string Tryz.underlying9 he
 have e3 : s = bs [56,98,105,116] := by
  have h1 : ([56,98,105,116] : List UInt8) = s.data.toList := by
   have h2 : [56,98,105,116] = s.data.toList ∧ q = [] := by simpa using e2
   exact h2.1
  rw [h1,bs_of]
 have e4 := congrArg (·[0]?) e1
 simp only [List.getElem?_take,List.getElem?_drop] at e4
 rw [World.var?_cell hg hvar 0,← Array.getElem?_toList,← e3]
 simpa using e4
theorem codes_laid1 {w : World} {l : List (String × DataW Unit)} (h : laidMet Tryz.prog l w) (hm : ("despatch/mime.codes", Rows.laid_despatch_mime_codes) ∈ l) :
  w.cell? ⟨0,1,none⟩ = some (.string (bs [98,97,115,101,54,52])) := by
 obtain ⟨g,t,cs,fuel,p,hg,hty,hvar,hd⟩ := laidMet.reads h hm
 obtain rfl := Option.some.inj (gCodes.symm.trans hg)
 obtain rfl := Option.some.inj (yCodes.symm.trans hty)
 obtain ⟨fuel',d,q,hdi,he⟩ := array_elem Tryz.underlying104 hd 1 (by decide)
 obtain rfl : DataW.lit (.string [98,97,115,101,54,52]) = d := Option.some.inj hdi
 rw [cStr] at he
 obtain ⟨s,e1,e2,_⟩ := DataW.trod_string Tryz.underlying9 he
 have e3 : s = bs [98,97,115,101,54,52] := by
  have h1 : ([98,97,115,101,54,52] : List UInt8) = s.data.toList := by
   have h2 : [98,97,115,101,54,52] = s.data.toList ∧ q = [] := by simpa using e2
   exact h2.1
  rw [h1,bs_of]
 have e4 := congrArg (·[0]?) e1
 simp only [List.getElem?_take,List.getElem?_drop] at e4
 rw [World.var?_cell hg hvar 1,← Array.getElem?_toList,← e3]
 simpa using e4
theorem codes_laid2 {w : World} {l : List (String × DataW Unit)} (h : laidMet Tryz.prog l w) (hm : ("despatch/mime.codes", Rows.laid_despatch_mime_codes) ∈ l) :
  w.cell? ⟨0,2,none⟩ = some (.string (bs [113,117,111,116,101,100,45,112,114,105,110,116,97,98,108,101])) := by
 obtain ⟨g,t,cs,fuel,p,hg,hty,hvar,hd⟩ := laidMet.reads h hm
 obtain rfl := Option.some.inj (gCodes.symm.trans hg)
 obtain rfl := Option.some.inj (yCodes.symm.trans hty)
 obtain ⟨fuel',d,q,hdi,he⟩ := array_elem Tryz.underlying104 hd 2 (by decide)
 obtain rfl : DataW.lit (.string [113,117,111,116,101,100,45,112,114,105,110,116,97,98,108,101]) = d := Option.some.inj hdi
 rw [cStr] at he
 obtain ⟨s,e1,e2,_⟩ := DataW.trod_string Tryz.underlying9 he
 have e3 : s = bs [113,117,111,116,101,100,45,112,114,105,110,116,97,98,108,101] := by
  have h1 : ([113,117,111,116,101,100,45,112,114,105,110,116,97,98,108,101] : List UInt8) = s.data.toList := by
   have h2 : [113,117,111,116,101,100,45,112,114,105,110,116,97,98,108,101] = s.data.toList ∧ q = [] := by simpa using e2
   exact h2.1
  rw [h1,bs_of]
 have e4 := congrArg (·[0]?) e1
 simp only [List.getElem?_take,List.getElem?_drop] at e4
 rw [World.var?_cell hg hvar 2,← Array.getElem?_toList,← e3]
 simpa using e4
theorem gm_laid {w : World} {l : List (String × DataW Unit)} (h : laidMet Tryz.prog l w) (hx : ∃ m : Int, w.cell? ⟨1, 0, none⟩ = some (.int .i64 m)) (h1 : ("unicode/utf8.first", Rows.laid_unicode_utf8_first) ∈ l) (h2 : ("unicode/utf8.acceptRanges", Rows.laid_unicode_utf8_acceptRanges) ∈ l) (h3 : ("despatch/mime.codes", Rows.laid_despatch_mime_codes) ∈ l) : Gm w :=
 ⟨tabs_laid h h1 h2,hx,codes_laid0 h h3,codes_laid1 h h3,codes_laid2 h h3⟩
end
section
namespace Tk
open Go.RowKit
theorem atc_split (c : UInt8) : atc c = (decide (33 ≤ c.toNat) && decide (c.toNat ≤ 126) && !([40,41,60,62,64,44,59,58,92,34,47,91,93,63,61,46] : List UInt8).contains c) := rfl
theorem rplain_any (c : UInt8) (w : World) : Calls Tryz.prog 109 #[.int .u8 (c.toNat : Int)] w fun e w' => e = .returned (.bool (atc c)) ∧ w' = w := by
 have hin : ∀ W,Calls Tryz.prog 172 #[.int .u8 (c.toNat : Int),.string ⟨#[40,41,60,62,64,44,59,58,92,34,47,91,93,63,61,46]⟩] W fun e w' => e = .returned (.bool (([40,41,60,62,64,44,59,58,92,34,47,91,93,63,61,46] : List UInt8).contains c)) ∧ W = w' := fun W => rin_any c [40,41,60,62,64,44,59,58,92,34,47,91,93,63,61,46] W (by decide)
 rw [atc_split]
 generalize ([40,41,60,62,64,44,59,58,92,34,47,91,93,63,61,46] : List UInt8).contains c = z at *
 rcases (by omega : c.toNat < 33 ∨ (33 ≤ c.toNat ∧ 126 < c.toNat) ∨ (33 ≤ c.toNat ∧ c.toNat ≤ 126)) with h1 | ⟨h1,h2⟩ | ⟨h1,h2⟩
 ·rw [decide_eq_false (by omega : ¬ 33 ≤ c.toNat)]
  have k1 : ¬ (33 : Int) ≤ (c.toNat : Int) := by omega
  clear h1
  go_enter Tryz.func109,Tryz.ntmps109
  go_wp2_with fail
  go_ret
  exact ⟨rfl,rfl⟩
 ·rw [decide_eq_true h1,decide_eq_false (by omega : ¬ c.toNat ≤ 126)]
  have k1 : (33 : Int) ≤ (c.toNat : Int) := by omega
  have k2 : ¬ (c.toNat : Int) ≤ 126 := by omega
  clear h1 h2
  go_enter Tryz.func109,Tryz.ntmps109
  go_wp2_with fail
  go_ret
  exact ⟨rfl,rfl⟩
 ·rw [decide_eq_true h1,decide_eq_true h2]
  have k1 : (33 : Int) ≤ (c.toNat : Int) := by omega
  have k2 : (c.toNat : Int) ≤ 126 := by omega
  clear h1 h2
  go_enter Tryz.func109,Tryz.ntmps109
  go_wp2_with fail
  refine (hin _).mono ?_
  rintro e w' ⟨rfl,rfl⟩
  go_wp2_with fail
  go_ret
  exact ⟨ret_bool (by simp),rfl⟩
theorem ratom_any (l : List UInt8) (w : World) (hl : l.length ≤ 140737488351232) :
  Calls Tryz.prog 140 #[.string (bs l)] w fun e w' => e = .returned (.bool (atomB l)) ∧ w' = w := by
 go_enter Tryz.func140,Tryz.ntmps140
 go_wp2_with fail
 go_loopw [3] (fun i wr => ∃ q : Nat,i = .int .i64 q ∧ q ≤ l.length ∧ Hid ((l.take q).all atc = true) ∧ wr = w) (fun i _ => l.length - (intOf i).toNat)
 case atStart => exact ⟨0,rfl,by omega,Lib.hid (by simp),rfl⟩
 case round =>
  obtain ⟨q,rfl,hq,ha,rfl⟩ := hrel
  by_cases hlt : q < l.length
  ·obtain ⟨c,hc⟩ : ∃ c,l[q]? = some c := ⟨_,List.getElem?_eq_getElem hlt⟩
   have hi := str_index (P := Tryz.prog) Tryz.underlying9 hc .i64
   have hcall := rplain_any c
   rcases Bool.eq_false_or_eq_true (atc c) with h | h
   ·have hst : (l.take (q + 1)).all atc = true := by rw [all_take atc _ hc,ha.out,h]; rfl
    have HST := Lib.hid hst
    rw [h] at hcall
    clear hst h hc
    go_wp2_with fail
    refine (hcall _).mono ?_
    rintro e w' ⟨rfl,rfl⟩
    go_wp2_with fail
    go_roundw
    case rel => exact ⟨q + 1,by go_num,by omega,HST,by first | rfl | trivial⟩
    case measure => simp [intOf]; omega
   ·have hno : atomB l = false := by unfold atomB; rw [all_hit atc hc h]; rfl
    have HNO := Lib.hid hno
    rw [h] at hcall
    clear hno h hc
    go_wp2_with fail
    refine (hcall _).mono ?_
    rintro e w' ⟨rfl,rfl⟩
    go_wp2_with fail
    go_ret
    exact ⟨ret_bool HNO.out.symm,by first | rfl | trivial⟩
  ·obtain rfl : q = l.length := by omega
   have hall : atomB l = decide (0 < l.length) := by
    have := ha.out
    rw [List.take_length] at this
    unfold atomB
    rw [this,Bool.true_and]
    cases l <;> simp
   have HR := Lib.hid hall
   clear hall
   by_cases h0 : 0 < l.length
   all_goals
    go_wp2_with fail
    go_ret
    exact ⟨ret_bool (by rw [HR.out,Bool.eq_iff_iff]; simp [h0]),by first | rfl | trivial⟩
section
variable {l o : List UInt8} {q d : Nat} {c : UInt8}
theorem drop2_cons {x : UInt8} (hx : l[q + 1]? = some x) (hc : l[q]? = some c) : l.drop q = c :: x :: l.drop (q + 2) := by rw [drop_at hc,drop_at hx]
theorem drop2_end (hc : l[q]? = some c) (h : l.length ≤ q + 1) : l.drop q = [c] ∧ l.drop (q + 2) = [] := by
 refine ⟨?_,List.drop_of_length_le (by omega)⟩
 rw [drop_at hc,List.drop_of_length_le h]
theorem sg_esc_in {x : UInt8} (hc : l[q]? = some c) (h : c = 92) (hx : l[q + 1]? = some x) : signGo d true o (l.drop q) = signGo d true (o ++ [c] ++ [x]) (l.drop (q + 2)) := by
 rw [drop2_cons hx hc,signGo.eq_def]
 simp [h]
theorem sg_esc_end (hc : l[q]? = some c) (h : c = 92) (hx : l.length ≤ q + 1) : signGo d true o (l.drop q) = signGo d true (o ++ [c]) (l.drop (q + 2)) := by
 rw [(drop2_end hc hx).1,(drop2_end hc hx).2,signGo.eq_def]
 simp [h]
theorem sg_esc_out (hc : l[q]? = some c) (h : c = 92) (hd : 0 < d) : signGo d false o (l.drop q) = signGo d false o (l.drop (q + 2)) := by
 by_cases hx : l.length ≤ q + 1
 ·rw [(drop2_end hc hx).1,(drop2_end hc hx).2,signGo.eq_def]
  simp [h,hd]
 ·obtain ⟨x,hx⟩ : ∃ x,l[q + 1]? = some x := ⟨_,List.getElem?_eq_getElem (by omega)⟩
  rw [drop2_cons hx hc,signGo.eq_def]
  simp [h,hd]
theorem sg_in (hc : l[q]? = some c) (h : c ≠ 92) : signGo d true o (l.drop q) = signGo d (c != 34) (o ++ [c]) (l.drop (q + 1)) := by
 rw [drop_at hc,signGo.eq_def]
 simp [h]
theorem sg_open (hc : l[q]? = some c) (h : c = 40) : signGo d false o (l.drop q) = if 9 < d + 1 then .error 5 else signGo (d + 1) false o (l.drop (q + 1)) := by
 rw [drop_at hc,signGo.eq_def]
 simp [h]
theorem sg_close (hc : l[q]? = some c) (h : c = 41) : signGo d false o (l.drop q) = if d = 0 then .error 3 else if d = 1 then signGo 0 false (o ++ [32]) (l.drop (q + 1)) else signGo (d - 1) false o (l.drop (q + 1)) := by
 rw [drop_at hc,signGo.eq_def]
 simp [h]
theorem sg_out (hc : l[q]? = some c) (h2 : c ≠ 40) (h3 : c ≠ 41) : signGo 0 false o (l.drop q) = signGo 0 (c == 34) (o ++ [c]) (l.drop (q + 1)) := by
 rw [drop_at hc,signGo.eq_def]
 simp [h2,h3]
theorem sg_skip (hc : l[q]? = some c) (h1 : c ≠ 92) (h2 : c ≠ 40) (h3 : c ≠ 41) (hd : 0 < d) : signGo d false o (l.drop q) = signGo d false o (l.drop (q + 1)) := by
 rw [drop_at hc,signGo.eq_def]
 simp [h1,h2,h3]
 omega
theorem sg_end {ins : Bool} (h : l.length ≤ q) : signGo d ins o (l.drop q) = if 0 < d ∨ ins = true then .error 3 else .ok o := by
 rw [List.drop_of_length_le h,signGo.eq_def]
end
theorem rbare_any (l : List UInt8) (w : World) (hl : l.length ≤ 1000000) :
  Calls Tryz.prog 56 #[.string (bs l)] w fun e w' => BareOut (bareP l) e ∧ Below w.heap.size w w' := by
 have hpu : ∀ W,Sem.run Tryz.prog (pure #[] : Sem (Array Value)) W = .ok #[] W := fun _ => rfl
 have hst : ∀ a W,Sem.run Tryz.prog (storeCells a []) W = .ok () W := fun _ _ => rfl
 have hB0 : Below w.heap.size w (w.alloc (.cells #[] 5)) := (Below.refl _ _).alloc (Nat.le_refl _) _
 have hown0 := World.ownsRow_made (base := w.heap.size) (e := 5) (size := 1) w #[] 0 (Nat.le_refl _) (by unfold maxLen; omega) rfl
 have H0 := Lib.hid (show bareP l = signGo 0 false [] (l.drop 0) by rw [List.drop_zero,sign_bare])
 obtain ⟨B,hBB⟩ : ∃ B,w.heap.size = B := ⟨_,rfl⟩
 go_enter Tryz.func56,Tryz.ntmps56
 go_wp2_with fail
 clear hpu hst
 go_loopw [4,5,6,7] (fun v s5 s6 i wr => ∃ (q d k : Nat) (ins : Bool) (o : List UInt8),i = .int .i64 q ∧ s5 = .int .i64 d ∧ s6 = .bool ins ∧ q ≤ l.length + 1 ∧ d ≤ 9 ∧ k ≤ q ∧ Hid (bareP l = signGo d ins o (l.drop q)) ∧ wr.ownsRow w.heap.size 5 1 v k (o.map bv) ∧ Below w.heap.size w wr) (fun _ _ _ i _ => l.length + 1 - (intOf i).toNat)
 case atStart => exact ⟨0,0,0,false,[],rfl,rfl,rfl,by omega,by omega,by omega,H0,by first | exact hown0 | simpa [hBB] using hown0,by first | exact hB0 | simpa [hBB] using hB0⟩
 case round =>
  clear H0 hown0 hB0
  obtain ⟨q,d,k,ins,o,rfl,rfl,rfl,hq,hd,hk,he,hown,hB⟩ := hrel
  have hs1 := hB.size
  by_cases hlt : q < l.length
  ·obtain ⟨c,hc⟩ : ∃ c,l[q]? = some c := ⟨_,List.getElem?_eq_getElem hlt⟩
   have hi := str_index (P := Tryz.prog) Tryz.underlying9 hc .i64
   have t92 : ((c.toNat : Int) == 92) = (c == 92) := u8_test c 92 rfl
   have t40 : ((c.toNat : Int) == 40) = (c == 40) := u8_test c 40 rfl
   have t41 : ((c.toNat : Int) == 41) = (c == 41) := u8_test c 41 rfl
   have t34 : ((c.toNat : Int) == 34) = (c == 34) := u8_test c 34 rfl
   have n34 : ((c.toNat : Int) != 34) = (c != 34) := by rw [bne,t34]; rfl
   cases ins with
   | true =>
    by_cases h1 : c = 92
    ·have hb : ((c.toNat : Int) == 92) = true := by rw [t92,h1]; rfl
     by_cases hx : l.length ≤ q + 1
     ·have HST := Lib.hid (he.out.trans (sg_esc_end hc h1 hx))
      have hnl : ¬ (q : Int) + 1 < (l.length : Int) := by omega
      clear t92 t40 t41 t34 n34 hc h1 he
      rcases (by omega : 0 < d ∨ d = 0) with hd0 | rfl
      all_goals
       go_wp2_with (at_builtin; refine wpList_app rfl (.tmp 29) (.tmp 31) _ _ rfl TU8 (hown.alloc (.cells #[bv c] 5)) rfl (Src_rv (news := [bv c]) Tryz.underlying22 rfl (Rv_new wr _ _ _ rfl) (by simp [Value.oneCell',bv]) (by omega)) rfl (by omega) (by simp; omega) ?_; intro v1 y1 own1 gr1 at1; have bb1 := below_app (hB.alloc hs1 (.cells #[bv c] 5)) (hown.alloc _) gr1 (by simp; omega) (Nat.le_refl _); have bb1s := bb1.size)
       go_roundw
       case rel => exact ⟨q + 2,_,k + 1,true,o ++ [c],by go_num,by go_num,rfl,by omega,by omega,by omega,HST,by rw [List.map_append]; exact own1,bb1⟩
       case measure => simp [intOf]; omega
     ·obtain ⟨x,hxx⟩ : ∃ x,l[q + 1]? = some x := ⟨_,List.getElem?_eq_getElem (by omega)⟩
      have hj : ∀ W,(Instr.index 9 (.string (bs l)) (.int .i64 ((q : Int) + 1))).run Tryz.prog W = .ok (.int .u8 (x.toNat : Int)) W := by
       rw [show ((q : Int) + 1) = ((q + 1 : Nat) : Int) by omega]
       exact str_index (P := Tryz.prog) Tryz.underlying9 hxx .i64
      have HST := Lib.hid (he.out.trans (sg_esc_in hc h1 hxx))
      have hnl : (q : Int) + 1 < (l.length : Int) := by omega
      clear t92 t40 t41 t34 n34 hc h1 he hxx
      rcases (by omega : 0 < d ∨ d = 0) with hd0 | rfl
      all_goals
       go_wp2_with (first | (at_builtin; refine wpList_app rfl (.tmp 29) (.tmp 31) _ _ rfl TU8 (hown.alloc (.cells #[bv c] 5)) rfl (Src_rv (news := [bv c]) Tryz.underlying22 rfl (Rv_new wr _ _ _ rfl) (by simp [Value.oneCell',bv]) (by omega)) rfl (by omega) (by simp; omega) ?_; intro v1 y1 own1 gr1 at1; have bb1 := below_app (hB.alloc hs1 (.cells #[bv c] 5)) (hown.alloc _) gr1 (by simp; omega) (Nat.le_refl _); have bb1s := bb1.size) | (at_builtin; refine wpList_app rfl (.tmp 38) (.tmp 43) _ _ rfl TU8 (own1.alloc (.cells #[bv x] 5)) rfl (Src_rv (news := [bv x]) Tryz.underlying22 rfl (Rv_new y1 _ _ _ rfl) (by simp [Value.oneCell',bv]) (by omega)) rfl (by omega) (by simp; omega) ?_; intro v2 y2 own2 gr2 at2; have bb2 := below_app (bb1.alloc bb1s (.cells #[bv x] 5)) (own1.alloc _) gr2 (by simp; omega) (Nat.le_refl _); have bb2s := bb2.size))
       go_roundw
       case rel => exact ⟨q + 2,_,k + 2,true,o ++ [c] ++ [x],by go_num,by go_num,rfl,by omega,by omega,by omega,HST,by rw [List.map_append,List.map_append]; exact own2,bb2⟩
       case measure => simp [intOf]; omega
    ·have hb : ((c.toNat : Int) == 92) = false := by rw [t92]; simp [h1]
     have HST := Lib.hid (he.out.trans (sg_in hc h1))
     clear t92 t40 t41 t34 hc h1 he
     generalize (c != 34) = z at *
     go_wp2_with (at_builtin; refine wpList_app rfl (.tmp 48) (.tmp 50) _ _ rfl TU8 (hown.alloc (.cells #[bv c] 5)) rfl (Src_rv (news := [bv c]) Tryz.underlying22 rfl (Rv_new wr _ _ _ rfl) (by simp [Value.oneCell',bv]) (by omega)) rfl (by omega) (by simp; omega) ?_; intro v1 y1 own1 gr1 at1; have bb1 := below_app (hB.alloc hs1 (.cells #[bv c] 5)) (hown.alloc _) gr1 (by simp; omega) (Nat.le_refl _); have bb1s := bb1.size)
     go_roundw
     case rel => exact ⟨q + 1,d,k + 1,z,o ++ [c],by go_num,rfl,by first | rfl | rw [n34],by omega,hd,by omega,HST,by rw [List.map_append]; exact own1,bb1⟩
     case measure => simp [intOf]; omega
   | false =>
    by_cases h1 : c = 92 ∧ 0 < d
    ·obtain ⟨h1,hd0⟩ := h1
     have hb : ((c.toNat : Int) == 92) = true := by rw [t92,h1]; rfl
     have HST := Lib.hid (he.out.trans (sg_esc_out hc h1 hd0))
     clear t92 t40 t41 t34 n34 hc h1 he
     go_wp2_with fail
     go_roundw
     case rel => exact ⟨q + 2,d,k,false,o,by go_num,rfl,rfl,by omega,hd,by omega,HST,hown,hB⟩
     case measure => simp [intOf]; omega
    ·by_cases h2 : c = 40
     ·have hb : ((c.toNat : Int) == 92) = false := by rw [t92,h2]; rfl
      have hb2 : ((c.toNat : Int) == 40) = true := by rw [t40,h2]; rfl
      have hst := he.out.trans (sg_open hc h2)
      by_cases h9 : 9 < d + 1
      ·rw [if_pos h9] at hst
       have HST := Lib.hid hst
       have hgt : (9 : Int) < (d : Int) + 1 := by omega
       clear t92 t40 t41 t34 n34 hc h1 h2 he hst
       go_wp2_with fail
       go_ret2
       exact ⟨bareOut_err HST.out rfl,hB⟩
      ·rw [if_neg h9] at hst
       have HST := Lib.hid hst
       have hgt : ¬ (9 : Int) < (d : Int) + 1 := by omega
       clear t92 t40 t41 t34 n34 hc h1 h2 he hst
       go_wp2_with fail
       go_roundw
       case rel => exact ⟨q + 1,d + 1,k,false,o,by go_num,by go_num,rfl,by omega,by omega,by omega,HST,hown,hB⟩
       case measure => simp [intOf]; omega
     ·have hb2 : ((c.toNat : Int) == 40) = false := by rw [t40]; simp [h2]
      by_cases h3 : c = 41
      ·have hb : ((c.toNat : Int) == 92) = false := by rw [t92,h3]; rfl
       have hb3 : ((c.toNat : Int) == 41) = true := by rw [t41,h3]; rfl
       have hst := he.out.trans (sg_close hc h3)
       rcases (by omega : d = 0 ∨ d = 1 ∨ 2 ≤ d) with rfl | rfl | h9
       ·have HST := Lib.hid (show bareP l = .error 3 from hst)
        clear t92 t40 t41 t34 n34 hc h1 h2 h3 he hst
        go_wp2_with fail
        go_ret2
        exact ⟨bareOut_err HST.out rfl,hB⟩
       ·have HST := Lib.hid (show bareP l = signGo 0 false (o ++ [32]) (l.drop (q + 1)) from hst)
        clear t92 t40 t41 t34 n34 hc h1 h2 h3 he hst
        go_wp2_with (at_builtin; refine wpList_app rfl (.tmp 68) (.tmp 69) _ _ rfl TU8 (hown.alloc (.cells #[bv 32] 5)) rfl (Src_rv (news := [bv 32]) Tryz.underlying22 rfl (Rv_new wr _ _ _ rfl) (by simp [Value.oneCell',bv]) (by omega)) rfl (by omega) (by simp; omega) ?_; intro v1 y1 own1 gr1 at1; have bb1 := below_app (hB.alloc hs1 (.cells #[bv 32] 5)) (hown.alloc _) gr1 (by simp; omega) (Nat.le_refl _); have bb1s := bb1.size)
        go_roundw
        case rel => exact ⟨q + 1,0,k + 1,false,o ++ [32],by go_num,by go_num,rfl,by omega,by omega,by omega,HST,by rw [List.map_append]; exact own1,bb1⟩
        case measure => simp [intOf]; omega
       ·rw [if_neg (by omega),if_neg (by omega)] at hst
        have HST := Lib.hid hst
        have g1 : ¬ (d : Int) - 1 < 0 := by omega
        have g2 : ((d : Int) - 1 == 0) = false := by rw [beq_eq_false_iff_ne]; omega
        clear t92 t40 t41 t34 n34 hc h1 h2 h3 he hst
        go_wp2_with fail
        go_roundw
        case rel => exact ⟨q + 1,d - 1,k,false,o,by go_num,by go_num,rfl,by omega,by omega,by omega,HST,hown,hB⟩
        case measure => simp [intOf]; omega
      ·have hb3 : ((c.toNat : Int) == 41) = false := by rw [t41]; simp [h3]
       rcases (by omega : d = 0 ∨ 0 < d) with rfl | hd0
       ·have HST := Lib.hid (he.out.trans (sg_out hc h2 h3))
        generalize hzz : (c == 34) = z at *
        have e0 : (((0 : Nat) : Int) == 0) = true := rfl
        rcases Bool.eq_false_or_eq_true ((c.toNat : Int) == 92) with hb | hb
        all_goals
         clear t92 t40 t41 n34 hc h1 h2 h3 he hzz
         go_wp2_with (at_builtin; refine wpList_app rfl (.tmp 73) (.tmp 75) _ _ rfl TU8 (hown.alloc (.cells #[bv c] 5)) rfl (Src_rv (news := [bv c]) Tryz.underlying22 rfl (Rv_new wr _ _ _ rfl) (by simp [Value.oneCell',bv]) (by omega)) rfl (by omega) (by simp; omega) ?_; intro v1 y1 own1 gr1 at1; have bb1 := below_app (hB.alloc hs1 (.cells #[bv c] 5)) (hown.alloc _) gr1 (by simp; omega) (Nat.le_refl _); have bb1s := bb1.size)
         go_roundw
         case rel => exact ⟨q + 1,0,k + 1,z,o ++ [c],by go_num,by go_num,by first | rfl | rw [t34],by omega,by omega,by omega,HST,by rw [List.map_append]; exact own1,bb1⟩
         case measure => simp [intOf]; omega
       ·have hcn : c ≠ 92 := fun e => h1 ⟨e,hd0⟩
        have hb : ((c.toNat : Int) == 92) = false := by rw [t92]; simp [hcn]
        have hdn : ((d : Int) == 0) = false := by rw [beq_eq_false_iff_ne]; omega
        have HST := Lib.hid (he.out.trans (sg_skip hc hcn h2 h3 hd0))
        clear t92 t40 t41 t34 n34 hc h1 h2 h3 he hcn
        go_wp2_with fail
        go_roundw
        case rel => exact ⟨q + 1,d,k,false,o,by go_num,rfl,rfl,by omega,hd,by omega,HST,hown,hB⟩
        case measure => simp [intOf]; omega
  ·have hst := he.out.trans (sg_end (by omega))
   cases ins with
   | true =>
    have HST := Lib.hid (show bareP l = .error 3 by rw [hst]; simp)
    clear hst he
    rcases (by omega : d = 0 ∨ 0 < d) with rfl | hd0
    all_goals
     go_wp2_with fail
     go_ret2
     exact ⟨bareOut_err HST.out rfl,hB⟩
   | false =>
    rcases (by omega : d = 0 ∨ 0 < d) with rfl | hd0
    ·have HST := Lib.hid (show bareP l = .ok o by rw [hst]; simp)
     obtain ⟨A,ca,rfl,hca,hcm,hRb,hol⟩ := own_slice hown
     have hcs := conv_str (P := Tryz.prog) (src := 22) (dst := 9) (c := ca) (n := k) Tryz.underlying22 Tryz.underlying5 Tryz.underlying9 hRb hol
     clear hst he hown hRb hol
     go_wp2_with fail
     go_ret2
     exact ⟨bareOut_ok HST.out rfl,hB⟩
    ·have HST := Lib.hid (show bareP l = .error 3 by rw [hst,if_pos (.inl hd0)])
     clear hst he
     go_wp2_with fail
     go_ret2
     exact ⟨bareOut_err HST.out rfl,hB⟩
end Tk
end
section
namespace Tk.W
open Go.RowKit
theorem rlower_any (l : List UInt8) (w : World) (hl : l.length ≤ 140737488351232) :
  Calls Tryz.prog 59 #[.string (bs l)] w fun e w' => e = .returned (.string (bs (l.map small))) ∧ Below w.heap.size w w' := by
 have hpu : ∀ W,Sem.run Tryz.prog (pure #[] : Sem (Array Value)) W = .ok #[] W := fun _ => rfl
 have hst : ∀ a W,Sem.run Tryz.prog (storeCells a []) W = .ok () W := fun _ _ => rfl
 have hB0 : Below w.heap.size w (w.alloc (.cells #[] 5)) := (Below.refl _ _).alloc (Nat.le_refl _) _
 have hown0 := World.ownsRow_made (base := w.heap.size) (e := 5) (size := 1) w #[] 0 (Nat.le_refl _) (by unfold maxLen; omega) rfl
 go_enter Tryz.func59,Tryz.ntmps59
 go_wp2_with fail
 clear hpu hst
 go_loopw [3,4] (fun v i wr => ∃ q : Nat,i = .int .i64 q ∧ q ≤ l.length ∧ wr.ownsRow w.heap.size 5 1 v q (((l.take q).map small).map bv) ∧ Below w.heap.size w wr) (fun _ i _ => l.length - (intOf i).toNat)
 case atStart => exact ⟨0,rfl,by omega,hown0,hB0⟩
 case round =>
  clear hown0 hB0
  obtain ⟨q,rfl,hq,hown,hB⟩ := hrel
  have hs1 := hB.size
  by_cases hlt : q < l.length
  ·obtain ⟨c,hc⟩ : ∃ c,l[q]? = some c := ⟨_,List.getElem?_eq_getElem hlt⟩
   have hi := str_index (P := Tryz.prog) Tryz.underlying9 hc .i64
   have hst : ((l.take (q + 1)).map small).map bv = ((l.take q).map small).map bv ++ [bv (small c)] := by
    rw [take_succ_of hc]
    simp
   by_cases h : 65 ≤ c.toNat ∧ c.toNat ≤ 90
   ·obtain ⟨h1,h2⟩ := h
    have k1 : (65 : Int) ≤ (c.toNat : Int) := by omega
    have k2 : (c.toNat : Int) ≤ 90 := by omega
    have hbv : bv (small c) = .int .u8 ((c.toNat : Int) + 32) := by unfold bv; rw [small_nat,if_pos ⟨h1,h2⟩]; congr 1
    rw [hbv] at hst
    have HST := Lib.hid hst
    clear hst hbv h1 h2 hc
    go_wp2_with (at_builtin; refine wpList_app rfl (.tmp 24) (.tmp 26) _ _ rfl TU8 (hown.alloc (.cells #[.int .u8 ((c.toNat : Int) + 32)] 5)) rfl (Src_rv (news := [.int .u8 ((c.toNat : Int) + 32)]) Tryz.underlying22 rfl (Rv_new wr _ _ _ rfl) (by simp [Value.oneCell',bv]) (by omega)) rfl (by omega) (by simp; omega) ?_; intro v1 y1 own1 gr1 at1; have bb1 := below_app (hB.alloc hs1 (.cells #[.int .u8 ((c.toNat : Int) + 32)] 5)) (hown.alloc _) gr1 (by simp; omega) (Nat.le_refl _); have bb1s := bb1.size)
    go_roundw
    case rel => exact ⟨q + 1,by go_num,by omega,by rw [HST.out]; exact own1,bb1⟩
    case measure => simp [intOf]; omega
   ·have hbv : small c = c := by unfold small; rw [if_neg h]
    rw [hbv] at hst
    have HST := Lib.hid hst
    have k : ¬ (65 : Int) ≤ (c.toNat : Int) ∨ ((65 : Int) ≤ (c.toNat : Int) ∧ ¬ (c.toNat : Int) ≤ 90) := by omega
    clear hst hbv h hc
    rcases k with k1 | ⟨k1,k2⟩
    all_goals
     go_wp2_with (at_builtin; refine wpList_app rfl (.tmp 24) (.tmp 26) _ _ rfl TU8 (hown.alloc (.cells #[bv c] 5)) rfl (Src_rv (news := [bv c]) Tryz.underlying22 rfl (Rv_new wr _ _ _ rfl) (by simp [Value.oneCell',bv]) (by omega)) rfl (by omega) (by simp; omega) ?_; intro v1 y1 own1 gr1 at1; have bb1 := below_app (hB.alloc hs1 (.cells #[bv c] 5)) (hown.alloc _) gr1 (by simp; omega) (Nat.le_refl _); have bb1s := bb1.size)
     go_roundw
     case rel => exact ⟨q + 1,by go_num,by omega,by rw [HST.out]; exact own1,bb1⟩
     case measure => simp [intOf]; omega
  ·obtain rfl : q = l.length := by omega
   rw [List.take_length] at hown
   obtain ⟨A,ca,rfl,hca,hcm,hRb,hol⟩ := own_slice hown
   have hcs := conv_str (P := Tryz.prog) (src := 22) (dst := 9) (c := ca) (n := l.length) Tryz.underlying22 Tryz.underlying5 Tryz.underlying9 hRb hol
   clear hown hRb hol
   go_wp2_with fail
   go_ret
   exact ⟨rfl,hB⟩
theorem loc_split (c : UInt8) : loc' c = (atc c || ([46,47,58,63] : List UInt8).contains c) := rfl
theorem rloose_any (c : UInt8) (w : World) : Calls Tryz.prog 198 #[.int .u8 (c.toNat : Int)] w fun e w' => e = .returned (.bool (loc' c)) ∧ w' = w := by
 have hin : ∀ W,Calls Tryz.prog 172 #[.int .u8 (c.toNat : Int),.string ⟨#[46,47,58,63]⟩] W fun e w' => e = .returned (.bool (([46,47,58,63] : List UInt8).contains c)) ∧ W = w' := fun W => rin_any c [46,47,58,63] W (by decide)
 rw [loc_split]
 generalize ([46,47,58,63] : List UInt8).contains c = z at *
 have hp := rplain_any c
 rcases Bool.eq_false_or_eq_true (atc c) with h | h
 ·rw [h] at hp ⊢
  go_enter Tryz.func198,Tryz.ntmps198
  go_wp2_with fail
  refine (hp _).mono ?_
  rintro e w' ⟨rfl,rfl⟩
  go_wp2_with fail
  go_ret
  exact ⟨ret_bool (by simp),rfl⟩
 ·rw [h] at hp ⊢
  go_enter Tryz.func198,Tryz.ntmps198
  go_wp2_with fail
  refine (hp _).mono ?_
  rintro e w' ⟨rfl,rfl⟩
  go_wp2_with fail
  refine (hin _).mono ?_
  rintro e w' ⟨rfl,rfl⟩
  go_wp2_with fail
  go_ret
  exact ⟨ret_bool (by simp),rfl⟩
theorem rsimple_any (l : List UInt8) (w : World) (hl : l.length ≤ 140737488351232) :
  Calls Tryz.prog 143 #[.string (bs l)] w fun e w' => e = .returned (.bool (onlyB loc' l)) ∧ w' = w := by
 go_enter Tryz.func143,Tryz.ntmps143
 go_wp2_with fail
 go_loopw [3] (fun i wr => ∃ q : Nat,i = .int .i64 q ∧ q ≤ l.length ∧ Hid ((l.take q).all loc' = true) ∧ wr = w) (fun i _ => l.length - (intOf i).toNat)
 case atStart => exact ⟨0,rfl,by omega,Lib.hid (by simp),rfl⟩
 case round =>
  obtain ⟨q,rfl,hq,ha,rfl⟩ := hrel
  by_cases hlt : q < l.length
  ·obtain ⟨c,hc⟩ : ∃ c,l[q]? = some c := ⟨_,List.getElem?_eq_getElem hlt⟩
   have hi := str_index (P := Tryz.prog) Tryz.underlying9 hc .i64
   have hcall := rloose_any c
   rcases Bool.eq_false_or_eq_true (loc' c) with h | h
   ·have hst : (l.take (q + 1)).all loc' = true := by rw [all_take loc' _ hc,ha.out,h]; rfl
    have HST := Lib.hid hst
    rw [h] at hcall
    clear hst h hc
    go_wp2_with fail
    refine (hcall _).mono ?_
    rintro e w' ⟨rfl,rfl⟩
    go_wp2_with fail
    go_roundw
    case rel => exact ⟨q + 1,by go_num,by omega,HST,by first | rfl | trivial⟩
    case measure => simp [intOf]; omega
   ·have HNO := Lib.hid (onlyB_no hc h)
    rw [h] at hcall
    clear h hc
    go_wp2_with fail
    refine (hcall _).mono ?_
    rintro e w' ⟨rfl,rfl⟩
    go_wp2_with fail
    go_ret
    exact ⟨ret_bool HNO.out.symm,by first | rfl | trivial⟩
  ·obtain rfl : q = l.length := by omega
   have hall : onlyB loc' l = decide (0 < l.length) := by
    have := ha.out
    rw [List.take_length] at this
    unfold onlyB
    rw [this,Bool.true_and]
    cases l <;> simp
   have HR := Lib.hid hall
   clear hall
   by_cases h0 : 0 < l.length
   all_goals
    go_wp2_with fail
    go_ret
    exact ⟨ret_bool (by rw [HR.out,Bool.eq_iff_iff]; simp [h0]),by first | rfl | trivial⟩
theorem rvalue_any (l : List UInt8) (w : World) (hl : l.length ≤ 140737488351232) :
  Calls Tryz.prog 141 #[.string (bs l)] w fun e w' => e = .returned (.bool (valB l)) ∧ Dn w w' := by
 go_enter Tryz.func141,Tryz.ntmps141
 go_wp2_with fail
 go_loopw [3] (fun i wr => ∃ q : Nat,i = .int .i64 q ∧ q ≤ l.length ∧ Hid ((l.take q).all sgc = true) ∧ Dn w wr) (fun i _ => l.length - (intOf i).toNat)
 case atStart => exact ⟨0,rfl,by omega,Lib.hid (by simp),Dn.refl _⟩
 case round =>
  obtain ⟨q,rfl,hq,ha,hd⟩ := hrel
  by_cases hlt : q < l.length
  ·obtain ⟨c,hc⟩ : ∃ c,l[q]? = some c := ⟨_,List.getElem?_eq_getElem hlt⟩
   have hi := str_index (P := Tryz.prog) Tryz.underlying9 hc .i64
   by_cases h : sgc c = true
   ·have h1 : ((c.toNat : Int) != 9) = false ∨ (((c.toNat : Int) != 9) = true ∧ ¬ (c.toNat : Int) < 32 ∧ ¬ (126 : Int) < (c.toNat : Int)) := by
     have := (sgc_iff c).1 h
     rw [bne_iff_ne,bne_eq_false_iff_eq]
     omega
    have HST := Lib.hid (show (l.take (q + 1)).all sgc = true by rw [all_take sgc _ hc,ha.out,h]; rfl)
    clear h hc ha
    rcases h1 with h1 | ⟨h1,h2,h3⟩
    all_goals
     go_wp2_with fail
     go_roundw
     case rel => exact ⟨q + 1,by go_num,by omega,HST,hd⟩
     case measure => simp [intOf]; omega
   ·have hno := all_hit sgc hc (by simpa using h)
    have h1 : ((c.toNat : Int) != 9) = true ∧ ((c.toNat : Int) < 32 ∨ (¬ (c.toNat : Int) < 32 ∧ (126 : Int) < (c.toNat : Int))) := by
     rw [sgc_iff] at h
     rw [bne_iff_ne]
     omega
    have HNO := Lib.hid (show valB l = false from hno)
    clear h hno hc
    rcases h1 with ⟨h0,h1 | ⟨h1,h2⟩⟩
    all_goals
     go_wp2_with fail
     go_ret
     exact ⟨ret_bool HNO.out.symm,hd⟩
  ·obtain rfl : q = l.length := by omega
   have HR := Lib.hid (show valB l = true from by have := ha.out; rwa [List.take_length] at this)
   clear ha
   go_wp2_with fail
   go_ret
   exact ⟨ret_bool HR.out.symm,hd⟩
end Tk.W
end
end Go.Proofs.YtkllecicddfjpaaGreatDoor
