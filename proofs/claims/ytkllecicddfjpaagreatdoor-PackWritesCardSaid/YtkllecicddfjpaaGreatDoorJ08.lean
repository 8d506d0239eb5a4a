/- The walk of the law, part 8. -/
import Derived.Test.YtkllecicddfjpaaGreatDoorJ07
import Derived.WalkMore
import Derived.ScopeJumps
import Derived.Test.YtkllecicddfjpaaGreatDoorJ02
import Derived.Shelf.Strings.SlTrimAscii
set_option maxRecDepth 100000
set_option maxHeartbeats 16000000
set_option linter.unusedVariables false
set_option linter.unusedSimpArgs false
namespace Go.Proofs.YtkllecicddfjpaaGreatDoor
section
namespace Tk
open Go.RowKit
def BareOut (r : Except Nat (List UInt8)) (e : Ending) : Prop := match r with
 | .ok o => e = .returned (.tuple #[.string (bs o),.int .i64 0])
 | .error k => e = .returned (.tuple #[.string (bs []),.int .i64 k])
theorem bareOut_ok {r : Except Nat (List UInt8)} {o : List UInt8} {e : Ending} (h : r = .ok o) (he : e = .returned (.tuple #[.string (bs o),.int .i64 0])) : BareOut r e := by rw [h]; exact he
theorem bareOut_err {r : Except Nat (List UInt8)} {k : Nat} {e : Ending} (h : r = .error k) (he : e = .returned (.tuple #[.string (bs []),.int .i64 k])) : BareOut r e := by rw [h]; exact he
def bareFrom (l o : List UInt8) (q : Nat) : Except Nat (List UInt8) := (bareP (l.drop q)).map fun p => o ++ p
theorem bareFrom_0 (l : List UInt8) : bareP l = bareFrom l [] 0 := by
 unfold bareFrom
 rw [List.drop_zero]
 cases bareP l <;> simp [Except.map]
theorem bareFrom_out {l o : List UInt8} {q : Nat} (h : l.length ≤ q) : bareFrom l o q = .ok o := by
 unfold bareFrom
 rw [List.drop_of_length_le h]
 simp [bareP,bareN,Except.map]
theorem map_map' (r : Except Nat (List UInt8)) (a b : List UInt8) : (r.map fun p => b ++ p).map (fun p => a ++ p) = r.map fun p => (a ++ b) ++ p := by cases r <;> simp [Except.map]
theorem bareFrom_err {l o : List UInt8} {q : Nat} {c : UInt8} {k : Nat} (h : l[q]? = some c) (hc : c = 40) (hk : comAt (l.drop q) 0 0 = .error k) : bareFrom l o q = .error k := by
 unfold bareFrom
 rw [drop_at h,bareP_cons,if_pos hc]
 unfold comAt at hk
 rw [List.drop_zero,drop_at h,cmtGo.eq_def] at hk
 simp only at hk
 rw [if_neg (by rw [hc]; decide),if_pos hc,if_neg (by decide)] at hk
 cases hg : cmtGo 1 (l.drop (q + 1)) with
 | ok t => rw [hg] at hk; cases hk
 | error e => rw [hg] at hk; cases hk; rfl
theorem bareFrom_com {l o : List UInt8} {q : Nat} {c : UInt8} {n : Nat} (h : l[q]? = some c) (hc : c = 40) (hk : comAt (l.drop q) 0 0 = .ok n) : bareFrom l o q = bareFrom l (o ++ [32]) (q + n) ∧ 2 ≤ n ∧ q + n ≤ l.length := by
 have hq := lt_of_get h
 unfold bareFrom
 rw [drop_at h,bareP_cons,if_pos hc]
 unfold comAt at hk
 rw [List.drop_zero,List.length_drop,drop_at h,cmtGo.eq_def] at hk
 simp only at hk
 rw [if_neg (by rw [hc]; decide),if_pos hc,if_neg (by decide)] at hk
 cases hg : cmtGo 1 (l.drop (q + 1)) with
 | error e => rw [hg] at hk; cases hk
 | ok t =>
  rw [hg] at hk
  simp only at hk
  have hlen := cmtGo_len _ _ _ _ (Nat.le_refl _) hg
  obtain ⟨u,hu⟩ := cmtGo_suf _ _ _ _ (Nat.le_refl _) hg
  rw [List.length_drop] at hlen
  have hn : l.length - q - t.length = n := by injection hk
  have ht : l.drop (q + n) = t := by
   have e1 : l.drop (q + n) = (l.drop (q + 1)).drop (n - 1) := by rw [List.drop_drop]; congr 1; omega
   have e2 : u.length + t.length = l.length - (q + 1) := by
    have := congrArg List.length hu
    rw [List.length_drop,List.length_append] at this
    omega
   rw [e1,hu,List.drop_left' (by omega)]
  refine ⟨?_,by omega,by omega⟩
  simp only
  rw [ht]
  exact map_map' (bareP t) o [32]
theorem bareFrom_quoNo {l o : List UInt8} {q : Nat} {c : UInt8} (h : l[q]? = some c) (hc : c = 34) (hk : quoAt (l.drop q) 1 = none) : bareFrom l o q = .error 3 := by
 unfold bareFrom
 rw [drop_at h,bareP_cons,if_neg (by rw [hc]; decide),if_pos hc]
 unfold quoAt at hk
 rw [drop_at h] at hk
 simp only [List.drop_succ_cons,List.drop_zero,Option.map_eq_none_iff] at hk
 rw [hk]
 rfl
theorem bareFrom_quo {l o : List UInt8} {q : Nat} {c : UInt8} {n : Nat} (h : l[q]? = some c) (hc : c = 34) (hk : quoAt (l.drop q) 1 = some n) : bareFrom l o q = bareFrom l (o ++ (l.drop q).take n) (q + n) ∧ 2 ≤ n ∧ q + n ≤ l.length := by
 have hq := lt_of_get h
 unfold bareFrom
 unfold quoAt at hk
 rw [drop_at h] at hk ⊢
 simp only [List.drop_succ_cons,List.drop_zero,Option.map_eq_some_iff] at hk
 obtain ⟨⟨a,t⟩,hg,hn⟩ := hk
 simp only at hn
 obtain ⟨hu,ha⟩ := qGo_len _ _ _ _ (Nat.le_refl _) hg
 have e2 : a.length + t.length = l.length - (q + 1) := by
  have := congrArg List.length hu
  rw [List.length_drop,List.length_append] at this
  omega
 have ht : l.drop (q + n) = t := by
  have e1 : l.drop (q + n) = (l.drop (q + 1)).drop (n - 1) := by rw [List.drop_drop]; congr 1; omega
  rw [e1,hu,List.drop_left' (by omega)]
 refine ⟨?_,by omega,by omega⟩
 rw [bareP_cons,if_neg (by rw [hc]; decide),if_pos hc,hg]
 simp only
 rw [ht,← hn,Nat.add_comm 1,List.take_succ_cons,hu,List.take_left' rfl,hc]
 exact map_map' (bareP t) o (34 :: a)
theorem bareFrom_close {l o : List UInt8} {q : Nat} {c : UInt8} (h : l[q]? = some c) (hc : c = 41) : bareFrom l o q = .error 3 := by
 unfold bareFrom
 rw [drop_at h,bareP_cons,if_neg (by rw [hc]; decide),if_neg (by rw [hc]; decide),if_pos hc]
 rfl
theorem bareFrom_more {l o : List UInt8} {q : Nat} {c : UInt8} (h : l[q]? = some c) (h1 : c ≠ 40) (h2 : c ≠ 34) (h3 : c ≠ 41) : bareFrom l o q = bareFrom l (o ++ [c]) (q + 1) := by
 unfold bareFrom
 rw [drop_at h,bareP_cons,if_neg h1,if_neg h2,if_neg h3]
 exact map_map' (bareP (l.drop (q + 1))) o [c]
theorem byteCells_add (o : List UInt8) (c : UInt8) : Lib.byteCells o ++ [.int .u8 (c.toNat : Int)] = Lib.byteCells (o ++ [c]) := by simp [Lib.byteCells]
theorem byteCells_str (o m : List UInt8) : Lib.byteCells o ++ Lib.strCells (bs m) = Lib.byteCells (o ++ m) := by simp [Lib.byteCells,Lib.strCells,bs]
theorem cmtGo_err : ∀ (n : Nat) (l : List UInt8) (d k : Nat),l.length ≤ n → cmtGo d l = .error k → k = 3 ∨ k = 5
 | _,[],_,_,_,h => by
  simp only [cmtGo] at h
  cases h
  exact .inl rfl
 | 0,c :: l,_,_,hl,_ => by simp at hl
 | n + 1,c :: l,d,k,hl,h => by
  simp only [List.length_cons] at hl
  rw [cmtGo.eq_def] at h
  simp only at h
  split at h
  ·split at h
   ·cases h
    exact .inl rfl
   ·exact cmtGo_err n _ d k (by simp at hl; omega) h
  ·split at h
   ·split at h
    ·cases h
     exact .inr rfl
    ·exact cmtGo_err n _ _ k (by omega) h
   ·split at h
    ·split at h
     ·cases h
     ·exact cmtGo_err n _ _ k (by omega) h
    ·exact cmtGo_err n _ _ k (by omega) h
theorem comAt_err {l : List UInt8} {d q k : Nat} (h : comAt l d q = .error k) : k = 3 ∨ k = 5 := by
 unfold comAt at h
 cases hg : cmtGo d (l.drop q) with
 | ok t => rw [hg] at h; cases h
 | error e =>
  rw [hg] at h
  cases h
  exact cmtGo_err _ _ _ _ (Nat.le_refl _) hg
theorem bareP_err : ∀ (n : Nat) (l : List UInt8) (k : Nat),l.length ≤ n → bareP l = .error k → k = 3 ∨ k = 5
 | _,[],_,_,h => by simp [bareP,bareN] at h
 | 0,c :: l,_,hl,_ => by simp at hl
 | n + 1,c :: r,k,hl,h => by
  simp only [List.length_cons] at hl
  have key : ∀ (t : List UInt8) (f : List UInt8 → List UInt8),t.length ≤ n → (bareP t).map f = .error k → k = 3 ∨ k = 5 := fun t f ht hm => by
   cases hb : bareP t with
   | ok p => rw [hb] at hm; cases hm
   | error e =>
    rw [hb] at hm
    cases hm
    exact bareP_err n t k ht hb
  rw [bareP_cons] at h
  split at h
  ·cases hg : cmtGo 1 r with
   | error e =>
    rw [hg] at h
    cases h
    exact cmtGo_err _ _ _ _ (Nat.le_refl _) hg
   | ok t =>
    rw [hg] at h
    have := cmtGo_len _ _ _ _ (Nat.le_refl _) hg
    exact key t _ (by omega) h
  ·split at h
   ·cases hg : qGo r with
    | none =>
     rw [hg] at h
     cases h
     exact .inl rfl
    | some p =>
     obtain ⟨a,t⟩ := p
     rw [hg] at h
     have := (qGo_len _ _ _ _ (Nat.le_refl _) hg).1
     have hl2 : t.length ≤ r.length := by rw [this]; simp
     exact key t _ (by omega) h
   ·split at h
    ·cases h
     exact .inl rfl
    ·exact key r _ (by omega) h
theorem comOut_elim {r : Except Nat Nat} {e : Ending} (h : ComOut r e) : (∃ n,r = .ok n ∧ e = .returned (.tuple #[.int .i64 (n : Int),.int .i64 0])) ∨ ∃ k,r = .error k ∧ e = .returned (.tuple #[.int .i64 0,.int .i64 (k : Int)]) := by
 cases r with
 | ok n => exact .inl ⟨n,rfl,h⟩
 | error k => exact .inr ⟨k,rfl,h⟩
theorem quoOut_elim {r : Option Nat} {e : Ending} (h : QuoOut r e) : (∃ n,r = some n ∧ e = .returned (.tuple #[.int .i64 (n : Int),.bool true])) ∨ (r = none ∧ e = .returned (.tuple #[.int .i64 0,.bool false])) := by
 cases r with
 | some n => exact .inl ⟨n,rfl,h⟩
 | none => exact .inr ⟨rfl,h⟩
theorem wp_scope_jumps_one {P : Program} {a : Act} {w : World} {Q : Exit → Act → World → Prop} {c rest : Code} (k : Nat) (J : Act → World → Prop) (μ : Act → World → Nat) (hf : findLabel c k = some (Code.skip.seq rest))
  (pass : ∀ a w,J a w → rest.wp P (Exit.jump k (fun a' w' => J a' w' ∧ μ a' w' < μ a w) Q) a w)
  (first : (∀ a w,J a w → rest.wp P (Exit.jump k J Q) a w) → c.wp P (Exit.jump k J Q) a w) : (Code.scope c).wp P Q a w :=
 wp_scope_jumps k J μ hf (first fun a w h => Code.wp_mono (fun e a w hq => by cases e <;> first | exact hq | exact ⟨hq.1,hq.2.1⟩) (pass a w h)) fun a w h => wp_seq (wp_skip (pass a w h))
theorem bare_any (l : List UInt8) (w : World) (hl : l.length ≤ 1000000000) :
  Calls Tryz.prog 130 #[.string (bs l)] w fun e w' => BareOut (bareP l) e ∧ Below w.heap.size w w' := by
 obtain ⟨B,hBB⟩ : ∃ B,w.heap.size = B := ⟨_,rfl⟩
 have hfresh := Lib.fresh_isBuilder 216 5 w
 have hal : Below w.heap.size w (w.alloc (.cells #[.pointer none,.slice none 0 0] 216)) := (Below.refl _ _).alloc (Nat.le_refl _) _
 rw [hBB] at hfresh hal ⊢
 go_enter Tryz.func130,Tryz.ntmps130
 go_wp2_with fail
 refine wp_scope_jumps_one 0 (fun a' wr => ∃ (q : Nat) (o : List UInt8) (i5 u2 u3 u6 u7 u8 u9 u10 u11 u12 u13 u14 u15 u16 u17 u18 u19 u20 u21 u22 u23 u24 u25 u26 u27 u28 u29 u30 u31 u32 u33 u34 u35 u36 u37 u38 u39 u40 u41 u42 u43 u44 u45 u46 u47 u48 u49 u50 u51 u52 u53 u54 u55 u56 u57 u58 u59 u60 u61 u62 : Value),a' = { tmps := #[.string (bs l),undef,u2,u3,.pointer (some ⟨B,0,none⟩),i5,u6,u7,u8,u9,u10,u11,u12,u13,u14,u15,u16,u17,u18,u19,u20,u21,u22,u23,u24,u25,u26,u27,u28,u29,u30,u31,u32,u33,u34,u35,u36,u37,u38,u39,u40,u41,u42,u43,u44,u45,u46,u47,u48,u49,u50,u51,u52,u53,u54,u55,u56,u57,u58,u59,u60,u61,u62],defers := [] } ∧
  i5 = .int .i64 q ∧ q ≤ l.length ∧ o.length ≤ q ∧ Hid (bareP l = bareFrom l o q) ∧ Hid (Lib.IsBuilder 216 5 B B (Lib.byteCells o) wr) ∧ Below B w wr) (fun a' _ => l.length - (intOf (a'.tmps.getD 5 undef)).toNat) rfl ?_ ?_
 ·rintro a' w' ⟨p,o,i5,u2,u3,u6,u7,u8,u9,u10,u11,u12,u13,u14,u15,u16,u17,u18,u19,u20,u21,u22,u23,u24,u25,u26,u27,u28,u29,u30,u31,u32,u33,u34,u35,u36,u37,u38,u39,u40,u41,u42,u43,u44,u45,u46,u47,u48,u49,u50,u51,u52,u53,u54,u55,u56,u57,u58,u59,u60,u61,u62,rfl,rfl,hp,ho,he,hbu,hB⟩
  have HBB := Lib.hid hBB
  clear hfresh hal hBB
  go_wp2_with fail
  go_loopw [5] (fun i wr => ∃ (q : Nat) (o : List UInt8),i = .int .i64 q ∧ p ≤ q ∧ q ≤ l.length ∧ o.length ≤ q ∧ Hid (bareP l = bareFrom l o q) ∧ Hid (Lib.IsBuilder 216 5 B B (Lib.byteCells o) wr) ∧ Below B w wr) (fun i _ => l.length - (intOf i).toNat)
  case atStart => exact ⟨p,o,rfl,by omega,hp,ho,he,hbu,hB⟩
  case round =>
   clear he hbu hB ho
   obtain ⟨q,o,rfl,hpq,hq,ho,he,hbu,hB⟩ := hrel
   have hs : B ≤ wr.heap.size := by rw [← HBB.out]; exact hB.size
   have f0 : (0 : Int) ≤ (q : Int) := by omega
   have f1 : (q : Int) ≤ (l.length : Int) := by omega
   by_cases hlt : q < l.length
   ·obtain ⟨c,hc⟩ : ∃ c,l[q]? = some c := ⟨_,List.getElem?_eq_getElem hlt⟩
    have hi := str_index (P := Tryz.prog) Tryz.underlying9 hc .i64
    have htk : (l.drop q).take (l.length - q) = l.drop q := List.take_of_length_le (by rw [List.length_drop]; omega)
    have t40 : ((c.toNat : Int) == 40) = (c == 40) := u8_test c 40 rfl
    have t34 : ((c.toNat : Int) == 34) = (c == 34) := u8_test c 34 rfl
    have t41 : ((c.toNat : Int) == 41) = (c == 41) := u8_test c 41 rfl
    by_cases h1 : c = 40
    ·have hb : ((c.toNat : Int) == 40) = true := by rw [t40,h1]; rfl
     have hd0 : (l.drop q)[0]? = some 40 := by rw [List.getElem?_drop,Nat.add_zero,hc,h1]
     have hcall := fun W => comment_any (l.drop q) W (by rw [List.length_drop]; omega) hd0
     have kerr : ∀ k,comAt (l.drop q) 0 0 = .error k → Hid (bareP l = .error k) ∧ ((k : Int) != 0) = true := fun k hk => ⟨Lib.hid (he.out.trans (bareFrom_err hc h1 hk)),by have := comAt_err hk; rw [bne_iff_ne]; omega⟩
     have kok : ∀ n,comAt (l.drop q) 0 0 = .ok n → Hid (bareP l = bareFrom l (o ++ [32]) (q + n)) ∧ 2 ≤ n ∧ q + n ≤ l.length := fun n hk => by
      obtain ⟨e1,e2,e3⟩ := bareFrom_com (o := o) hc h1 hk
      exact ⟨Lib.hid (he.out.trans e1),e2,e3⟩
     generalize comAt (l.drop q) 0 0 = rc at *
     clear t40 t34 t41 hc h1 hd0 he
     go_wp2_with fail
     try simp only [htk]
     refine (hcall _).mono ?_
     rintro e w1 ⟨hco,rfl⟩
     rcases comOut_elim hco with ⟨n,hr,rfl⟩ | ⟨k,hr,rfl⟩
     ·obtain ⟨hst,hn2,hnl⟩ := kok n hr
      clear kerr kok hr hco hcall htk
      go_wp2_with fail
      refine (Tryz.Builder_WriteByte B B (Lib.byteCells o) 32 _ hbu.out (by rw [Lib.byteCells_length]; omega) hs).mono ?_
      rintro e w2 ⟨rfl,hb2,hBw⟩
      have hbu2 := Lib.hid (show Lib.IsBuilder 216 5 B B (Lib.byteCells (o ++ [32])) w2 by rw [← byteCells_add]; exact .inr hb2)
      have hB2 := hB.trans hBw
      clear hb2 hBw hbu
      go_wp2_with fail
      go_step3
      refine ⟨rfl,⟨q + n,o ++ [32],_,_,_,_,_,_,_,_,_,_,_,_,_,_,_,_,_,_,_,_,_,_,_,_,_,_,_,_,_,_,_,_,_,_,_,_,_,_,_,_,_,_,_,_,_,_,_,_,_,_,_,_,_,_,_,_,_,_,_,_,rfl,by go_num,hnl,by simp; omega,hst,hbu2,hB2⟩,?_⟩
      simp [intOf]
      omega
     ·obtain ⟨hst,hne⟩ := kerr k hr
      clear kerr kok hr hco hcall htk
      go_wp2_with fail
      simp only [Exit.jump]
      go_ret2
      exact ⟨bareOut_err hst.out rfl,hB⟩
    ·have hb : ((c.toNat : Int) == 40) = false := by rw [t40]; simp [h1]
     by_cases h2 : c = 34
     ·have hb2 : ((c.toNat : Int) == 34) = true := by rw [t34,h2]; rfl
      have hcall := fun W => quoted_any (l.drop q) W (by rw [List.length_drop]; omega)
      have kno : quoAt (l.drop q) 1 = none → Hid (bareP l = .error 3) := fun hk => Lib.hid (he.out.trans (bareFrom_quoNo hc h2 hk))
      have kok : ∀ n,quoAt (l.drop q) 1 = some n → Hid (bareP l = bareFrom l (o ++ (l.drop q).take n) (q + n)) ∧ 2 ≤ n ∧ q + n ≤ l.length := fun n hk => by
       obtain ⟨e1,e2,e3⟩ := bareFrom_quo (o := o) hc h2 hk
       exact ⟨Lib.hid (he.out.trans e1),e2,e3⟩
      generalize quoAt (l.drop q) 1 = rc at *
      clear t40 t34 t41 hc h1 h2 he
      go_wp2_with fail
      try simp only [htk]
      refine (hcall _).mono ?_
      rintro e w1 ⟨hco,rfl⟩
      rcases quoOut_elim hco with ⟨n,hr,rfl⟩ | ⟨hr,rfl⟩
      ·obtain ⟨hst,hn2,hnl⟩ := kok n hr
       have f2 : (0 : Int) ≤ (q : Int) + (n : Int) := by omega
       have f3 : (q : Int) ≤ (q : Int) + (n : Int) := by omega
       have f4 : (q : Int) + (n : Int) ≤ (l.length : Int) := by omega
       have f5 : IntKind.i64.wrap ((q : Int) + (n : Int)) = (q : Int) + (n : Int) := by rw [IntKind.wrap_i64]; omega
       have htk2 : q + n - q = n := by omega
       have hlen : ((l.drop q).take n).length = n := by rw [List.length_take,List.length_drop]; omega
       have htk3 : ((q : Int) + (n : Int)).toNat = q + n := by omega
       clear kno kok hr hco hcall htk
       generalize hmm : (l.drop q).take n = mm at *
       go_wp2_with fail
       try simp only [htk3,htk2,hmm]
       refine (Tryz.Builder_WriteString B B (Lib.byteCells o) (bs mm) _ hbu.out (by rw [Lib.byteCells_length,bs_size]; omega) hs).mono ?_
       rintro e w2 ⟨rfl,hb2,hBw⟩
       have hbu2 := Lib.hid (show Lib.IsBuilder 216 5 B B (Lib.byteCells (o ++ mm)) w2 by rw [← byteCells_str]; exact .inr hb2)
       have hB2 := hB.trans hBw
       clear hb2 hBw hbu
       go_wp2_with fail
       go_step3
       refine ⟨rfl,⟨q + n,o ++ mm,_,_,_,_,_,_,_,_,_,_,_,_,_,_,_,_,_,_,_,_,_,_,_,_,_,_,_,_,_,_,_,_,_,_,_,_,_,_,_,_,_,_,_,_,_,_,_,_,_,_,_,_,_,_,_,_,_,_,_,_,rfl,by go_num,hnl,by simp; omega,hst,hbu2,hB2⟩,?_⟩
       simp [intOf]
       omega
      ·have hst := kno hr
       clear kno kok hr hco hcall htk
       go_wp2_with fail
       simp only [Exit.jump]
       go_ret2
       exact ⟨bareOut_err hst.out rfl,hB⟩
     ·have hb2 : ((c.toNat : Int) == 34) = false := by rw [t34]; simp [h2]
      by_cases h3 : c = 41
      ·have hb3 : ((c.toNat : Int) == 41) = true := by rw [t41,h3]; rfl
       have hst := Lib.hid (he.out.trans (bareFrom_close hc h3))
       clear t40 t34 t41 hc h1 h2 h3 he htk
       go_wp2_with fail
       simp only [Exit.jump]
       go_ret2
       exact ⟨bareOut_err hst.out rfl,hB⟩
      ·have hb3 : ((c.toNat : Int) == 41) = false := by rw [t41]; simp [h3]
       have hst := Lib.hid (he.out.trans (bareFrom_more hc h1 h2 h3))
       clear t40 t34 t41 hc h1 h2 h3 he htk
       go_wp2_with fail
       refine (Tryz.Builder_WriteByte B B (Lib.byteCells o) (c.toNat : Int) _ hbu.out (by rw [Lib.byteCells_length]; omega) hs).mono ?_
       rintro e w2 ⟨rfl,hb2,hBw⟩
       have hbu2 := Lib.hid (show Lib.IsBuilder 216 5 B B (Lib.byteCells (o ++ [c])) w2 by rw [← byteCells_add]; exact .inr hb2)
       have hB2 := hB.trans hBw
       clear hb2 hBw hbu
       go_wp2_with fail
       go_roundw
       case rel => exact ⟨q + 1,o ++ [c],by go_num,by omega,by omega,by simp; omega,hst,hbu2,hB2⟩
       case measure => simp [intOf]; omega
   ·have hst := Lib.hid (he.out.trans (bareFrom_out (by omega)))
    clear he
    go_wp2_with fail
    refine (Tryz.Builder_String_any B B o _ hbu.out hs).mono ?_
    rintro e w2 ⟨rfl,hBw⟩
    go_wp2_with fail
    simp only [Exit.jump]
    go_ret2
    exact ⟨bareOut_ok hst.out rfl,hB.trans hBw⟩
 ·intro h
  go_wp2_with fail
  go_step3
  rename_i ha
  refine ha _ _ (h _ _ ⟨0,[],.int .i64 0,_,_,_,_,_,_,_,_,_,_,_,_,_,_,_,_,_,_,_,_,_,_,_,_,_,_,_,_,_,_,_,_,_,_,_,_,_,_,_,_,_,_,_,_,_,_,_,_,_,_,_,_,_,_,_,_,_,_,_,rfl,rfl,by omega,by simp,Lib.hid (bareFrom_0 l),Lib.hid hfresh,hal⟩)
end Tk
end
section
namespace Tk
open Go.RowKit
def Mx (w : World) : Prop := ∃ m : Int,w.cell? ⟨1,0,none⟩ = some (.int .i64 m)
theorem Mx.below {w w' : World} (h : Mx w) (hb : Below w.heap.size w w') : Mx w' := by
 obtain ⟨m,hm⟩ := h
 exact ⟨m,(hb.cell (cell_lt hm)).trans hm⟩
def RowM (w : World) (g : Nat) (e : TypeId) (cs : List Value) : Prop := ∃ fz,w.heap[g]? = some (.cells cs.toArray e fz) ∧ offM fz cs.length
section
variable {w w' : World} {g : Nat} {e : TypeId} {cs : List Value}
theorem RowM.cell (h : RowM w g e cs) {j : Nat} {v : Value} (hv : cs[j]? = some v) : w.cell? ⟨g,j,none⟩ = some v := by
 obtain ⟨fz,h,_⟩ := h
 simp only [World.cell?,h]
 simpa using hv
theorem RowM.frozen (h : RowM w g e cs) {j : Nat} (hj : j < cs.length) : w.frozen? ⟨g,j,none⟩ = false := by
 obtain ⟨⟨lo,hi'⟩,h,hfz⟩ := h
 simp only [World.frozen?,h,Bool.and_eq_false_iff,decide_eq_false_iff_not]
 rcases hfz with h | h
 ·right
  simp only at h
  omega
 ·left
  simp only at h
  omega
theorem RowM.set (h : RowM w g e cs) (j : Nat) (v : Value) : RowM (w.setCell ⟨g,j,none⟩ v) g e (cs.set j v) := by
 obtain ⟨fz,h,k⟩ := h
 obtain ⟨hlt,hk⟩ := Array.getElem?_eq_some_iff.1 h
 refine ⟨fz,?_,by simpa using k⟩
 show (w.heap.modify g _)[g]? = _
 rw [Array.getElem?_eq_getElem (by rw [Array.size_modify]; exact hlt),Array.getElem_modify_self,hk]
 simp [Array.setIfInBounds_def]
 exact fun h => (List.set_eq_of_length_le h).symm
theorem RowM.of {n c : Nat} (h : OwnM w g e 1 (.slice (some ⟨g,0,none⟩) n c) n cs) : ∃ r,RowM w g e (cs ++ r) := by
 rcases h.2 with ⟨h,_⟩ | ⟨g',cap,cur,fz,hv,_,hg,hfz,_,_,_,htake⟩
 ·cases h
 ·cases hv
  refine ⟨cur.toList.drop (n * 1),fz,?_,?_⟩
  ·rw [← htake,List.take_append_drop,Array.toArray_toList]
   exact hg
  ·rw [← htake,List.take_append_drop]
   simpa using hfz
end
def lowAt (l : List UInt8) (q : Nat) : List UInt8 := (l.take q).map small ++ l.drop q
theorem lowAt_len (l : List UInt8) (q : Nat) : (lowAt l q).length = l.length := by
 unfold lowAt
 simp
 omega
theorem lowAt_at {l : List UInt8} {q : Nat} {c : UInt8} (h : l[q]? = some c) : (lowAt l q)[q]? = some c := by
 have hq := lt_of_get h
 unfold lowAt
 rw [List.getElem?_append_right (by simp; omega),List.length_map,List.length_take,Nat.min_eq_left (by omega),Nat.sub_self,List.getElem?_drop,Nat.add_zero]
 exact h
theorem lowAt_set {l : List UInt8} {q : Nat} {c : UInt8} (h : l[q]? = some c) : (lowAt l q).set q (small c) = lowAt l (q + 1) := by
 have hq := lt_of_get h
 unfold lowAt
 rw [drop_at h,take_succ_of h,List.map_append]
 have hl : ((l.take q).map small).length = q := by simp; omega
 have := set_at ((l.take q).map small) (l.drop (q + 1)) c (small c)
 rw [hl] at this
 exact this
theorem lowAt_same {l : List UInt8} {q : Nat} {c : UInt8} (h : l[q]? = some c) (hc : small c = c) : lowAt l q = lowAt l (q + 1) := by
 rw [← lowAt_set h,hc]
 obtain ⟨hlt,e⟩ := List.getElem?_eq_some_iff.1 (lowAt_at h)
 have : (lowAt l q).set q c = lowAt l q := by
  conv => lhs; rw [← e]
  exact List.set_getElem_self hlt
 exact this.symm
theorem lowAt_end (l : List UInt8) : lowAt l l.length = l.map small := by simp [lowAt]
theorem row_set_map {l m : List UInt8} {r : List Value} {q : Nat} {x : UInt8} (h : l.set q x = m) (hq : q < l.length) : (l.map bv ++ r).set q (bv x) = m.map bv ++ r := by
 rw [← h,List.set_append_left _ _ (by simpa using hq),List.map_set]
theorem lower_any (l : List UInt8) (w : World) (hl : l.length ≤ 140737488351232) :
  Calls Tryz.prog 119 #[.string (bs l)] w fun e w' => e = .returned (.string (bs (l.map small))) ∧ Below w.heap.size w w' := by
 obtain ⟨c,W,hcv,hown,hB,_⟩ := conv_bs (P := Tryz.prog) (src := 9) (dst := 22) Tryz.underlying9 Tryz.underlying22 Tryz.underlying5 w l (by unfold maxLen; omega)
 obtain ⟨B,hBB⟩ : ∃ B,w.heap.size = B := ⟨_,rfl⟩
 rw [hBB] at hcv hown hB ⊢
 obtain ⟨r,hrow⟩ := RowM.of hown
 obtain ⟨K,hK⟩ : ∃ K,l.length = K := ⟨_,rfl⟩
 have HK := Lib.hid hK
 have HBB := Lib.hid hBB
 rw [hK] at hcv hl
 clear hown hBB hK
 go_enter Tryz.func119,Tryz.ntmps119
 go_wp2_with fail
 go_loopw [10] (fun i wr => ∃ q : Nat,i = .int .i64 q ∧ q ≤ K ∧ Hid (RowM wr B 5 ((lowAt l q).map bv ++ r)) ∧ Below B w wr) (fun i _ => K - (intOf i).toNat)
 case atStart => exact ⟨0,rfl,by omega,Lib.hid hrow,hB⟩
 case round =>
  clear hrow hB hcv
  obtain ⟨q,rfl,hq,hrow,hB⟩ := hrel
  by_cases hlt : q < K
  ·have hlt2 : q < l.length := by rw [HK.out]; exact hlt
   obtain ⟨x,hx⟩ : ∃ x,l[q]? = some x := ⟨_,List.getElem?_eq_getElem hlt2⟩
   have hlen : q < (lowAt l q).length := by rw [lowAt_len]; exact hlt2
   have hcell : wr.cell? ⟨B,q,none⟩ = some (.int .u8 (x.toNat : Int)) := hrow.out.cell (by rw [List.getElem?_append_left (by simpa using hlen),List.getElem?_map,lowAt_at hx]; rfl)
   have hfr : wr.frozen? ⟨B,q,none⟩ = false := hrow.out.frozen (by rw [List.length_append,List.length_map]; omega)
   by_cases h : 65 ≤ x.toNat ∧ x.toNat ≤ 90
   ·obtain ⟨h1,h2⟩ := h
    have k1 : (65 : Int) ≤ (x.toNat : Int) := by omega
    have k2 : (x.toNat : Int) ≤ 90 := by omega
    have hsm : (small x).toNat = x.toNat + 32 := by rw [small_nat,if_pos ⟨h1,h2⟩]
    have hset := hrow.out.set q (bv (small x))
    rw [row_set_map (lowAt_set hx) hlen] at hset
    have hbv : bv (small x) = .int .u8 ((x.toNat : Int) + 97 - 65) := by unfold bv; rw [hsm]; congr 1; omega
    rw [hbv] at hset
    have HSET := Lib.hid hset
    clear hset hbv hsm hx hlen hlt2 h1 h2 hrow
    go_wp2_with fail
    go_roundw
    case rel => exact ⟨q + 1,by go_num,by omega,HSET,hB.setCell (Nat.le_refl _) _⟩
    case measure => simp [intOf]; omega
   ·have hsm : small x = x := by unfold small; rw [if_neg h]
    have hst := hrow.out
    rw [lowAt_same hx hsm] at hst
    have HST := Lib.hid hst
    have k : ¬ (65 : Int) ≤ (x.toNat : Int) ∨ ((65 : Int) ≤ (x.toNat : Int) ∧ ¬ (x.toNat : Int) ≤ 90) := by omega
    clear hst hsm h hx hlen hlt2 hrow
    rcases k with k1 | ⟨k1,k2⟩
    all_goals
     go_wp2_with fail
     go_roundw
     case rel => exact ⟨q + 1,by go_num,by omega,HST,hB⟩
     case measure => simp [intOf]; omega
  ·have hqK : q = l.length := by rw [HK.out]; omega
   have hrow2 := hrow.out
   rw [hqK,lowAt_end] at hrow2
   have hRb : Rb wr (some ⟨B,0,none⟩) (l.map small) := fun _ => ⟨B,0,rfl,fun j v hj => by
    rw [Nat.zero_add]
    exact hrow2.cell (by rw [List.getElem?_append_left (by have := lt_of_get hj; simpa using this)]; exact hj)⟩
   have hcs := fun c => conv_str (P := Tryz.prog) (src := 22) (dst := 9) (c := c) (n := K) Tryz.underlying22 Tryz.underlying5 Tryz.underlying9 hRb (by rw [List.length_map]; exact HK.out)
   clear hRb hrow hrow2 hqK
   go_wp2_with fail
   go_ret
   exact ⟨rfl,hB⟩
theorem trim_any (l : List UInt8) (w : World) (hb : l.length ≤ 140737488351232) :
  Calls Tryz.prog 138 #[.string (bs l),.string ⟨#[32,9]⟩] w fun e w' => e = .returned (.string (bs (trimB l))) ∧ Below w.heap.size w w' := by
 have h := Any.strings_Trim_laid Tryz.lays160 (by kernel_rfl) (bs l) ⟨#[32,9]⟩ w (by rw [bs_size]; omega) (by decide) (ascii_of_all (by decide))
 rw [bs_toList] at h
 exact h
theorem tktrim_any (l : List UInt8) (w : World) (hb : l.length ≤ 140737488351232) :
  Calls Tryz.prog 132 #[.string (bs l)] w fun e w' => e = .returned (.string (bs (trimB l))) ∧ Below w.heap.size w w' := by
 have h := trim_any l
 generalize trimB l = m at *
 go_enter Tryz.func132,Tryz.ntmps132
 go_wp2_with fail
 refine (h _ hb).mono ?_
 rintro e w' ⟨rfl,hb⟩
 go_wp2_with fail
 go_ret
 exact ⟨rfl,hb⟩
def sv (l : List UInt8) : Value := .string (bs l)
theorem idxf_any (p : List UInt8 → Bool) (g : Nat) (eg : ∀ args w,(callFunc g args).run Tryz.prog w = .ok (.enter g args) w) (ps : List (List UInt8)) (hp : ∀ (x : List UInt8) (W : World),x ∈ ps → Calls Tryz.prog g #[.string (bs x)] W fun e w' => e = .returned (.bool (p x)) ∧ Below W.heap.size W w')
  (A : Option Addr) (n c : Nat) (w : World) (hn : ps.length = n) (hb : n ≤ 140737488351232) (hA : Rv w A (ps.map sv)) :
  Calls Tryz.prog 235 #[.slice A n c,.func (.func g) #[] #[]] w fun e w' => (∃ i : Int,e = .returned (.int .i64 i) ∧ decide (0 ≤ i) = ps.any p) ∧ Below w.heap.size w w' := by
 go_enter Tryz.func235,Tryz.ntmps235
 go_wp2_with fail
 go_loopw [8] (fun i wr => ∃ q : Nat,i = .int .i64 q ∧ q ≤ n ∧ Hid ((ps.take q).any p = false) ∧ Below w.heap.size w wr) (fun i _ => n - (intOf i).toNat)
 case atStart => exact ⟨0,rfl,by omega,Lib.hid (by simp),Below.refl _ _⟩
 case round =>
  obtain ⟨q,rfl,hq,ha,hB⟩ := hrel
  by_cases hlt : q < n
  ·have hlt2 : q < ps.length := by omega
   obtain ⟨b,o,v,rfl,hv,hcell⟩ := (hA.below hB).one (k := q) (by simpa using hlt2)
   obtain ⟨x,hx⟩ : ∃ x,ps[q]? = some x := ⟨_,List.getElem?_eq_getElem hlt2⟩
   have hvx : v = .string (bs x) := by
    have := hv.out
    rw [List.getElem?_map,hx] at this
    exact (Option.some.inj this).symm
   subst hvx
   have hcall := hp x wr (List.mem_of_getElem? hx)
   rcases Bool.eq_false_or_eq_true (p x) with h | h
   ·have hyes : ps.any p = true := List.any_eq_true.2 ⟨x,List.mem_of_getElem? hx,h⟩
    have HY := Lib.hid hyes
    rw [h] at hcall
    clear hyes h hp hx hv hA
    go_wp2_with (go_at_fn g; refine hcall.mono ?_; rintro e w' ⟨rfl,hb'⟩)
    go_ret
    exact ⟨⟨_,rfl,by rw [HY.out]; simp⟩,hB.trans (hb'.mono hB.size)⟩
   ·have hst : (ps.take (q + 1)).any p = false := by
     rw [take_succ_of hx,List.any_append,ha.out]
     simp [h]
    have HST := Lib.hid hst
    rw [h] at hcall
    clear hst h hp hx hv
    go_wp2_with (go_at_fn g; refine hcall.mono ?_; rintro e w' ⟨rfl,hb'⟩)
    go_roundw
    case rel => exact ⟨q + 1,by go_num,by omega,HST,hB.trans (hb'.mono hB.size)⟩
    case measure => simp [intOf]; omega
  ·have hno : ps.any p = false := by
    have := ha.out
    rwa [take_all ps (by omega)] at this
   have HN := Lib.hid hno
   clear hno hp hA
   go_wp2_with fail
   go_ret
   exact ⟨⟨_,rfl,by rw [HN.out]; rfl⟩,hB⟩
theorem contf_any (p : List UInt8 → Bool) (g : Nat) (eg : ∀ args w,(callFunc g args).run Tryz.prog w = .ok (.enter g args) w) (ps : List (List UInt8)) (hp : ∀ (x : List UInt8) (W : World),x ∈ ps → Calls Tryz.prog g #[.string (bs x)] W fun e w' => e = .returned (.bool (p x)) ∧ Below W.heap.size W w')
  (A : Option Addr) (n c : Nat) (w : World) (hn : ps.length = n) (hb : n ≤ 140737488351232) (hA : Rv w A (ps.map sv)) :
  Calls Tryz.prog 205 #[.slice A n c,.func (.func g) #[] #[]] w fun e w' => e = .returned (.bool (ps.any p)) ∧ Below w.heap.size w w' := by
 have h := idxf_any p g eg ps hp A n c w hn hb hA
 clear hp hA hn
 generalize ps.any p = r at *
 go_enter Tryz.func205,Tryz.ntmps205
 go_wp2_with fail
 refine h.mono ?_
 rintro e w' ⟨⟨i,rfl,hi⟩,hb⟩
 go_wp2_with fail
 go_ret
 exact ⟨ret_bool (by first | exact hi | rfl),hb⟩
theorem dotted1_any (l : List UInt8) (w : World) (hl : l.length ≤ 140737488351232) :
  Calls Tryz.prog 207 #[.string (bs l)] w fun e w' => e = .returned (.bool (!atomB l)) ∧ Below w.heap.size w w' := by
 have h := atom_any l
 generalize atomB l = r at *
 go_enter Tryz.func207,Tryz.ntmps207
 go_wp2_with fail
 refine (h _ hl).mono ?_
 rintro e w' ⟨rfl,hb⟩
 go_wp2_with fail
 go_ret
 exact ⟨rfl,hb⟩
theorem eg_dotted1 : ∀ args w,(callFunc 207 args).run Tryz.prog w = .ok (.enter 207 args) w := enters_of Tryz.func207 (by kernel_rfl) rfl
theorem split_any (l : List UInt8) (s : UInt8) (w : World) (hw : Mx w) (hl : l.length ≤ 1000000000) :
  Calls Tryz.prog 206 #[.string (bs l),.string ⟨#[s]⟩] w fun e w' => ∃ A c,e = .returned (.slice A (splitP s l).length c) ∧ Rv w' A ((splitP s l).map sv) ∧ Below w.heap.size w w' := by
 obtain ⟨m,hm⟩ := hw
 refine (Tryz.strings_Split (bs l) ⟨#[s]⟩ m w (by rw [bs_size]; omega) hm (Nat.le_refl 1)).mono ?_
 rintro e w' ⟨rfl,rfl⟩
 rw [countB_P,splitB_P]
 exact ⟨_,_,rfl,Rv_new w _ _ _ rfl,(Below.refl _ _).alloc (Nat.le_refl _) _⟩
theorem dotted_any (l : List UInt8) (w : World) (hw : Mx w) (hl : l.length ≤ 1000000) :
  Calls Tryz.prog 155 #[.string (bs l)] w fun e w' => e = .returned (.bool (dotP l)) ∧ Below w.heap.size w w' := by
 have h := split_any l 46 w hw (by omega)
 have hd : (!((splitP 46 l).any fun x => !atomB x)) = dotP l := by
  unfold dotP
  rw [List.all_eq_not_any_not]
 have HD := Lib.hid hd
 have hlen := splitP_len 46 l
 have hmem := splitP_mem 46 l
 have hc := fun A n c W => contf_any (fun x => !atomB x) 207 eg_dotted1 (splitP 46 l) (fun x W hx => dotted1_any x W (by have := hmem x hx; omega)) A n c W
 clear hd hmem
 generalize (splitP 46 l).any (fun x => !atomB x) = r at *
 generalize splitP 46 l = ps at *
 go_enter Tryz.func155,Tryz.ntmps155
 go_wp2_with fail
 refine h.mono ?_
 rintro e w1 ⟨A,c,rfl,hA,hb1⟩
 go_wp2_with fail
 refine (hc _ _ _ _ rfl (by omega) hA).mono ?_
 rintro e w2 ⟨rfl,hb2⟩
 go_wp2_with fail
 go_ret
 exact ⟨ret_bool HD.out,hb1.trans (hb2.mono hb1.size)⟩
end Tk
end
end Go.Proofs.YtkllecicddfjpaaGreatDoor
