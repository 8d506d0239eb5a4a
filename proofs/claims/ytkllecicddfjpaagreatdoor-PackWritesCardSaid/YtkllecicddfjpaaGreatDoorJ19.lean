/- The walk of the law, part 19. -/
import Derived.Test.YtkllecicddfjpaaGreatDoorJ11
import Derived.Test.YtkllecicddfjpaaGreatDoorJ16
import Derived.Test.YtkllecicddfjpaaGreatDoorJ18
import Derived.Test.YtkllecicddfjpaaGreatDoorJ03
import Derived.Test.YtkllecicddfjpaaGreatDoorChecked
import Derived.KernelRfl
set_option maxRecDepth 100000
set_option maxHeartbeats 16000000
set_option linter.unusedVariables false
set_option linter.unusedSimpArgs false
namespace Go.Proofs.YtkllecicddfjpaaGreatDoor
section
open Go.RowKit
abbrev bdN : List UInt8 := [98,111,117,110,100,97,114,121]
def codeN (k : Int) : List UInt8 := if k = 1 then [98,97,115,101,54,52] else [56,98,105,116]
abbrev Mail := List (List UInt8 × List UInt8) × List UInt8
def chkM (m : Mail) : Except Nat Mail := match Fd.writeP m.1 m.2 with | .ok _ => .ok m | .error k => .error k
def mb (m : Mail) : List UInt8 := match Fd.writeP m.1 m.2 with | .ok b => b | .error _ => []
def encB (code : Int) (b : List UInt8) : List UInt8 := if code = 1 then Ar.lin (Ar.enc b) else b
def leafW (kind : List UInt8) (ms : List (List UInt8 × List UInt8)) (code : Int) (body : List UInt8) : Except Nat Mail :=
 if Tk.rightB kind ms then chkM ([(ctN,Tk.writeB kind ms),(cteN,codeN code)],encB code body) else .error 3
def mailsOf : List (Except Nat Mail) → Except Nat (List (List UInt8))
 | [] => .ok []
 | .error k :: _ => .error k
 | .ok m :: r => match mailsOf r with | .ok l => .ok (mb m :: l) | .error k => .error k
def bodyJ (bd : List UInt8) (ls : List (List UInt8)) : List UInt8 := bld bd ls ++ ([45,45] ++ bd ++ [45,45,13,10])
def joinG (bd : List UInt8) : Except Nat (List (List UInt8)) → Except Nat (List UInt8)
 | .error k => .error k
 | .ok l => if (splitS (bodyJ bd l) bd).1 = l then .ok (bodyJ bd l) else .error 3
def joinW (bd : List UInt8) (outs : List (Except Nat Mail)) (deep : Nat) : Except Nat (List UInt8) :=
 if outs = [] ∨ bdOk bd = false then .error 3 else if 8 ≤ deep then .error 5 else joinG bd (mailsOf outs)
def multiW (kind : List UInt8) (ms : List (List UInt8 × List UInt8)) (outs : List (Except Nat Mail)) (deep : Nat) : Except Nat Mail :=
 if Tk.rightB kind ms then match joinW (paramP ms bdN) outs deep with
  | .ok b => chkM ([(ctN,Tk.writeB kind ms)],b)
  | .error k => .error k
 else .error 3
theorem chkM_ok {m x : Mail} (h : chkM m = .ok x) : x = m ∧ Fd.writeP m.1 m.2 = .ok (mb m) := by
 unfold chkM at h
 cases hw : Fd.writeP m.1 m.2 with
 | error k => rw [hw] at h; cases h
 | ok b =>
  rw [hw] at h
  cases h
  exact ⟨rfl,by unfold mb; rw [hw]⟩
theorem mailsOf_step {outs : List (Except Nat Mail)} {k : Nat} {l : List (List UInt8)} (h : mailsOf (outs.take k) = .ok l) {m : Mail} (hm : outs[k]? = some (.ok m)) : mailsOf (outs.take (k + 1)) = .ok (l ++ [mb m]) := by
 induction outs generalizing k l with
 | nil => simp at hm
 | cons o r ih =>
  cases k with
  | zero =>
   simp at hm
   subst hm
   simp [mailsOf] at h
   subst h
   simp [mailsOf]
  | succ k =>
   cases o with
   | error e => simp [mailsOf] at h
   | ok x =>
    rw [List.take_succ_cons,mailsOf] at h ⊢
    cases hr : mailsOf (r.take k) with
    | error e => rw [hr] at h; cases h
    | ok l' =>
     rw [hr] at h
     cases h
     rw [ih hr (by simpa using hm)]
     rfl
theorem mailsOf_stop {outs : List (Except Nat Mail)} {k : Nat} {l : List (List UInt8)} (h : mailsOf (outs.take k) = .ok l) {e : Nat} (hm : outs[k]? = some (.error e)) : mailsOf outs = .error e := by
 induction outs generalizing k l with
 | nil => simp at hm
 | cons o r ih =>
  cases k with
  | zero =>
   simp at hm
   subst hm
   rfl
  | succ k =>
   cases o with
   | error e' => simp [mailsOf] at h
   | ok x =>
    rw [List.take_succ_cons,mailsOf] at h
    cases hr : mailsOf (r.take k) with
    | error e' => rw [hr] at h; cases h
    | ok l' => rw [mailsOf,ih hr (by simpa using hm)]
theorem mailsOf_len {outs : List (Except Nat Mail)} {l : List (List UInt8)} (h : mailsOf outs = .ok l) : l.length = outs.length := by
 induction outs generalizing l with
 | nil => cases h; rfl
 | cons o r ih =>
  cases o with
  | error e => cases h
  | ok x =>
   rw [mailsOf] at h
   cases hr : mailsOf r with
   | error e => rw [hr] at h; cases h
   | ok l' =>
    rw [hr] at h
    cases h
    simp [ih hr]
theorem mailsOf_mem {outs : List (Except Nat Mail)} {l : List (List UInt8)} (h : mailsOf outs = .ok l) : ∀ b ∈ l,∃ m,.ok m ∈ outs ∧ b = mb m := by
 induction outs generalizing l with
 | nil => cases h; simp
 | cons o r ih =>
  cases o with
  | error e => cases h
  | ok x =>
   rw [mailsOf] at h
   cases hr : mailsOf r with
   | error e => rw [hr] at h; cases h
   | ok l' =>
    rw [hr] at h
    cases h
    intro b hb
    rcases List.mem_cons.1 hb with rfl | hb
    ·exact ⟨x,by simp,rfl⟩
    ·obtain ⟨m,h1,h2⟩ := ih hr b hb
     exact ⟨m,by simp [h1],h2⟩
theorem bldJ_snoc (bd : List UInt8) (ps : List (List UInt8)) (p : List UInt8) : bld bd (ps ++ [p]) = bld bd ps ++ ([45,45] ++ bd ++ [13,10]) ++ p ++ [13,10] := bld_snoc bd ps p
theorem bldJ_len (bd : List UInt8) (N : Nat) : ∀ (ps : List (List UInt8)),(∀ p ∈ ps,p.length ≤ N) → (bld bd ps).length ≤ ps.length * (bd.length + (N + 6))
 | [],_ => by simp [bld]
 | q :: r,h => by
  have := bldJ_len bd N r fun p hp => h p (by simp [hp])
  have := h q (by simp)
  rw [bld]
  simp only [List.length_append,List.length_cons,List.length_nil,Nat.add_mul]
  omega
end
section
open Go.RowKit
theorem eg_equal : ∀ args w,(callFunc 127 args).run Tryz.prog w = .ok (.enter 127 args) w := enters_of Tryz.func127 (by kernel_rfl) rfl
theorem list_get_ne {α : Type} {l m : List α} {k : Nat} {x y : α} (h : l[k]? = some x) (h2 : m[k]? = some y) (hne : x ≠ y) : l ≠ m := by
 rintro rfl
 exact hne (Option.some.inj (h.symm.trans h2))
theorem eqf_any (A B : Option Addr) (ls ms : List (List UInt8)) (n m c d : Nat) (w : World) (hn : ls.length = n) (hm : ms.length = m) (hA : RR w A ls) (hB : RR w B ms) (hn2 : n ≤ 1000000) (hm2 : m ≤ 1000000) :
  Calls Tryz.prog 126 #[.slice A n c,.slice B m d,.func (.func 127) #[] #[]] w fun e w' => e = .returned (.bool (decide (ls = ms))) ∧ Below w.heap.size w w' := by
 have HN := Lib.hid hn
 have HM := Lib.hid hm
 clear hn hm
 have eg := eg_equal
 by_cases hl : n = m
 ·subst hl
  have hbb : ((n : Int) != (n : Int)) = false := by simp
  go_enter Tryz.func126,Tryz.ntmps126
  go_wp2_with fail
  go_loopw [7,8,9,17] (fun _ _ _ s17 wr => ∃ k : Nat,s17 = .int .i64 (k : Int) ∧ k ≤ n ∧ Hid (ls.take k = ms.take k) ∧ Below w.heap.size w wr) (fun _ _ _ i _ => n - (intOf i).toNat)
  case atStart => exact ⟨0,rfl,Nat.zero_le _,Lib.hid (by simp),Below.refl _ _⟩
  case round =>
   obtain ⟨k,rfl,hk,ht,hW⟩ := hrel
   by_cases hlt : k < n
   ·obtain ⟨b,o,X,cx,l,rfl,hl,h0,hcx,_,_,_,hX⟩ := (hA.below hW).one (k := k) (by rw [HN.out]; exact hlt)
    obtain ⟨b',o',Y,cy,l',rfl,hl',h0',hcy,_,_,_,hY⟩ := (hB.below hW).one (k := k) (by rw [HM.out]; exact hlt)
    have hcall := Tryz.bytes_Equal_all X Y l.length cx l'.length cy (nums l) (nums l') wr (nums_len l) (nums_len l') (bytesIn_of hX) (bytesIn_of hY)
    rw [bytesOf_nums,bytesOf_nums] at hcall
    by_cases heq : l = l'
    ·have hb : (l == l') = true := by simpa using heq
     rw [hb] at hcall
     have HT := Lib.hid (show ls.take (k + 1) = ms.take (k + 1) by rw [take_succ_of hl.out,take_succ_of hl'.out,ht.out,heq])
     clear ht hl hl' heq hb
     go_wp2_with fail
     refine hcall.mono ?_
     rintro e w2 ⟨rfl,rfl⟩
     go_wp2_with fail
     go_roundw
     case rel => exact ⟨k + 1,by go_num,by omega,HT,hW⟩
     case measure => simp [intOf]; omega
    ·have hb : (l == l') = false := by simpa using heq
     rw [hb] at hcall
     have HT := Lib.hid (show decide (ls = ms) = false from decide_eq_false (list_get_ne hl.out hl'.out heq))
     clear ht hl hl' heq hb
     go_wp2_with fail
     refine hcall.mono ?_
     rintro e w2 ⟨rfl,rfl⟩
     go_wp2_with fail
     go_ret
     exact ⟨ret_bool HT.out.symm,hW⟩
   ·obtain rfl : k = n := by omega
    have HT := Lib.hid (show decide (ls = ms) = true from decide_eq_true (by
     have := ht.out
     rwa [List.take_of_length_le (by rw [HN.out]; omega),List.take_of_length_le (by rw [HM.out]; omega)] at this))
    go_wp2_with fail
    go_ret
    exact ⟨ret_bool HT.out.symm,hW⟩
 ·have hbb : ((n : Int) != (m : Int)) = true := by rw [bne_iff_ne]; omega
  have HT := Lib.hid (show decide (ls = ms) = false from decide_eq_false (by rintro rfl; exact hl (HN.out.symm.trans HM.out)))
  go_enter Tryz.func126,Tryz.ntmps126
  go_wp2_with fail
  go_ret
  exact ⟨ret_bool HT.out.symm,Below.refl _ _⟩
theorem encode_any (k : Value) (v1 v4 : Value) (code : Int) (B : Option Addr) (l : List UInt8) (n c : Nat) (w : World) (hcode : code = 0 ∨ code = 1) (hn : l.length = n) (hB : Rb w B l) (hnc : n ≤ c) (hpl : code = 0 → Pl B c) (hb : n ≤ 100000000) :
  Calls Tryz.prog 67 #[.agg #[k,v1,.int .i64 code,.slice B n c,v4]] w fun e w' => (∃ v,e = .returned v ∧ w'.ownsRow w.heap.size 5 1 v (encB code l).length ((encB code l).map bv)) ∧ Below w.heap.size w w' := by
 have HN := Lib.hid hn
 have hB0 : Below w.heap.size w (w.alloc (.cells #[k,v1,.int .i64 code,.slice B n c,v4] 34)) := (Below.refl _ _).alloc (Nat.le_refl _) _
 rcases hcode with rfl | rfl
 ·have hE : encB 0 l = l := rfl
  rw [hE,hn]
  have hcl := clone_any B l n c (w.alloc (.cells #[k,v1,.int .i64 0,.slice B n c,v4] 34)) hn (hB.below hB0) hnc (hpl rfl) (by omega)
  clear hn hE
  go_enter Tryz.func67,Tryz.ntmps67
  go_wp2_with fail
  refine hcl.mono ?_
  rintro e w1 ⟨⟨v,rfl,hv⟩,hb1⟩
  go_wp2_with fail
  go_ret
  exact ⟨⟨v,rfl,own_base hv hB0.size⟩,hB0.trans (hb1.mono hB0.size)⟩
 ·have hE : encB 1 l = Ar.lin (Ar.enc l) := rfl
  rw [hE]
  have hcl := Ar.lines_any B l n c (w.alloc (.cells #[k,v1,.int .i64 1,.slice B n c,v4] 34)) hn (hB.below hB0) hnc (by omega)
  generalize Ar.lin (Ar.enc l) = el at *
  clear hn hE
  go_enter Tryz.func67,Tryz.ntmps67
  go_wp2_with fail
  refine hcl.mono ?_
  rintro e w1 ⟨⟨v,rfl,hv⟩,hb1⟩
  go_wp2_with fail
  go_ret
  exact ⟨⟨v,rfl,own_base hv hB0.size⟩,hB0.trans (hb1.mono hB0.size)⟩
end
section
open Go.RowKit
def WOut (o : Except Nat Mail) (w' : World) (e : Ending) : Prop := match o with
 | .error k => e = .returned (.tuple #[.agg #[.slice none 0 0,.slice none 0 0],.int .i64 (k : Int)])
 | .ok m => ∃ A c B c2,e = .returned (.tuple #[.agg #[.slice A m.1.length c,.slice B m.2.length c2],.int .i64 0]) ∧ Fd.Rf w' A m.1 ∧ Rb w' B m.2 ∧ m.2.length ≤ c2 ∧ c2 ≤ maxLen ∧ Pl B c2
theorem wout_err {o : Except Nat Mail} {k : Nat} {w' : World} {e : Ending} (h : o = .error k) (he : e = .returned (.tuple #[.agg #[.slice none 0 0,.slice none 0 0],.int .i64 (k : Int)])) : WOut o w' e := by
 rw [h]
 exact he
structure Gm (w : World) : Prop where
 tabs : Lib.Utf8Tabs 2 3 w
 mx : Tk.Mx w
 c0 : w.cell? ⟨0,0,none⟩ = some (.string (bs [56,98,105,116]))
 c1 : w.cell? ⟨0,1,none⟩ = some (.string (bs [98,97,115,101,54,52]))
 c2 : w.cell? ⟨0,2,none⟩ = some (.string (bs [113,117,111,116,101,100,45,112,114,105,110,116,97,98,108,101]))
theorem Gm.below {w w' : World} (h : Gm w) (hb : Below w.heap.size w w') : Gm w' :=
 ⟨tabs_below h.tabs hb,h.mx.below hb,(hb.cell (p := ⟨0,0,none⟩) (cell_lt h.c0)).trans h.c0,(hb.cell (p := ⟨0,1,none⟩) (cell_lt h.c1)).trans h.c1,(hb.cell (p := ⟨0,2,none⟩) (cell_lt h.c2)).trans h.c2⟩
abbrev mulN : List UInt8 := [109,117,108,116,105,112,97,114,116,47]
theorem prefM (kind : List UInt8) : Lib.hasPrefix (bs kind).data.toList (⟨#[109,117,108,116,105,112,97,114,116,47]⟩ : ByteArray).data.toList = Lib.hasPrefix kind mulN := by
 rw [show (bs kind).data.toList = kind from bs_toList kind]
theorem Row.grown {w w' : World} {g : Nat} {e : TypeId} {cs : List Value} {r : Option Nat} (h : Row w g e cs) (hg : w.grownBy w' r) (hne : r ≠ some g) : Row w' g e cs := by
 obtain ⟨_,_,_,_,h5⟩ := hg
 exact h.block (h5 g h.lt (fun e => hne e.symm))
theorem writeB_len (kind : List UInt8) (hk : kind.length ≤ 1000) : ∀ (ms : List (List UInt8 × List UInt8)),(∀ p ∈ ms,p.1.length ≤ 2000000 ∧ p.2.length ≤ 2000000) → (∀ p ∈ ms,Tk.onlyB Tk.loc' p.2 = true) → (Tk.writeB kind ms).length ≤ 1000 + ms.length * 4000010 := by
 have key : ∀ (ms : List (List UInt8 × List UInt8)),(∀ p ∈ ms,p.1.length ≤ 2000000 ∧ p.2.length ≤ 2000000) → (∀ p ∈ ms,Tk.onlyB Tk.loc' p.2 = true) → (ms.flatMap Tk.parW).length ≤ ms.length * 4000010 := by
  intro ms
  induction ms with
  | nil => intro _ _; simp
  | cons p r ih =>
   intro h1 h2
   have h3 := ih (fun q hq => h1 q (by simp [hq])) (fun q hq => h2 q (by simp [hq]))
   obtain ⟨a,b⟩ := h1 p (by simp)
   have hv : Tk.valW p.2 = p.2 := by unfold Tk.valW; rw [if_pos (h2 p (by simp))]
   have e : Tk.parW p = [59,32] ++ p.1 ++ [61] ++ p.2 := by unfold Tk.parW; rw [hv]
   rw [List.flatMap_cons,List.length_append,e]
   simp only [List.length_append,List.length_cons,List.length_nil]
   omega
 intro ms h1 h2
 have := key ms h1 h2
 unfold Tk.writeB
 rw [List.length_append]
 omega
theorem codeN_len (k : Int) : (codeN k).length ≤ 8 := by
 unfold codeN
 split <;> decide
theorem Pl_own {w : World} {base : Nat} {e : TypeId} {size : Nat} {A : Option Addr} {n c : Nat} {xs : List Value} (h : w.ownsRow base e size (.slice A n c) n xs) : Pl A c := by
 obtain ⟨A',c',e',_,_,_,_,h1,h2⟩ := (OwnM.of h).form
 cases e'
 rcases h2 with h2 | ⟨b,h2⟩
 ·exact .inl ⟨h2,h1 h2⟩
 ·exact .inr ⟨b,0,h2⟩
theorem own_rv {w : World} {base : Nat} {e : TypeId} {size : Nat} {A : Option Addr} {n c : Nat} {xs : List Value} (h : w.ownsRow base e size (.slice A n c) n xs) : Rv w A xs ∧ n ≤ c ∧ c ≤ maxLen := by
 obtain ⟨A',c',e',h1,h2,h3,_⟩ := own_form h
 cases e'
 exact ⟨h3,h1,h2⟩
theorem chkM_err {m : Mail} {k : Nat} (h : Fd.writeP m.1 m.2 = .error k) : chkM m = .error k := by unfold chkM; rw [h]
theorem chkM_yes {m : Mail} {b : List UInt8} (h : Fd.writeP m.1 m.2 = .ok b) : chkM m = .ok m := by unfold chkM; rw [h]
theorem lin_len (l : List UInt8) : (Ar.lin l).length ≤ 78 * ((l.length + 75) / 76) := by
 unfold Ar.lin
 rw [List.length_flatMap]
 have : ∀ (N : Nat),((List.range N).map fun j => (Ar.chk l 76 j ++ [13,10]).length).sum ≤ 78 * N := by
  intro N
  induction N with
  | zero => simp
  | succ N ih =>
   rw [List.range_succ,List.map_append,List.sum_append]
   have h3 : (Ar.chk l 76 N).length ≤ 76 := by unfold Ar.chk; simp; omega
   have h4 : (Ar.chk l 76 N ++ [13,10]).length ≤ 78 := by rw [List.length_append,List.length_cons,List.length_cons,List.length_nil]; omega
   simp only [List.map_cons,List.map_nil,List.sum_cons,List.sum_nil]
   omega
 exact this _
theorem encB_bound (code : Int) (l : List UInt8) : (encB code l).length ≤ 78 * (((l.length + 2) / 3 * 4 + 75) / 76) + l.length := by
 unfold encB
 split
 ·have h1 := Ar.enc_length l
  have h2 := lin_len (Ar.enc l)
  rw [h1] at h2
  omega
 ·omega
theorem encB_len (code : Int) (l : List UInt8) (h : l.length ≤ 1000000) : (encB code l).length ≤ 100000000 := by
 have := encB_bound code l
 omega
theorem writeP_err {fs : List (List UInt8 × List UInt8)} {bd : List UInt8} {k : Nat} (h : Fd.writeP fs bd = .error k) : k = 3 ∨ k = 4 := by
 unfold Fd.writeP at h
 split at h
 ·split at h
  ·cases h; exact .inr rfl
  ·cases h
 ·cases h; exact .inl rfl
theorem wleaf_any (kind : List UInt8) (ms : List (List UInt8 × List UInt8)) (A : Option Addr) (n c : Nat) (code : Int) (B : Option Addr) (l : List UInt8) (nb cb : Nat) (C : Option Addr) (cc : Nat) (deep : Int) (w : World) (hG : Gm w)
  (hcode : code = 0 ∨ code = 1) (hk : kind.length ≤ 1000) (hmul : Lib.hasPrefix kind mulN = false) (hn : ms.length = n) (hn2 : n ≤ 20) (hp : ∀ p ∈ ms,p.1.length ≤ 2000000 ∧ p.2.length ≤ 2000000) (hA : Rv w A (Tk.pcells ms)) (hlo : ∀ p ∈ ms,Tk.onlyB Tk.loc' p.2 = true)
  (hl : l.length = nb) (hB : Rb w B l) (hnc : nb ≤ cb) (hpl : code = 0 → Pl B cb) (hb : nb ≤ 1000000) :
  Calls Tryz.prog 31 #[.agg #[.string (bs kind),.slice A n c,.int .i64 code,.slice B nb cb,.slice C 0 cc],.int .i64 deep] w fun e w' => WOut (leafW kind ms code l) w' e ∧ Below w.heap.size w w' := by
 obtain ⟨kc,rfl,hkc⟩ : ∃ k : Nat,code = (k : Int) ∧ k ≤ 1 := by rcases hcode with rfl | rfl; exact ⟨0,rfl,by omega⟩; exact ⟨1,rfl,by omega⟩
 have HCODE := Lib.hid hcode
 have HL := Lib.hid hl
 have HN := Lib.hid hn
 clear hcode
 have hpre := prefM kind
 rw [hmul] at hpre
 have hB00 : Below w.heap.size w (w.alloc (.cells #[.string (bs kind),.slice A n c,.int .i64 (kc : Int),.slice B nb cb,.slice C 0 cc] 34)) := (Below.refl _ _).alloc (Nat.le_refl _) _
 have hB0 : Below w.heap.size w ((w.alloc (.cells #[.string (bs kind),.slice A n c,.int .i64 (kc : Int),.slice B nb cb,.slice C 0 cc] 34)).alloc (.cells #[.slice none 0 0,.slice none 0 0] 39)) := hB00.alloc hB00.size _
 have rp := (Row.new w #[.string (bs kind),.slice A n c,.int .i64 (kc : Int),.slice B nb cb,.slice C 0 cc] 34).below ((Below.refl _ (w.alloc (.cells #[.string (bs kind),.slice A n c,.int .i64 (kc : Int),.slice B nb cb,.slice C 0 cc] 34))).alloc (Nat.le_refl _) (.cells #[.slice none 0 0,.slice none 0 0] 39))
 have rl := Row.new (w.alloc (.cells #[.string (bs kind),.slice A n c,.int .i64 (kc : Int),.slice B nb cb,.slice C 0 cc] 34)) #[.slice none 0 0,.slice none 0 0] 39
 rw [World.size_alloc] at rl
 have hz0 : w.heap.size + 2 ≤ ((w.alloc (.cells #[.string (bs kind),.slice A n c,.int .i64 (kc : Int),.slice B nb cb,.slice C 0 cc] 34)).alloc (.cells #[.slice none 0 0,.slice none 0 0] 39)).heap.size := by simp
 go_enter Tryz.func31,Tryz.ntmps31
 go_wp2_with fail
 generalize ((w.alloc (.cells #[.string (bs kind),.slice A n c,.int .i64 (kc : Int),.slice B nb cb,.slice C 0 cc] 34)).alloc (.cells #[.slice none 0 0,.slice none 0 0] 39)) = W0 at *
 clear hB00 hn hl
 refine (Tk.write_lite kind ms A n c W0 (hG.below hB0).mx hk HN.out hn2 hp (hA.below hB0) hlo).mono ?_
 rintro e w1 ⟨hwo,hb1⟩
 have hB1 := hB0.trans (hb1.mono hB0.size)
 have rp1 := rp.below hb1
 have rl1 := rl.below hb1
 have hz1 : w.heap.size + 2 ≤ w1.heap.size := Nat.le_trans hz0 hb1.size
 clear rp rl hb1 hB0
 have a0 := rl1.cell (j := 0) rfl
 have a1 := rl1.cell (j := 1) rfl
 have f0 := rl1.frozen 0
 have f1 := rl1.frozen 1
 rcases hwo with ⟨hr,rfl⟩ | ⟨hr,rfl⟩
 ·have HE := Lib.hid (show leafW kind ms (kc : Int) l = chkM ([(ctN,Tk.writeB kind ms),(cteN,codeN (kc : Int))],encB (kc : Int) l) by unfold leafW; rw [if_pos hr])
  obtain ⟨wr,hwr⟩ : ∃ x,Tk.writeB kind ms = x := ⟨_,rfl⟩
  have hwl := writeB_len kind hk ms hp hlo
  rw [hwr] at HE hwl ⊢
  rw [HN.out] at hwl
  obtain ⟨eb,heb⟩ : ∃ x,encB (kc : Int) l = x := ⟨_,rfl⟩
  rw [heb] at HE
  have HEB := Lib.hid heb
  obtain ⟨N8,hN8⟩ : ∃ N,eb.length = N := ⟨_,rfl⟩
  have HN8 := Lib.hid hN8
  have hel : N8 ≤ 100000000 := by rw [← hN8,← heb]; exact encB_len (kc : Int) l (by rw [HL.out]; exact hb)
  clear hr hwr heb hN8
  have hBx : Below w1.heap.size w1 (w1.alloc (.cells #[.string ⟨#[67,111,110,116,101,110,116,45,84,121,112,101]⟩,.string (bs wr)] 73)) := (Below.refl _ _).alloc (Nat.le_refl _) _
  have fx := (rl1.below hBx).frozen 0
  have hk0 := (rp1.below hBx).cell (j := 0) rfl
  have hl0 := (rl1.below hBx).cell (j := 0) rfl
  go_wp2_with fail
  refine (Tryz.strings_HasPrefix _ _ _).mono ?_
  rintro e w' ⟨rfl,hw⟩
  rw [hw,hpre]
  clear hw hk0 fx hl0
  have rpx := (rp1.below hBx).far (a := ⟨w.heap.size + 1,0,none⟩) (by simp) (.slice (some ⟨w1.heap.size,0,none⟩) 1 1)
  have rlx := (rl1.below hBx).set 0 (.slice (some ⟨w1.heap.size,0,none⟩) 1 1)
  have hox : ((w1.alloc (.cells #[Fd.strv ctN,Fd.strv wr] 73)).setCell ⟨w.heap.size + 1,0,none⟩ (.slice (some ⟨w1.heap.size,0,none⟩) 1 1)).ownsRow (w.heap.size + 2) 73 2 (.slice (some ⟨w1.heap.size,0,none⟩) 1 1) 1 [Fd.strv ctN,Fd.strv wr] :=
   ownsRow_setCell_below (World.ownsRow_lit w1 #[Fd.strv ctN,Fd.strv wr] 1 hz1 (by unfold maxLen; omega) rfl) (by simp) _
  have hBy : Below w.heap.size w ((w1.alloc (.cells #[Fd.strv ctN,Fd.strv wr] 73)).setCell ⟨w.heap.size + 1,0,none⟩ (.slice (some ⟨w1.heap.size,0,none⟩) 1 1)) := (hB1.alloc hB1.size _).setCell (by simp) _
  have hzy : w.heap.size + 3 ≤ ((w1.alloc (.cells #[Fd.strv ctN,Fd.strv wr] 73)).setCell ⟨w.heap.size + 1,0,none⟩ (.slice (some ⟨w1.heap.size,0,none⟩) 1 1)).heap.size := by simp; omega
  obtain ⟨W2,hW2⟩ : ∃ W,((w1.alloc (.cells #[Fd.strv ctN,Fd.strv wr] 73)).setCell ⟨w.heap.size + 1,0,none⟩ (.slice (some ⟨w1.heap.size,0,none⟩) 1 1)) = W := ⟨_,rfl⟩
  have hW2' : ((w1.alloc (.cells #[.string ⟨#[67,111,110,116,101,110,116,45,84,121,112,101]⟩,.string (bs wr)] 73)).setCell ⟨w.heap.size + 1,0,none⟩ (.slice (some ⟨w1.heap.size,0,none⟩) 1 1)) = W2 := hW2
  rw [hW2'] at rpx rlx ⊢
  rw [hW2] at hox hBy hzy
  clear hW2 hW2' hBx rp1 rl1 a0 a1 f0 f1
  have q0 := rpx.cell (j := 0) rfl
  have q1 := rpx.cell (j := 1) rfl
  have q2 := rpx.cell (j := 2) rfl
  have q3 := rpx.cell (j := 3) rfl
  have q4 := rpx.cell (j := 4) rfl
  have l0 := rlx.cell (j := 0) rfl
  have l1 := rlx.cell (j := 1) rfl
  have lf0 := rlx.frozen 0
  have hG2 := hG.below hBy
  have hal0 : Below W2.heap.size W2 (W2.alloc (.cells #[Fd.strv cteN,Fd.strv (codeN (kc : Int))] 73)) := (Below.refl _ _).alloc (Nat.le_refl _) _
  have gk : W2.cell? ⟨0,kc,none⟩ = some (Fd.strv (codeN (kc : Int))) := by
   rcases (by omega : kc = 0 ∨ kc = 1) with h | h
   ·subst h; exact hG2.c0
   ·subst h; exact hG2.c1
  have hgk : 0 < W2.heap.size := cell_lt gk
  have t1 : ¬ ((kc : Int) < 0) := by omega
  have t2 : ¬ (3 ≤ (kc : Int)) := by omega
  have t3 : kc < 3 := by omega
  have gka := (hal0.cell (p := ⟨0,kc,none⟩) hgk).trans gk
  have hal : Below W2.heap.size W2 (W2.alloc (.cells #[Fd.strv cteN,Fd.strv (codeN (kc : Int))] 73)) := (Below.refl _ _).alloc (Nat.le_refl _) _
  have hown5 : (W2.alloc (.cells #[Fd.strv cteN,Fd.strv (codeN (kc : Int))] 73)).drew.ownsRow (w.heap.size + 2) 73 2 (.slice (some ⟨w1.heap.size,0,none⟩) 1 1) 1 [Fd.strv ctN,Fd.strv wr] := hox.alloc _
  have hsrc5 : Src Tryz.prog 2 37 (.slice (some ⟨W2.heap.size,0,none⟩) 1 1) 1 [Fd.strv cteN,Fd.strv (codeN (kc : Int))] (W2.alloc (.cells #[Fd.strv cteN,Fd.strv (codeN (kc : Int))] 73)).drew := Src_rv (news := [Fd.strv cteN,Fd.strv (codeN (kc : Int))]) Tryz.underlying37 rfl (Rv_new W2 _ _ _ rfl) (by simp [Value.oneCell',Fd.strv]) (by omega)
  have hsz5 : w.heap.size + 2 ≤ (W2.alloc (.cells #[Fd.strv cteN,Fd.strv (codeN (kc : Int))] 73)).drew.heap.size := by simp; omega
  have hsz6 : w.heap.size + 3 ≤ (W2.alloc (.cells #[Fd.strv cteN,Fd.strv (codeN (kc : Int))] 73)).drew.heap.size := by simp; omega
  have m0 := (rlx.below hal).cell (j := 0) rfl
  have mf0 := (rlx.below hal).frozen 0
  have HOWN := Lib.hid hown5
  have HSRC := Lib.hid hsrc5
  have hlW2 : w.heap.size + 1 < W2.heap.size := by omega
  have rpy := (rpx.below hal)
  have rly := (rlx.below hal)
  have hBz := hBy.trans (hal.mono hBy.size)
  clear hown5 hsrc5 hal hox
  have hne1 : (Value.slice (some ⟨w1.heap.size,0,none⟩) 1 1).ownBlock ≠ some (w.heap.size + 1) := by simp [Value.ownBlock]; omega
  have hne2 : (Value.slice (some ⟨w1.heap.size,0,none⟩) 1 1).ownBlock ≠ some w.heap.size := by simp [Value.ownBlock]; omega
  generalize hcn : codeN (kc : Int) = cn at *
  have HCN := Lib.hid hcn
  clear hcn
  simp only [Fd.strv] at gk gka
  go_wp2_with fail
  go_region_law (refine step_app rfl (.tmp 24) (.tmp 30) _ _ rfl Fd.TField HOWN.out (by simp [Act.eval,Act.put]) HSRC.out (by simp [Act.eval,Act.put,Fd.strv]) (by omega) hsz5 ?_; intro v6 w6 hown6 hgr6 hat6; have hown7 := hown6; obtain ⟨A6,c6,rfl,_,_,_,_⟩ := own_form hown6; have R6 := Row.grown (w := (W2.alloc (.cells #[Fd.strv cteN,Fd.strv cn] 73)).drew) rly hgr6 hne1; have R6p := Row.grown (w := (W2.alloc (.cells #[Fd.strv cteN,Fd.strv cn] 73)).drew) rpy hgr6 hne2; have k60 := R6.cell (j := 0) rfl; have z60 := R6.frozen 0)
  all_goals
   have R7 := R6.set 0 (.slice A6 2 c6)
   have R7p := R6p.far (a := ⟨w.heap.size + 1,0,none⟩) (by simp) (.slice A6 2 c6)
   have hown8 := ownsRow_setCell_below hown7 (a := ⟨w.heap.size + 1,0,none⟩) (by simp) (.slice A6 2 c6)
   have hB6 : Below w.heap.size w w6 := (hBz.drew).grown hgr6 (by omega) (fun j hj => by have := (HOWN.out.lt j hj).1; omega)
   have hz6 : w.heap.size + 3 ≤ w6.heap.size := Nat.le_trans hsz6 hgr6.size
   have hB7 := hB6.setCell (p := ⟨w.heap.size + 1,0,none⟩) (by simp) (.slice A6 2 c6)
   have hz7 : w.heap.size + 3 ≤ (w6.setCell ⟨w.heap.size + 1,0,none⟩ (.slice A6 2 c6)).heap.size := by simpa using hz6
   obtain ⟨W7,hW7⟩ : ∃ W,w6.setCell ⟨w.heap.size + 1,0,none⟩ (.slice A6 2 c6) = W := ⟨_,rfl⟩
   rw [hW7] at R7 R7p hown8 hB7 hz7 ⊢
   clear hW7 R6 R6p k60 z60 hown7 hgr6 hat6 hB6 hz6 rpy rly HOWN HSRC hsz5 hsz6 m0 mf0 q0 q1 q2 q3 q4 l0 l1 lf0 gk gka t1 t2 t3 hgk hal0 rpx rlx hBz
   have q0 := R7p.cell (j := 0) rfl
   have q1 := R7p.cell (j := 1) rfl
   have q2 := R7p.cell (j := 2) rfl
   have q3 := R7p.cell (j := 3) rfl
   have q4 := R7p.cell (j := 4) rfl
   go_wp2_with fail
   refine (encode_any (.string (bs kind)) (.slice A n c) (.slice C 0 cc) (kc : Int) B l nb cb W7 HCODE.out HL.out (hB.below hB7) hnc hpl (by omega)).mono ?_
   rintro e w8 ⟨⟨v8,rfl,hown9⟩,hb8⟩
   rw [HEB.out] at hown9
   rw [HN8.out] at hown9
   have R8 := R7.below hb8
   have hB8 := hB7.trans (hb8.mono hB7.size)
   have hz8 : w.heap.size + 3 ≤ w8.heap.size := Nat.le_trans hz7 hb8.size
   have hownF := own_below hown8 hb8
   obtain ⟨A8,c8,rfl,h8c,h8m,hR8,h8l⟩ := own_slice hown9
   rw [HN8.out] at h8l
   have hz7b := hz7
   clear R7 R7p hb8 hB7 hz7 hown8 q0 q1 q2 q3 q4
   have k0 := R8.cell (j := 0) rfl
   have k1 := R8.cell (j := 1) rfl
   have kf := R8.frozen 1
   go_wp2_with fail
   have R9 := R8.set 1 (.slice A8 N8 c8)
   have hB9 := hB8.setCell (p := ⟨w.heap.size + 1,1,none⟩) (by simp) (.slice A8 N8 c8)
   have hF9 := ownsRow_setCell_below hownF (a := ⟨w.heap.size + 1,1,none⟩) (by simp) (.slice A8 N8 c8)
   have hE9 := ownsRow_setCell_below (own_base hown9 (Nat.le_trans (by omega : w.heap.size + 2 ≤ w.heap.size + 3) hz7b)) (a := ⟨w.heap.size + 1,1,none⟩) (by simp) (.slice A8 N8 c8)
   obtain ⟨W9,hW9⟩ : ∃ W,w8.setCell ⟨w.heap.size + 1,1,none⟩ (.slice A8 N8 c8) = W := ⟨_,rfl⟩
   rw [hW9] at R9 hB9 hF9 hE9 ⊢
   clear hW9 R8 hB8 hz8 hownF hown9 hR8 k0 k1 kf h8l
   refine (Fd.write_any A6 A8 [(ctN,wr),(cteN,cn)] eb 2 c6 N8 c8 W9 rfl HN8.out (own_rv hF9).1 (own_rv hE9).1 (by
    intro p hp
    have hcl := codeN_len (kc : Int)
    rw [HCN.out] at hcl
    simp only [List.mem_cons,List.mem_nil_iff,or_false] at hp
    rcases hp with rfl | rfl
    ·exact ⟨by simp,by simp only; omega⟩
    ·exact ⟨by simp,by simp only; omega⟩) (by omega) (by omega)).mono ?_
   rintro e w10 ⟨hwm,hb10⟩
   have R10 := R9.below hb10
   have hB10 := hB9.trans (hb10.mono hB9.size)
   have hF10 := own_below hF9 hb10
   have hE10 := own_below hE9 hb10
   clear R9 hb10 hB9 hF9 hE9
   have k0 := R10.cell (j := 0) rfl
   have k1 := R10.cell (j := 1) rfl
   have kf0 := R10.frozen 0
   have kf1 := R10.frozen 1
   cases hwp : Fd.writeP [(ctN,wr),(cteN,cn)] eb with
   | error k =>
    rw [hwp] at hwm
    simp only at hwm
    subst hwm
    have HR := Lib.hid (show leafW kind ms (kc : Int) l = .error k by rw [HE.out]; exact chkM_err hwp)
    have hk0 : ((k : Int) != 0) = true := by rw [bne_iff_ne]; rcases writeP_err hwp with h | h <;> omega
    clear hwp
    go_wp2_with fail
    have rF := (R10.set 0 (.slice none 0 0)).set 1 (.slice none 0 0)
    have hBF := (hB10.setCell (p := ⟨w.heap.size + 1,0,none⟩) (by simp) (.slice none 0 0)).setCell (p := ⟨w.heap.size + 1,1,none⟩) (by simp) (.slice none 0 0)
    have e0 := rF.cell (j := 0) rfl
    have e1 := rF.cell (j := 1) rfl
    exact bodyPost_ret (v := .tuple #[.agg #[.slice none 0 0,.slice none 0 0],.int .i64 (k : Int)]) (by simp [results,Tryz.results31,go_sem,e0,e1]) rfl ⟨wout_err HR.out rfl,hBF⟩
   | ok b =>
    rw [hwp] at hwm
    simp only at hwm
    obtain ⟨v10,rfl,_⟩ := hwm
    have HR := Lib.hid (show leafW kind ms (kc : Int) l = .ok ([(ctN,wr),(cteN,cn)],eb) by rw [HE.out]; exact chkM_yes (m := ([(ctN,wr),(cteN,cn)],eb)) hwp)
    clear hwp
    go_wp2_with fail
    have rF := (R10.set 0 (.slice A6 2 c6)).set 1 (.slice A8 N8 c8)
    have hBF := (hB10.setCell (p := ⟨w.heap.size + 1,0,none⟩) (by simp) (.slice A6 2 c6)).setCell (p := ⟨w.heap.size + 1,1,none⟩) (by simp) (.slice A8 N8 c8)
    have hFF := ownsRow_setCell_below (ownsRow_setCell_below hF10 (a := ⟨w.heap.size + 1,0,none⟩) (by simp) (.slice A6 2 c6)) (a := ⟨w.heap.size + 1,1,none⟩) (by simp) (.slice A8 N8 c8)
    have hEF := ownsRow_setCell_below (ownsRow_setCell_below hE10 (a := ⟨w.heap.size + 1,0,none⟩) (by simp) (.slice A6 2 c6)) (a := ⟨w.heap.size + 1,1,none⟩) (by simp) (.slice A8 N8 c8)
    have e0 := rF.cell (j := 0) rfl
    have e1 := rF.cell (j := 1) rfl
    refine bodyPost_ret (v := .tuple #[.agg #[.slice A6 2 c6,.slice A8 N8 c8],.int .i64 0]) (by simp [results,Tryz.results31,go_sem,e0,e1]) rfl ⟨?_,hBF⟩
    rw [HR.out]
    obtain ⟨g1,g2,g3⟩ := own_rv hEF
    exact ⟨A6,c6,A8,c8,by simp only [HN8.out]; rfl,(own_rv hFF).1,g1,by simp only [HN8.out]; exact g2,g3,Pl_own hEF⟩
 ·have HE := Lib.hid (show leafW kind ms (kc : Int) l = .error 3 by unfold leafW; rw [if_neg (by rw [hr]; simp)])
  clear hr
  go_wp2_with fail
  have rF := (rl1.set 0 (.slice none 0 0)).set 1 (.slice none 0 0)
  have hBF := (hB1.setCell (p := ⟨w.heap.size + 1,0,none⟩) (by simp) (.slice none 0 0)).setCell (p := ⟨w.heap.size + 1,1,none⟩) (by simp) (.slice none 0 0)
  have e0 := rF.cell (j := 0) rfl
  have e1 := rF.cell (j := 1) rfl
  exact bodyPost_ret (v := .tuple #[.agg #[.slice none 0 0,.slice none 0 0],.int .i64 3]) (by simp [results,Tryz.results31,go_sem,e0,e1]) rfl ⟨wout_err HE.out rfl,hBF⟩
end
end Go.Proofs.YtkllecicddfjpaaGreatDoor
