/- The walk of the law, part 16. -/
import Derived.Test.YtkllecicddfjpaaGreatDoorChecked
import Derived.Test.YtkllecicddfjpaaGreatDoorJ01
import Derived.Test.YtkllecicddfjpaaGreatDoorJ15
import Derived.Test.YtkllecicddfjpaaGreatDoorJ14
import Derived.Laws.Bits128
import Derived.RangeFuncLeaves
import Derived.RangeFuncNested
import Derived.Shelf.Abstract
import Derived.OwnWalkIn
import Derived.TacticsInMore
import Derived.LoopNIn
import Derived.LoopIn
import Derived.Sort.BigQuietIn
set_option maxRecDepth 100000
set_option maxHeartbeats 16000000
set_option linter.unusedVariables false
set_option linter.unusedSimpArgs false
namespace Go.Proofs.YtkllecicddfjpaaGreatDoor
section
open Go.RowKit
theorem same_any (A B : Option Addr) (xs ys : List UInt8) (n m c d : Nat) (w : World) (hn : xs.length = n) (hm : ys.length = m) (hA : Rb w A xs) (hB : Rb w B ys) (hl : n ≤ 9223372036854775807) :
  Calls Tryz.prog 11 #[.slice A n c,.slice B m d] w fun e w' => e = .returned (.bool (decide (xs = ys))) ∧ Dn w w' := by
 by_cases hnm : n = m
 ·have HN := Lib.hid hn
  have HM := Lib.hid hm
  subst hnm
  clear hn hm
  go_enter Tryz.func11,Tryz.ntmps11
  go_wp2
  go_loopw [5] (fun i wr => ∃ k : Nat,k ≤ n ∧ i = .int .i64 k ∧ xs.take k = ys.take k ∧ ∃ q,wr = w.drewN q) (fun i _ => n - (intOf i).toNat)
  case atStart => exact ⟨0,Nat.zero_le _,rfl,by simp,0,rfl⟩
  case round =>
   obtain ⟨k,hk,rfl,ht,q,rfl⟩ := hrel
   have HT := Lib.hid ht
   clear ht
   by_cases hlt : k < n
   ·obtain ⟨b,o,x,rfl,HX,hxk⟩ := hA.one (k := k) (by rw [HN.out]; omega)
    obtain ⟨b',o',y,rfl,HY,hyk⟩ := hB.one (k := k) (by rw [HM.out]; omega)
    go_wp2_with fail
    go_quiet (fail)
    go_wp2
    ·have h : ((x.toNat : Int) != y.toNat) = true := by assumption
     have hxy : ¬ xs = ys := fun e => by
      subst e
      have := HX.out.symm.trans HY.out
      simp_all
     go_ret
     exact ⟨ret_bool (decide_eq_false hxy).symm,Dn.of2 _ _ _⟩
    ·have h : ((x.toNat : Int) != y.toNat) = false := by assumption
     have he : x = y := u8_eq.1 (by simpa using h)
     go_roundw
     case rel => exact ⟨k + 1,by omega,by go_num,by rw [take_succ_of HX.out,take_succ_of HY.out,HT.out,he],_,rfl⟩
     case measure => simp [intOf]; omega
   ·have hxy : xs = ys := by
     have h := HT.out
     rwa [List.take_of_length_le (by rw [HN.out]; omega),List.take_of_length_le (by rw [HM.out]; omega)] at h
    go_wp2
    go_ret
    exact ⟨ret_bool (decide_eq_true hxy).symm,Dn.of _ _⟩
 ·have hxy : ¬ xs = ys := fun e => by subst e; omega
  clear hn hm
  go_enter Tryz.func11,Tryz.ntmps11
  go_wp2
  go_ret
  exact ⟨ret_bool (decide_eq_false hxy).symm,Dn.refl _⟩
end
section
namespace Fd
open Go.RowKit
def foldAll (fs : List (List UInt8 × List UInt8)) : List UInt8 := fs.flatMap fun p => foldF p.1 p.2
theorem foldAll_snoc (fs : List (List UInt8 × List UInt8)) (p : List UInt8 × List UInt8) : foldAll (fs ++ [p]) = foldAll fs ++ foldF p.1 p.2 := by simp [foldAll]
end Fd
end
section
namespace Fd
open Go.RowKit
def writeP (fs : List (List UInt8 × List UInt8)) (bd : List UInt8) : Except Nat (List UInt8) :=
 if rightF fs then
  if 200 < fs.length ∨ 65536 < (foldAll fs ++ [13,10]).length ∨ 2097152 < bd.length + (foldAll fs ++ [13,10]).length then .error 4 else .ok (foldAll fs ++ [13,10] ++ bd)
 else .error 3
def WriteOut (fs : List (List UInt8 × List UInt8)) (bd : List UInt8) (w : World) (e : Ending) (w' : World) : Prop :=
 (match writeP fs bd with
 | .error x => e = .returned (.tuple #[.slice none 0 0,.int .i64 (x : Int)])
 | .ok l => ∃ v,e = .returned (.tuple #[v,.int .i64 0]) ∧ w'.ownsRow w.heap.size 5 1 v l.length (l.map bv)) ∧ Below w.heap.size w w'
theorem right_no {fs : List (List UInt8 × List UInt8)} {k : Nat} {p : List UInt8 × List UInt8} (hp : fs[k]? = some p) (h : (nmOk p.1 && vlOk p.2) = false) : rightF fs = false := all_hit _ hp h
theorem right_take {fs : List (List UInt8 × List UInt8)} {k : Nat} {p : List UInt8 × List UInt8} (hp : fs[k]? = some p) (h : (nmOk p.1 && vlOk p.2) = true) (hk : rightF (fs.take k) = true) : rightF (fs.take (k + 1)) = true := by
 unfold rightF at *
 rw [all_take _ _ hp,hk,h]
 rfl
theorem write_any (A A2 : Option Addr) (fs : List (List UInt8 × List UInt8)) (bd : List UInt8) (n c n2 c2 : Nat) (w : World) (hn : fs.length = n) (hn2 : bd.length = n2) (hA : Rf w A fs) (hA2 : Rb w A2 bd)
  (hs : ∀ p ∈ fs,p.1.length ≤ 9223372036854775807 ∧ p.2.length ≤ 9223372036854775807) (hb : n ≤ 1000000) (hb2 : n2 ≤ 9223372036854775807) :
  Calls Tryz.prog 27 #[.agg #[.slice A n c,.slice A2 n2 c2]] w (WriteOut fs bd w) := by
 have HN := Lib.hid hn
 have HN2 := Lib.hid hn2
 have HS := Lib.hid hs
 clear hn hn2 hs
 have hB0 : Below w.heap.size w (w.alloc (.cells #[.slice A n c,.slice A2 n2 c2] 39)) := (Below.refl _ _).alloc (Nat.le_refl _) _
 have c00 : (w.alloc (.cells #[.slice A n c,.slice A2 n2 c2] 39)).cell? ⟨w.heap.size,0,none⟩ = some (.slice A n c) := by simp
 have c01 : (w.alloc (.cells #[.slice A n c,.slice A2 n2 c2] 39)).cell? ⟨w.heap.size,1,none⟩ = some (.slice A2 n2 c2) := by simp
 have hW0 : w.heap.size + 1 ≤ (w.alloc (.cells #[.slice A n c,.slice A2 n2 c2] 39)).heap.size := by simp
 go_enter Tryz.func27,Tryz.ntmps27
 go_wp2_with fail
 generalize w.alloc (.cells #[.slice A n c,.slice A2 n2 c2] 39) = W0 at *
 have hs0 := hB0.size
 go_loopw [2,11] (fun x i wr => ∃ k N : Nat,i = .int .i64 k ∧ k ≤ n ∧ N ≤ 24646 * k ∧ Hid (rightF (fs.take k) = true) ∧ wr.ownsRow W0.heap.size 5 1 x N ((foldAll (fs.take k)).map bv) ∧ Below W0.heap.size W0 wr) (fun _ i _ => n - (intOf i).toNat)
 case atStart => exact ⟨0,0,rfl,by omega,by omega,Lib.hid rfl,World.ownsRow_nil _ _ _ _,Below.refl _ _⟩
 case round =>
  obtain ⟨k,N,rfl,hk,hN,hrk,hown,hC⟩ := hrel
  have hB := hB0.trans (hC.mono hs0)
  have hsC := hC.size
  by_cases hlt : k < n
  ·obtain ⟨b,o,p,rfl,hp,g0,g1⟩ := (hA.below hB).one (k := k) (by rw [HN.out]; exact hlt)
   obtain ⟨l1,l2⟩ := HS.out p (List.mem_of_getElem? hp.out)
   have hfl := foldF_len p.1 p.2
   have hst2 : foldAll (fs.take (k + 1)) = foldAll (fs.take k) ++ foldF p.1 p.2 := by rw [take_succ_of hp.out,foldAll_snoc]
   have HST := Lib.hid hst2
   have hrno := Lib.hid (right_no hp.out)
   have hrok := Lib.hid (fun h => right_take hp.out h hrk.out)
   have hAl : Below W0.heap.size W0 (wr.alloc (.cells #[.string (bs p.1),.string (bs p.2)] 73)) := hC.alloc hsC _
   clear hst2
   go_wp2_with fail
   refine (fold_any p.1 p.2 _ l1 l2).mono ?_
   rintro e w5 ⟨hfo,hb5⟩
   have hC5 := hAl.trans (hb5.mono hAl.size)
   have hs5 := hC5.size
   have hB5 := hB0.trans (hC5.mono hs0)
   rcases hfo with ⟨hnm,hvl,x',rfl,hx'⟩ | ⟨hno,rfl⟩
   ·obtain ⟨XA,xc,rfl,hxc,_,hXR,_⟩ := hx'.form
    have hnl := (nmOk_len hnm).2
    have hvll := vlOk_len hvl
    have hown5 := own_below (hown.alloc (.cells #[.string (bs p.1),.string (bs p.2)] 73)) hb5
    have hXRb : Rb w5 XA (foldF p.1 p.2) := hXR
    have HOK := Lib.hid (hrok.out (by rw [hnm,hvl]; rfl))
    clear hrok hrno hrk
    generalize foldF p.1 p.2 = ff at *
    go_wp2_with (at_builtin; refine wpList_app rfl (.tmp 23) (.tmp 24) _ _ rfl TU8 hown5 rfl (Src_rb Tryz.underlying22 rfl hXRb) rfl (by omega) hs5 ?_; intro v6 w6 hown6 hgr6 hat6; have hB6 := below_app hC5 hown5 hgr6 hs5 (Nat.le_refl _))
    go_roundw
    case rel => exact ⟨k + 1,N + ff.length,by go_num,by omega,by omega,HOK,by rw [HST.out,List.map_append]; exact hown6,hB6⟩
    case measure => simp [intOf]; omega
   ·have HNO := Lib.hid (hrno.out hno)
    clear hrok hrno hrk
    go_wp2_with fail
    go_ret2
    exact ⟨by unfold writeP; rw [if_neg (by rw [HNO.out]; simp)]; rfl,hB5⟩
  ·obtain rfl : k = n := by omega
   have hfa : fs.take k = fs := List.take_of_length_le (by rw [HN.out]; omega)
   rw [hfa] at hown hrk
   have HRK := hrk
   clear hfa
   have hcr0 := (hC.cell (p := ⟨w.heap.size,0,none⟩) (cell_lt c00)).trans c00
   have hcr1 := (hC.cell (p := ⟨w.heap.size,1,none⟩) (cell_lt c01)).trans c01
   have hown7 := hown
   have hl : (foldAll fs).length = N := by simpa using hown.1
   have hNN : N ≤ 24646000000 := by omega
   have hwr : writeP fs bd = if 200 < k ∨ 65536 < N + 2 ∨ 2097152 < n2 + (N + 2) then .error 4 else .ok (foldAll fs ++ [13,10] ++ bd) := by
    unfold writeP
    rw [if_pos HRK.out,List.length_append,hl,HN.out,HN2.out]
    rfl
   have HWR := Lib.hid hwr
   have HL := Lib.hid hl
   clear hown hl hwr
   obtain ⟨M,hM⟩ : ∃ M,N + 2 = M := ⟨_,rfl⟩
   have hMM : M ≤ 24646000002 := by omega
   have HM := Lib.hid hM
   have hw2 : ∀ (v : Value) (w6 : World) (xs : List Value),w6.ownsRow W0.heap.size 5 1 v (N + [13,10].length) xs → w6.ownsRow W0.heap.size 5 1 v M xs := fun v w6 xs h => by rw [← hM]; exact h
   clear hM
   by_cases h1 : 200 < k
   ·have HE := Lib.hid (show writeP fs bd = .error 4 by rw [HWR.out,if_pos (.inl h1)])
    clear HM
    go_wp2_with (at_builtin; refine wpList_app rfl (.tmp 27) (.const (.string ⟨#[13,10]⟩)) _ _ rfl TU8 hown7 rfl (Src_str Tryz.underlying9 [13,10]) rfl (by simp; omega) hsC ?_; intro v6 w6 hown60 hgr6 hat6; have hown6 := hw2 _ _ _ hown60; clear hown60; have hC6 := below_app hC hown7 hgr6 hsC (Nat.le_refl _); have d60 := (hC6.cell (p := ⟨w.heap.size,0,none⟩) (cell_lt c00)).trans c00; have d61 := (hC6.cell (p := ⟨w.heap.size,1,none⟩) (cell_lt c01)).trans c01)
    go_ret2
    exact ⟨by rw [HE.out]; rfl,hB0.trans (hC6.mono hs0)⟩
   ·by_cases h2 : 65536 < M
    ·have HE := Lib.hid (show writeP fs bd = .error 4 by rw [HWR.out,if_pos (.inr (.inl (by rw [HM.out]; exact h2)))])
     have h2i : (65536 : Int) < (M : Int) := by omega
     clear h2
     go_wp2_with (at_builtin; refine wpList_app rfl (.tmp 27) (.const (.string ⟨#[13,10]⟩)) _ _ rfl TU8 hown7 rfl (Src_str Tryz.underlying9 [13,10]) rfl (by simp; omega) hsC ?_; intro v6 w6 hown60 hgr6 hat6; have hown6 := hw2 _ _ _ hown60; clear hown60; have hC6 := below_app hC hown7 hgr6 hsC (Nat.le_refl _); have d60 := (hC6.cell (p := ⟨w.heap.size,0,none⟩) (cell_lt c00)).trans c00; have d61 := (hC6.cell (p := ⟨w.heap.size,1,none⟩) (cell_lt c01)).trans c01; have hown9 := hown6; obtain ⟨Z,z,rfl,_,_,_,_⟩ := own_form hown9)
     go_ret2
     exact ⟨by rw [HE.out]; rfl,hB0.trans (hC6.mono hs0)⟩
    ·have h2i : (M : Int) ≤ 65536 := by omega
     by_cases h3 : 2097152 < n2 + M
     ·have HE := Lib.hid (show writeP fs bd = .error 4 by rw [HWR.out,if_pos (.inr (.inr (by rw [HM.out]; exact h3)))])
      have h3i : (2097152 : Int) - (M : Int) < (n2 : Int) := by omega
      clear h2 h3
      go_wp2_with (at_builtin; refine wpList_app rfl (.tmp 27) (.const (.string ⟨#[13,10]⟩)) _ _ rfl TU8 hown7 rfl (Src_str Tryz.underlying9 [13,10]) rfl (by simp; omega) hsC ?_; intro v6 w6 hown60 hgr6 hat6; have hown6 := hw2 _ _ _ hown60; clear hown60; have hC6 := below_app hC hown7 hgr6 hsC (Nat.le_refl _); have d60 := (hC6.cell (p := ⟨w.heap.size,0,none⟩) (cell_lt c00)).trans c00; have d61 := (hC6.cell (p := ⟨w.heap.size,1,none⟩) (cell_lt c01)).trans c01; have hown9 := hown6; obtain ⟨Z,z,rfl,_,_,_,_⟩ := own_form hown9)
      go_ret2
      exact ⟨by rw [HE.out]; rfl,hB0.trans (hC6.mono hs0)⟩
     ·have HE := Lib.hid (show writeP fs bd = .ok (foldAll fs ++ [13,10] ++ bd) by rw [HWR.out,if_neg (by rw [HM.out]; rintro (h | h | h) <;> omega)])
      have h3i : ¬ (2097152 : Int) - (M : Int) < (n2 : Int) := by omega
      have hn2 : n2 ≤ 2097152 := by omega
      clear h2 h3
      go_wp2_with (first
       | (at_builtin; refine wpList_app rfl (.tmp 27) (.const (.string ⟨#[13,10]⟩)) _ _ rfl TU8 hown7 rfl (Src_str Tryz.underlying9 [13,10]) rfl (by simp; omega) hsC ?_; intro v6 w6 hown60 hgr6 hat6; have hown6 := hw2 _ _ _ hown60; clear hown60; have hC6 := below_app hC hown7 hgr6 hsC (Nat.le_refl _); have d60 := (hC6.cell (p := ⟨w.heap.size,0,none⟩) (cell_lt c00)).trans c00; have d61 := (hC6.cell (p := ⟨w.heap.size,1,none⟩) (cell_lt c01)).trans c01; have hown9 := hown6; have hs6 := hC6.size; obtain ⟨Z,z,rfl,_,_,_,_⟩ := own_form hown6)
       | (at_builtin; refine wpList_app rfl (.tmp 47) (.tmp 49) _ _ rfl TU8 hown9 rfl (Src_rb Tryz.underlying22 HN2.out (hA2.below (hB0.trans (hC6.mono hs0)))) rfl (by simp; omega) hs6 ?_; intro v8 w8 hown8 hgr8 hat8; have hC8 := below_app hC6 hown9 hgr8 hs6 (Nat.le_refl _)))
      go_ret2
      refine ⟨?_,hB0.trans (hC8.mono hs0)⟩
      rw [HE.out]
      refine ⟨_,rfl,?_⟩
      have e : (foldAll fs ++ [13,10] ++ bd).length = M + n2 := by rw [← HM.out]; simp only [List.length_append,HL.out,HN2.out]; rfl
      rw [e,List.map_append,List.map_append]
      exact own_base hown8 hs0
end Fd
end
section
namespace Ar
def sval (c : Int) : Int × Bool :=
 if 65 ≤ c ∧ c ≤ 90 then (c - 65,true) else if 97 ≤ c ∧ c ≤ 122 then (c - 97 + 26,true)
 else if 48 ≤ c ∧ c ≤ 57 then (c - 48 + 52,true) else if c = 43 then (62,true) else if c = 47 then (63,true) else (0,false)
def sgs : List UInt8 := [65,66,67,68,69,70,71,72,73,74,75,76,77,78,79,80,81,82,83,84,85,86,87,88,89,90,97,98,99,100,101,102,103,104,105,106,107,108,109,110,111,112,113,114,115,116,117,118,119,120,121,122,48,49,50,51,52,53,54,55,56,57,43,47]
def gnum (ys : List UInt8) : Nat → Nat
 | 0 => 0
 | k + 1 => gnum ys k * 256 + (ys[k]?.getD 0).toNat
def gsign (ys : List UInt8) (i : Nat) : UInt8 := if ys.length < i then 61 else sgs.getD (gnum ys 3 / 2 ^ (18 - 6 * i) % 64) 0
def enc3 (ys : List UInt8) : List UInt8 := if ys = [] then [] else (List.range 4).map (gsign ys)
theorem gnum_lt (ys : List UInt8) (k : Nat) : gnum ys k < 256 ^ k := by
 induction k with
 | zero => simp [gnum]
 | succ k ih => have := (ys[k]?.getD 0).toNat_lt; simp only [gnum,Nat.pow_succ]; omega
theorem gnum_some {ys : List UInt8} {k : Nat} {y : UInt8} (h : ys[k]? = some y) : gnum ys (k + 1) = gnum ys k * 256 + y.toNat := by simp [gnum,h]
theorem gnum_none {ys : List UInt8} {k : Nat} (h : ys[k]? = none) : gnum ys (k + 1) = gnum ys k * 256 := by simp [gnum,h]
def chk (xs : List UInt8) (k j : Nat) : List UInt8 := (xs.drop (j * k)).take k
theorem enc3_length (ys : List UInt8) : (enc3 ys).length ≤ 4 := by unfold enc3; split <;> simp
def enc (xs : List UInt8) : List UInt8 := (List.range ((xs.length + 2) / 3)).flatMap fun j => enc3 (chk xs 3 j)
def psize (l : List UInt8) : Nat := if l[3]? ≠ some 61 then 3 else if l[2]? ≠ some 61 then 2 else if l[1]? ≠ some 61 then 1 else 0
theorem psize_le (l : List UInt8) : psize l ≤ 3 := by unfold psize; repeat (first | split | omega)
theorem psize_eq {l : List UInt8} {k : Nat} (hk : k ≤ 3) (h : ∀ i,k < i → i ≤ 3 → l[i]? = some 61) (h' : k = 0 ∨ l[k]? ≠ some 61) : psize l = k := by
 unfold psize
 rcases (by omega : k = 0 ∨ k = 1 ∨ k = 2 ∨ k = 3) with rfl | rfl | rfl | rfl
 ·simp [h 1 (by omega) (by omega),h 2 (by omega) (by omega),h 3 (by omega) (by omega)]
 ·have h1 := h'.resolve_left (by omega)
  simp [h1,h 2 (by omega) (by omega),h 3 (by omega) (by omega)]
 ·have h1 := h'.resolve_left (by omega)
  simp [h1,h 3 (by omega) (by omega)]
 ·have h1 := h'.resolve_left (by omega)
  simp [h1]
def svn (c : UInt8) : Nat := (sval c.toNat).1.toNat
def sok (c : UInt8) : Bool := (sval c.toNat).2
def vnum (l : List UInt8) : Nat → Nat
 | 0 => 0
 | k + 1 => vnum l k * 64 + svn (l[k]?.getD 0)
theorem sval_bd (c : Int) : 0 ≤ (sval c).1 ∧ (sval c).1 < 64 := by
 unfold sval
 repeat (first | split | (simp only []; omega))
theorem svn_lt (c : UInt8) : svn c < 64 := by have := sval_bd c.toNat; unfold svn; omega
theorem vnum_lt (l : List UInt8) (k : Nat) : vnum l k < 64 ^ k := by
 induction k with
 | zero => simp [vnum]
 | succ k ih => have := svn_lt (l[k]?.getD 0); simp only [vnum,Nat.pow_succ]; omega
def pbytes (l : List UInt8) : List UInt8 := [UInt8.ofNat (vnum l 4 / 65536),UInt8.ofNat (vnum l 4 / 256),UInt8.ofNat (vnum l 4)].take (psize l)
theorem pbytes_length (l : List UInt8) : (pbytes l).length = psize l := by have := psize_le l; simp [pbytes]; omega
theorem sgs_tell : ∀ T,T < 64 → svn (sgs.getD T 0) = T ∧ sok (sgs.getD T 0) = true ∧ sgs.getD T 0 ≠ 61 := by decide
theorem svn_pad : svn 61 = 0 := by decide
theorem enc3_cons (ys : List UInt8) (h : ys ≠ []) : enc3 ys = [gsign ys 0,gsign ys 1,gsign ys 2,gsign ys 3] := by
 rw [enc3,if_neg h]; rfl
theorem part_back (ys : List UInt8) (h1 : 1 ≤ ys.length) (h3 : ys.length ≤ 3) :
  psize (enc3 ys) = ys.length ∧ (∀ i,i ≤ ys.length → i < 4 → sok ((enc3 ys)[i]?.getD 0) = true) ∧ pbytes (enc3 ys) = ys := by
 have hne : ys ≠ [] := by rintro rfl; simp at h1
 rw [enc3_cons ys hne]
 have key : ∀ i,i ≤ ys.length → gsign ys i = sgs.getD (gnum ys 3 / 2 ^ (18 - 6 * i) % 64) 0 := fun i hi => by rw [gsign,if_neg (by omega)]
 have pad : ∀ i,ys.length < i → gsign ys i = 61 := fun i hi => by rw [gsign,if_pos hi]
 have t : ∀ i,svn (sgs.getD (gnum ys 3 / 2 ^ (18 - 6 * i) % 64) 0) = gnum ys 3 / 2 ^ (18 - 6 * i) % 64 ∧ sok (sgs.getD (gnum ys 3 / 2 ^ (18 - 6 * i) % 64) 0) = true ∧ sgs.getD (gnum ys 3 / 2 ^ (18 - 6 * i) % 64) 0 ≠ 61 :=
  fun i => sgs_tell _ (Nat.mod_lt _ (by omega))
 have vn : ∀ p q r u : UInt8,vnum [p,q,r,u] 4 = ((svn p * 64 + svn q) * 64 + svn r) * 64 + svn u := fun p q r u => by simp [vnum]
 have byte : ∀ (x : UInt8) (N : Nat),N % 256 = x.toNat → UInt8.ofNat N = x := fun x N h => by
  apply UInt8.toNat_inj.1
  rw [UInt8.toNat_ofNat']
  exact h
 rcases ys with _ | ⟨a,_ | ⟨b,_ | ⟨c,_ | ⟨d,r⟩⟩⟩⟩
 case nil => simp at hne
 case cons.cons.cons.cons => simp at h3
 case cons.nil =>
  have g : gnum [a] 3 = a.toNat * 65536 := by simp [gnum]; omega
  have ha := a.toNat_lt
  have e0 := key 0 (by simp)
  have e1 := key 1 (by simp)
  have e2 := pad 2 (by simp)
  have e3 := pad 3 (by simp)
  obtain ⟨a0,b0,c0⟩ := t 0
  obtain ⟨a1,b1,c1⟩ := t 1
  rw [← e0] at a0 b0 c0
  rw [← e1] at a1 b1 c1
  rw [e2,e3]
  refine ⟨by simp [psize,c1],fun i hi _ => ?_,?_⟩
  ·simp only [List.length_cons,List.length_nil] at hi
   rcases (by omega : i = 0 ∨ i = 1) with rfl | rfl
   ·simpa using b0
   ·simpa using b1
  ·have hp : psize [gsign [a] 0,gsign [a] 1,61,61] = 1 := by simp [psize,c1]
   rw [pbytes,hp,vn,a0,a1,svn_pad,g]
   simp only [List.take,List.cons.injEq,and_true]
   exact byte _ _ (by omega)
 case cons.cons.nil =>
  have g : gnum [a,b] 3 = (a.toNat * 256 + b.toNat) * 256 := by simp [gnum]
  have ha := a.toNat_lt
  have hb := b.toNat_lt
  have e0 := key 0 (by simp)
  have e1 := key 1 (by simp)
  have e2 := key 2 (by simp)
  have e3 := pad 3 (by simp)
  obtain ⟨a0,b0,c0⟩ := t 0
  obtain ⟨a1,b1,c1⟩ := t 1
  obtain ⟨a2,b2,c2⟩ := t 2
  rw [← e0] at a0 b0 c0
  rw [← e1] at a1 b1 c1
  rw [← e2] at a2 b2 c2
  rw [e3]
  refine ⟨by simp [psize,c2],fun i hi _ => ?_,?_⟩
  ·simp only [List.length_cons,List.length_nil] at hi
   rcases (by omega : i = 0 ∨ i = 1 ∨ i = 2) with rfl | rfl | rfl
   ·simpa using b0
   ·simpa using b1
   ·simpa using b2
  ·have hp : psize [gsign [a,b] 0,gsign [a,b] 1,gsign [a,b] 2,61] = 2 := by simp [psize,c2]
   rw [pbytes,hp,vn,a0,a1,a2,svn_pad,g]
   simp only [List.take,List.cons.injEq,and_true]
   exact ⟨byte _ _ (by omega),byte _ _ (by omega)⟩
 case cons.cons.cons.nil =>
  have g : gnum [a,b,c] 3 = (a.toNat * 256 + b.toNat) * 256 + c.toNat := by simp [gnum]
  have ha := a.toNat_lt
  have hb := b.toNat_lt
  have hc := c.toNat_lt
  have e0 := key 0 (by simp)
  have e1 := key 1 (by simp)
  have e2 := key 2 (by simp)
  have e3 := key 3 (by simp)
  obtain ⟨a0,b0,c0⟩ := t 0
  obtain ⟨a1,b1,c1⟩ := t 1
  obtain ⟨a2,b2,c2⟩ := t 2
  obtain ⟨a3,b3,c3⟩ := t 3
  rw [← e0] at a0 b0 c0
  rw [← e1] at a1 b1 c1
  rw [← e2] at a2 b2 c2
  rw [← e3] at a3 b3 c3
  refine ⟨by simp [psize,c3],fun i hi _ => ?_,?_⟩
  ·rcases (by omega : i = 0 ∨ i = 1 ∨ i = 2 ∨ i = 3) with rfl | rfl | rfl | rfl
   ·simpa using b0
   ·simpa using b1
   ·simpa using b2
   ·simpa using b3
  ·have hp : psize [gsign [a,b,c] 0,gsign [a,b,c] 1,gsign [a,b,c] 2,gsign [a,b,c] 3] = 3 := by simp [psize,c3]
   rw [pbytes,hp,vn,a0,a1,a2,a3,g]
   simp only [List.take,List.cons.injEq,and_true]
   exact ⟨byte _ _ (by omega),byte _ _ (by omega),byte _ _ (by omega)⟩
theorem enc_nil : enc [] = [] := rfl
theorem enc_cons (xs : List UInt8) (h : xs ≠ []) : enc xs = enc3 (xs.take 3) ++ enc (xs.drop 3) := by
 have hl : 1 ≤ xs.length := by
  rcases xs with _ | ⟨a,r⟩
  ·exact absurd rfl h
  ·simp
 have e : (xs.length + 2) / 3 = (xs.length - 3 + 2) / 3 + 1 := by omega
 rw [enc,enc,List.length_drop,e,List.range_succ_eq_map,List.flatMap_cons,List.flatMap_map]
 have e0 : chk xs 3 0 = xs.take 3 := by simp [chk]
 rw [e0]
 congr 1
 have : ∀ j,chk xs 3 (Nat.succ j) = chk (xs.drop 3) 3 j := fun j => by
  unfold chk
  rw [List.drop_drop]
  congr 2
  omega
 simp only [this]
theorem enc3_len (ys : List UInt8) (h : ys ≠ []) : (enc3 ys).length = 4 := by rw [enc3_cons ys h]; rfl
theorem enc_append (xs ys : List UInt8) (h : xs.length % 3 = 0) : enc (xs ++ ys) = enc xs ++ enc ys := by
 generalize hn : xs.length = n at h
 induction n using Nat.strongRecOn generalizing xs with
 | _ n ih =>
  rcases xs with _ | ⟨a,_ | ⟨b,_ | ⟨c,r⟩⟩⟩
  ·rfl
  ·simp at hn; omega
  ·simp at hn; omega
  ·simp only [List.length_cons] at hn
   rw [enc_cons (a :: b :: c :: r) (by simp),List.cons_append,List.cons_append,List.cons_append,enc_cons (a :: b :: c :: (r ++ ys)) (by simp)]
   simp only [List.take_succ_cons,List.take_zero,List.drop_succ_cons,List.drop_zero]
   rw [ih r.length (by omega) r rfl (by omega),List.append_assoc]
theorem enc_length (xs : List UInt8) : (enc xs).length = (xs.length + 2) / 3 * 4 := by
 generalize hn : xs.length = n
 induction n using Nat.strongRecOn generalizing xs with
 | _ n ih =>
  by_cases h : xs = []
  ·subst h
   simp at hn
   subst hn
   rfl
  ·have hl : 1 ≤ n := by
    rcases xs with _ | ⟨a,r⟩
    ·exact absurd rfl h
    ·simp at hn; omega
   rw [enc_cons xs h,List.length_append,enc3_len _ (by
    rcases xs with _ | ⟨a,r⟩
    ·exact absurd rfl h
    ·simp),ih (n - 3) (by omega) (xs.drop 3) (by simp [hn])]
   omega
theorem enc_one (ys : List UInt8) (h1 : 1 ≤ ys.length) (h3 : ys.length ≤ 3) : enc ys = enc3 ys := by
 have hne : ys ≠ [] := by rintro rfl; simp at h1
 rw [enc_cons ys hne,List.take_of_length_le h3,List.drop_of_length_le h3,enc_nil,List.append_nil]
theorem enc_group (a : List UInt8) (k : Nat) (h : 3 * k < a.length) : ((enc a).drop (4 * k)).take 4 = enc3 (chk a 3 k) := by
 induction k generalizing a with
 | zero =>
  have hne : a ≠ [] := by rintro rfl; simp at h
  have hne' : a.take 3 ≠ [] := by
   rcases a with _ | ⟨x,r⟩
   ·exact absurd rfl hne
   ·simp
  rw [enc_cons a hne]
  have hl := enc3_len _ hne'
  simp only [Nat.mul_zero,List.drop_zero,chk,Nat.zero_mul]
  rw [List.take_append_of_le_length (by omega),List.take_of_length_le (by omega)]
 | succ k ih =>
  have hne : a ≠ [] := by rintro rfl; simp at h
  have hne' : a.take 3 ≠ [] := by
   rcases a with _ | ⟨x,r⟩
   ·exact absurd rfl hne
   ·simp
  have hl := enc3_len _ hne'
  rw [enc_cons a hne,show 4 * (k + 1) = (enc3 (a.take 3)).length + 4 * k from by omega,← List.drop_drop,List.drop_left,ih (a.drop 3) (by simp; omega)]
  congr 1
  unfold chk
  rw [List.drop_drop]
  congr 2
  omega
theorem enc3_inj {ys zs : List UInt8} (h1 : 1 ≤ ys.length) (h3 : ys.length ≤ 3) (k1 : 1 ≤ zs.length) (k3 : zs.length ≤ 3) (h : enc3 ys = enc3 zs) : ys = zs := by
 rw [← (part_back ys h1 h3).2.2,h,(part_back zs k1 k3).2.2]
def lin (l : List UInt8) : List UInt8 := (List.range ((l.length + 75) / 76)).flatMap fun j => chk l 76 j ++ [13,10]
end Ar
end
section
namespace Ar
open Go.RowKit
theorem value_any (c : Int) (h0 : 0 ≤ c) (h1 : c ≤ 255) (w : World) :
  Calls Tryz.prog 210 #[.int .u8 c] w fun e w' => e = .returned (.tuple #[.int .u32 (sval c).1,.bool (sval c).2]) ∧ w = w' := by
 go_enter Tryz.func210,Tryz.ntmps210
 go_wp2
 all_goals
  go_ret2
  refine ⟨?_,rfl⟩
  simp only [beq_iff_eq,beq_eq_false_iff_ne,ne_eq] at *
  unfold sval
  repeat (first | rw [if_pos (by omega)] | rw [if_neg (by omega)])
  rfl
end Ar
end
section
namespace Ar
open Go.RowKit Go.Shelf
attribute [local go_sem] Oper.semAt_some
theorem run_min_int {P : Program} (w : World) (at_ : Array TypeId) (ty : TypeId) (a b : Int) :
  (Builtin.min_ at_ ty #[.int .i64 a,.int .i64 b]).run P w = .ok (.int .i64 (if a ≤ b then a else b)) w := by
 simp [Builtin.min_,Builtin.min2]
 split <;> split <;> first | rfl | (exfalso; omega) | (congr; omega)
abbrev Cj (k n : Nat) := { j : Nat // j * k < n }
def chv (b o k n j : Nat) : Value := .slice (some ⟨b,o + j * k,none⟩) (min k (n - j * k)) (min k (n - j * k))
theorem chunk_in (f : Nat) (A : Option Addr) (n c k : Nat) (hk : 1 ≤ k) (w : World) :
  CallsIn Fence.wide f Tryz.prog 105 #[.slice A n c,.int .i64 k] w fun e w' =>
   e = .returned (.func (.func 170) #[] #[.pointer (some ⟨w.heap.size,0,none⟩),.pointer (some ⟨w.heap.size + 1,0,none⟩)]) ∧
   w' = (w.alloc (.cells #[.slice A n c] 22)).alloc (.cells #[.int .i64 k] 3) := by
 refine callsIn_of_wp Tryz.func105 rfl trivial ?_ rfl
 simp only [Tryz.ntmps105,List.size_toArray,List.length_cons,List.length_nil,Nat.reduceAdd,Nat.reduceSub,Array.replicate_succ,Array.replicate_zero,List.push_toArray,List.append_toArray,List.nil_append,List.cons_append]
 gi_wp2
 go_ret
 exact ⟨rfl,rfl⟩
theorem chunk1_in (f : Nat) (l Bs b o n c k : Nat) (A : Option Addr) (hA : 0 < n → A = some ⟨b,o,none⟩) (hk1 : 1 ≤ k) (hk2 : k ≤ 1000000) (hnc : n ≤ c) (hn : n ≤ 9000000000000000000)
  (J Jx : List (Cj k n) → World → Prop)
  (hY : ∀ pre x W,J pre W → pre.length < n → YieldAt Fence.wide (f - 1) Tryz.prog l #[chv b o k n x.1] W fun e W' =>
   (e = .returned (.bool true) ∧ J (pre ++ [x]) W' ∧ Kept Bs (Bs + 2) W W') ∨ (e = .returned (.bool false) ∧ Jx (pre ++ [x]) W'))
  (hJw : ∀ ys W q,J ys W → J ys (World.drewN W q))
  (W : World) (hBs : W.cell? ⟨Bs,0,none⟩ = some (.slice A n c)) (hBk : W.cell? ⟨Bs + 1,0,none⟩ = some (.int .i64 k)) (h0 : J [] W) :
  CallsIn Fence.wide f Tryz.prog 170 #[.func (.yield l) #[] #[],.pointer (some ⟨Bs,0,none⟩),.pointer (some ⟨Bs + 1,0,none⟩)] W fun e W' => (∃ v,e = .returned v) ∧
   ((∃ ys,(∃ m,ys.map Subtype.val = List.range m ∧ n ≤ m * k) ∧ J ys W') ∨ (∃ pre,True ∧ Jx pre W')) := by
 refine callsIn_of_wp Tryz.func170 rfl trivial ?_ rfl
 simp only [Tryz.ntmps170,List.size_toArray,List.length_cons,List.length_nil,Nat.reduceAdd,Nat.reduceSub,Array.replicate_succ,Array.replicate_zero,List.push_toArray,List.append_toArray,List.nil_append,List.cons_append]
 gi_wp2
 gi_loopw [4] (fun i wr => ∃ (m q : Nat) (ys : List (Cj k n)),i = .int .i64 q ∧ m * k = q ∧ q < n + k ∧ ys.map Subtype.val = List.range m ∧ m ≤ n ∧ J ys wr ∧ Kept Bs (Bs + 2) W wr)
  (fun i _ => n - (intOf i).toNat)
 case atStart => exact ⟨0,0,[],rfl,by simp,by omega,rfl,by omega,h0,Kept.refl _ _ _⟩
 case round =>
  obtain ⟨m,q,ys,rfl,hmq,hq,hys,hmn,hJs,hnx⟩ := hrel
  have HQ := Lib.hid hmq
  have HY := Lib.hid hys
  clear hmq hys
  have hcS : wr.cell? ⟨Bs,0,none⟩ = some (.slice A n c) := (hnx.cell (by omega) (by omega)).trans hBs
  have hcK : wr.cell? ⟨Bs + 1,0,none⟩ = some (.int .i64 k) := (hnx.cell (by omega) (by omega)).trans hBk
  by_cases hlt : q < n
  ·obtain rfl := hA (by omega)
   have hmlt : m < n := by
    have h1 : m ≤ m * k := Nat.le_mul_of_pos_right m hk1
    rw [HQ.out] at h1; omega
   have hyl : ys.length = m := by have := congrArg List.length HY.out; simpa using this
   by_cases hkn : k ≤ n - q
   ·have hv : chv b o k n m = .slice (some ⟨b,o + q,none⟩) k k := by unfold chv; rw [HQ.out,Nat.min_eq_left hkn]
    have hmin : ∀ W at_ ty,(Builtin.min_ at_ ty #[.int .i64 (k : Int),.int .i64 ((n - q : Nat) : Int)]).run Tryz.prog W = .ok (.int .i64 (k : Int)) W := fun W at_ ty => by rw [run_min_int]; split <;> first | rfl | (exfalso; omega)
    gi_wp2
    gi_big_quiet_th (fail)
    rename_i nq
    have hyy := hY ys ⟨m,by rw [HQ.out]; exact hlt⟩ _ (hJw ys wr nq hJs) (by rw [hyl]; exact hmlt)
    simp only at hyy
    rw [hv] at hyy
    obtain ⟨fn,tmps,assign,body,hy,hR⟩ := hyy
    gi_wp2
    refine ⟨fun h => by simp [Fence.wide] at h,?_⟩
    refine hR.mono ?_
    rintro e W3 (⟨rfl,hJ3,hk3⟩ | ⟨rfl,hJx3⟩)
    ·have hcK3 : W3.cell? ⟨Bs + 1,0,none⟩ = some (.int .i64 k) := (hk3.cell (by omega) (by omega)).trans hcK
     gi_wp2
     go_roundw
     case rel => exact ⟨m + 1,q + k,ys ++ [⟨m,by rw [HQ.out]; exact hlt⟩],by go_num,by rw [Nat.add_mul,HQ.out]; omega,by omega,by rw [List.map_append,HY.out,List.range_succ]; rfl,by omega,hJ3,hnx.trans hk3⟩
     case measure => simp [intOf]; omega
    ·gi_wp2
     refine bodyPost_ret (results_none rfl _ _ _) rfl ?_
     exact ⟨⟨_,rfl⟩,.inr ⟨_,trivial,hJx3⟩⟩
   ·have hv : chv b o k n m = .slice (some ⟨b,o + q,none⟩) (n - q) (n - q) := by unfold chv; rw [HQ.out,Nat.min_eq_right (by omega)]
    have hmin : ∀ W at_ ty,(Builtin.min_ at_ ty #[.int .i64 (k : Int),.int .i64 ((n - q : Nat) : Int)]).run Tryz.prog W = .ok (.int .i64 ((n - q : Nat) : Int)) W := fun W at_ ty => by rw [run_min_int]; split <;> first | rfl | (exfalso; omega)
    gi_wp2
    gi_big_quiet_th (fail)
    rename_i nq
    have hyy := hY ys ⟨m,by rw [HQ.out]; exact hlt⟩ _ (hJw ys wr nq hJs) (by rw [hyl]; exact hmlt)
    simp only at hyy
    rw [hv] at hyy
    obtain ⟨fn,tmps,assign,body,hy,hR⟩ := hyy
    gi_wp2
    refine ⟨fun h => by simp [Fence.wide] at h,?_⟩
    refine hR.mono ?_
    rintro e W3 (⟨rfl,hJ3,hk3⟩ | ⟨rfl,hJx3⟩)
    ·have hcK3 : W3.cell? ⟨Bs + 1,0,none⟩ = some (.int .i64 k) := (hk3.cell (by omega) (by omega)).trans hcK
     gi_wp2
     go_roundw
     case rel => exact ⟨m + 1,q + k,ys ++ [⟨m,by rw [HQ.out]; exact hlt⟩],by go_num,by rw [Nat.add_mul,HQ.out]; omega,by omega,by rw [List.map_append,HY.out,List.range_succ]; rfl,by omega,hJ3,hnx.trans hk3⟩
     case measure => simp [intOf]; omega
    ·gi_wp2
     refine bodyPost_ret (results_none rfl _ _ _) rfl ?_
     exact ⟨⟨_,rfl⟩,.inr ⟨_,trivial,hJx3⟩⟩
  ·gi_wp2
   go_end0
   refine ⟨⟨_,rfl⟩,.inl ⟨ys,⟨m,HY.out,by rw [HQ.out]; omega⟩,hJs⟩⟩
theorem chunk_stops (f : Nat) (Bs b o n c k : Nat) (A : Option Addr) (hA : 0 < n → A = some ⟨b,o,none⟩) (hk1 : 1 ≤ k) (hk2 : k ≤ 1000000) (hnc : n ≤ c) (hn : n ≤ 9000000000000000000) (w : World)
  (hbs : Bs + 1 < w.heap.size) (hBs : w.cell? ⟨Bs,0,none⟩ = some (.slice A n c)) (hBk : w.cell? ⟨Bs + 1,0,none⟩ = some (.int .i64 k)) :
  SeqStopsK Fence.wide f Tryz.prog 170 #[.pointer (some ⟨Bs,0,none⟩),.pointer (some ⟨Bs + 1,0,none⟩)] (fun x : Cj k n => #[chv b o k n x.1]) (Kept Bs (Bs + 2))
   (fun ys => ∃ m,ys.map Subtype.val = List.range m ∧ n ≤ m * k) (fun _ => True) n w := fun l J Jx W hW hJa _ hY h0 =>
 chunk1_in f l Bs b o n c k A hA hk1 hk2 hnc hn J Jx hY
  (fun ys W' q h => hJa ys W' _ none h ⟨rfl,rfl,rfl,Nat.le_refl _,fun _ _ _ => rfl⟩ (fun r e => by cases e)) W ((hW.cell (p := ⟨Bs,0,none⟩) (by simp; omega)).trans hBs) ((hW.cell (p := ⟨Bs + 1,0,none⟩) hbs).trans hBk) h0
end Ar
end
end Go.Proofs.YtkllecicddfjpaaGreatDoor
