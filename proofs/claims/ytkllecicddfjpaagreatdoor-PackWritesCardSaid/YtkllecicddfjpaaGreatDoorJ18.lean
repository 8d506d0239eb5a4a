/- The walk of the law, part 18. -/
import Derived.Test.YtkllecicddfjpaaGreatDoorJ17
import Derived.Test.YtkllecicddfjpaaGreatDoorJ16
import Derived.Test.YtkllecicddfjpaaGreatDoorJ01
import Derived.Lib.SlTrimSet
import Derived.Test.YtkllecicddfjpaaGreatDoorJ15
import Derived.Test.YtkllecicddfjpaaGreatDoorJ12
import Derived.Test.YtkllecicddfjpaaGreatDoorJ02
import Derived.Deep.RegionHeld3
set_option maxRecDepth 100000
set_option maxHeartbeats 16000000
set_option linter.unusedVariables false
set_option linter.unusedSimpArgs false
namespace Go.Proofs.YtkllecicddfjpaaGreatDoor
section
namespace Ar
open Go.RowKit Go.Shelf
attribute [local go_sem] Oper.semAt_some
def linF (l : List UInt8) (n : Nat) (pre : List (Cj 76 n)) : List UInt8 := pre.flatMap fun j => chk l 76 j.1 ++ [13,10]
theorem linF_length (l : List UInt8) (n : Nat) (pre : List (Cj 76 n)) : (linF l n pre).length ≤ 78 * pre.length := by
 induction pre with
 | nil => simp [linF]
 | cons j pre ih =>
  have h : (chk l 76 j.1).length ≤ 76 := by unfold chk; simp; omega
  have e : linF l n (j :: pre) = (chk l 76 j.1 ++ [13,10]) ++ linF l n pre := by simp [linF]
  rw [e,List.length_append,List.length_cons,List.length_append]
  simp only [List.length_cons,List.length_nil]
  omega
theorem Rb_lower {B : Nat} {W W' : World} {b o : Nat} {l : List UInt8} (hb : Below B W W') (h : b < B) (hr : Rb W (some ⟨b,o,none⟩) l) : Rb W' (some ⟨b,o,none⟩) l := fun hp => by
 obtain ⟨b',o',e,hc⟩ := hr hp
 cases e
 exact ⟨b,o,rfl,fun j v hj => (hb.cell (p := ⟨b,o + j,none⟩) h).trans (hc j v hj)⟩
theorem keeps_app {W W' : World} {base e size n : Nat} {v : Value} {xs : List Value} (hrow : W.ownsRow base e size v n xs) (hg : W.grownBy W' v.ownBlock) : KeepsOthers W W' :=
 KeepsOthers.of_grownBy hg fun j o ej hj => by
  rcases hrow.2 with ⟨rfl,_⟩ | ⟨g,cap,cur,rfl,_,hgb,_⟩
  ·simp [Value.ownBlock] at ej
  ·obtain rfl : g = j := by simpa [Value.ownBlock] using ej
   rw [hgb] at hj; cases hj; rfl
theorem Cj_last {k n m : Nat} {pre : List (Cj k n)} (hk : 1 ≤ k) (h : pre.map Subtype.val = List.range m) (hm : n ≤ m * k) : m = (n + (k - 1)) / k := by
 rcases m with _ | m
 ·have : n = 0 := by omega
  subst this
  rw [Nat.zero_add,Nat.div_eq_of_lt (by omega)]
 ·have : m ∈ pre.map Subtype.val := by rw [h]; simp
  obtain ⟨⟨j,hj⟩,_,e⟩ := List.mem_map.1 this
  simp only at e
  subst e
  symm
  apply Nat.div_eq_of_lt_le
  ·rw [Nat.add_mul] at *; omega
  ·rw [Nat.add_mul,Nat.add_mul] at *; omega
theorem linF_all {l : List UInt8} {n m : Nat} {pre : List (Cj 76 n)} (hn : l.length = n) (h : pre.map Subtype.val = List.range m) (hm : n ≤ m * 76) : linF l n pre = lin l := by
 have e1 : linF l n pre = (pre.map Subtype.val).flatMap fun j => chk l 76 j ++ [13,10] := by simp [linF,List.flatMap_map]
 rw [e1,h,lin,hn,Cj_last (by omega) h hm]
theorem lines_in (f : Nat) (hf : 5 ≤ f) (A : Option Addr) (xs : List UInt8) (n c : Nat) (w : World) (hn : xs.length = n) (hA : Rb w A xs) (hnc : n ≤ c) (hc : n ≤ 1000000000) :
  CallsIn Fence.wide f Tryz.prog 128 #[.slice A n c] w fun e w' => (∃ v,e = .returned v ∧ w'.ownsRow w.heap.size 5 1 v (lin (enc xs)).length ((lin (enc xs)).map bv)) ∧ Below w.heap.size w w' := by
 have HN := Lib.hid hn
 clear hn
 refine callsIn_of_wp_marks Tryz.func128 rfl trivial ?_ rfl
 simp only [Tryz.ntmps128,List.size_toArray,List.length_cons,List.length_nil,Nat.reduceAdd,Nat.reduceSub,Array.replicate_succ,Array.replicate_zero,List.push_toArray,List.append_toArray,List.nil_append,List.cons_append]
 gi_wp2
 refine ⟨trivial,fun h => by simp [Fence.wide] at h,?_⟩
 have hA1 : Rb (w.alloc (.cells #[.slice none 0 0] 22)) A xs := hA.below ((Below.refl _ _).alloc (Nat.le_refl _) _)
 refine (callsIn_wide.2 (enc_any A xs n c _ HN.out hA1 hnc (by omega))).mono ?_
 rintro e w1 ⟨rfl,hb1⟩
 have hel : (enc xs).length ≤ 4 * n + 4 := by have := enc_length xs; rw [HN.out] at this; omega
 generalize hes : enc xs = es at *
 have HES := Lib.hid hes
 clear hes
 obtain ⟨cb,X,fr,hcv,hcb,hrb⟩ := conv_bytes (P := Tryz.prog) (src := 9) (dst := 22) (e := 5) Tryz.underlying9 Tryz.underlying22 Tryz.underlying5 es w1
 have bO1 := box_below (Boxed.new w 22 (.slice none 0 0)) hb1
 have hsz1 : w.heap.size + 1 ≤ w1.heap.size := by have := hb1.size; simpa using this
 have hB1 : Below w.heap.size w w1 := ((Below.refl _ w).alloc (Nat.le_refl _) _).trans (hb1.mono (by simp))
 gi_wp2
 refine ⟨trivial,fun h => by simp [Fence.wide] at h,?_⟩
 refine (chunk_in (f - 1) _ _ _ 76 (by omega) _).mono ?_
 rintro e w' ⟨rfl,rfl⟩
 gi_wp2
 have bS := Boxed.new (w1.alloc (.cells X 5 fr)) 22 (.slice (some ⟨w1.heap.size,0,none⟩) es.length cb)
 have bK := Boxed.new ((w1.alloc (.cells X 5 fr)).alloc (.cells #[.slice (some ⟨w1.heap.size,0,none⟩) es.length cb] 22)) 3 (.int .i64 76)
 rw [World.size_alloc] at bS
 rw [World.size_alloc,World.size_alloc] at bK
 obtain ⟨W0,hW0⟩ : ∃ W0,(((w1.alloc (.cells X 5 fr)).alloc (.cells #[.slice (some ⟨w1.heap.size,0,none⟩) es.length cb] 22)).alloc (.cells #[.int .i64 76] 3)).drew = W0 := ⟨_,rfl⟩
 have hB10 : Below w1.heap.size w1 W0 := by
  rw [← hW0]
  exact ((((Below.refl _ w1).alloc (Nat.le_refl _) _).alloc (by simp) _).alloc (by simp; omega) _).drew
 have hB0 : Below w.heap.size w W0 := hB1.trans (hB10.mono (by omega))
 have hsz : W0.heap.size = w1.heap.size + 3 := by rw [← hW0]; exact (by simp : (((w1.alloc (.cells X 5 fr)).alloc (.cells #[.slice (some ⟨w1.heap.size,0,none⟩) es.length cb] 22)).alloc (.cells #[.int .i64 76] 3)).heap.size = w1.heap.size + 3)
 have hr0 : Rb W0 (some ⟨w1.heap.size,0,none⟩) es := by
  rw [← hW0]
  exact Rb.below (w := w1.alloc (.cells X 5 fr)) hrb ((((Below.refl _ _).alloc (Nat.le_refl _) _).alloc (by simp) _).drew)
 have hI0 : (∃ v,Boxed W0 w.heap.size 22 v ∧ W0.ownsRow W0.heap.size 5 1 v (linF es es.length []).length ((linF es es.length []).map bv)) ∧ Boxed W0 (w1.heap.size + 1) 22 (.slice (some ⟨w1.heap.size,0,none⟩) es.length cb) ∧ Boxed W0 (w1.heap.size + 1 + 1) 3 (.int .i64 76) := by
  refine ⟨⟨_,box_below bO1 hB10,World.ownsRow_nil _ _ _ _⟩,?_,?_⟩
  ·rw [← hW0]; exact bS.alloc _
  ·rw [← hW0]; exact bK
 rw [hW0]
 refine wpIn_rangeFunc_ownG (α := Cj 76 es.length) rfl (by omega) (gf := 170) (lb := #[.pointer (some ⟨w1.heap.size + 1,0,none⟩),.pointer (some ⟨w1.heap.size + 1 + 1,0,none⟩)]) rfl trivial (enters_of Tryz.func170 (by kernel_rfl) rfl)
  (chunk_stops (f - 1) (w1.heap.size + 1) w1.heap.size 0 es.length cb 76 (some ⟨w1.heap.size,0,none⟩) (fun _ => rfl) (by omega) (by omega) hcb (by omega) W0 (by omega) hI0.2.1.cell hI0.2.2.cell) (fun h k => h.trans k) (fun W l o o' hl h _ _ => Kept.putObj W (.inr (by omega)) _) (Below.refl _ _) (fun _ => rfl)
  (fun pre W => ((∃ v,Boxed W w.heap.size 22 v ∧ W.ownsRow W0.heap.size 5 1 v (linF es es.length pre).length ((linF es es.length pre).map bv)) ∧ Boxed W (w1.heap.size + 1) 22 (.slice (some ⟨w1.heap.size,0,none⟩) es.length cb) ∧ Boxed W (w1.heap.size + 1 + 1) 3 (.int .i64 76)) ∧ Rb W (some ⟨w1.heap.size,0,none⟩) es ∧ Below w.heap.size w W ∧ W0.heap.size ≤ W.heap.size)
  (fun _ _ _ => False)
  ?own
  (fun _ _ _ _ _ hs _ _ => hs)
  ⟨hI0,hr0,hB0,Nat.le_refl _⟩
  (fun x => { tmps := #[.slice A n c,undef,.pointer (some ⟨w.heap.size,0,none⟩),chv w1.heap.size 0 76 es.length x.1,.slice A n c,.string (bs es),.slice (some ⟨w1.heap.size,0,none⟩) es.length cb,.func (.func 170) #[] #[.pointer (some ⟨w1.heap.size + 1,0,none⟩),.pointer (some ⟨w1.heap.size + 1 + 1,0,none⟩)],chv w1.heap.size 0 76 es.length x.1,undef,undef,undef,undef,undef],defers := [] }) ?assign ?body ?done ?stop
 case own =>
  refine OwnFrom.and (OwnFrom.and (fun s W W' row hs hg hr => ?_) (OwnFrom.and (Own.from (boxed_own _ _ _) _) (Own.from (boxed_own _ _ _) _))) (OwnFrom.and (fun s W W' row hs hg hr => ?_) (OwnFrom.and (ownFrom_below (Nat.le_refl _) (by omega)) (fun s W W' row hs hg hr => Nat.le_trans hs hg.size)))
  ·obtain ⟨v,h1,h2⟩ := hs
   obtain ⟨v',a,b,_⟩ := (Own.from (holdsRow_own W0.heap.size w.heap.size 22 5 1 (fun pre => (linF es es.length pre).length) (fun pre => (linF es es.length pre).map bv) (fun _ _ => True)) _) s W W' row ⟨v,h1,h2,trivial⟩ hg hr
   exact ⟨v',a,b⟩
  ·exact Rb_own hs hg (fun r e => (hr r e).2)
 case assign =>
  intro l x W K hK
  gi_wp2
  exact hK
 case body =>
  rintro l pre x W ⟨⟨⟨v,hv,hrow⟩,hbS,hbK⟩,hres,hB,hWs⟩ hlt
  have hsz2 : w1.heap.size + 3 ≤ W0.heap.size := by omega
  clear hW0 hsz bO1 bS bK hr0 hI0 hrb hcv hB0
  obtain ⟨j,hj⟩ := x
  obtain ⟨hyl,hyr⟩ := hres.chunk rfl (fun _ => rfl) hj
  simp only [chv]
  have hpre : linF es es.length (pre ++ [⟨j,hj⟩]) = linF es es.length pre ++ chk es 76 j ++ [13,10] := by simp [linF]
  have HP := Lib.hid hpre
  clear hpre
  have hplen : (linF es es.length pre).length ≤ 78 * es.length := Nat.le_trans (linF_length es es.length pre) (by omega)
  have hm1 : min 76 (es.length - j * 76) ≤ 76 := by omega
  generalize chk es 76 j = ys at *
  generalize min 76 (es.length - j * 76) = m at *
  generalize 0 + j * 76 = p at *
  generalize linF es es.length pre = ps at *
  have HY := Lib.hid hyl
  clear hyl
  have hc := hv.cell
  gi_wp2_with (first
   | (gi_at_builtin; refine wpListIn_app rfl (.tmp 9) (.tmp 10) _ _ rfl TU8 hrow rfl (Src_rb Tryz.underlying22 HY.out hyr) rfl (by omega) hWs ?_; intro v2 w2 hown2 hgr2 hat2; have hb2 := below_app (Below.refl W0.heap.size W) hrow hgr2 hWs (Nat.le_refl _); have hs2 := hb2.size)
   | (gi_at_builtin; refine wpListIn_app rfl (.tmp 11) _ _ _ rfl TU8 hown2 rfl (Src_str Tryz.underlying9 [13,10]) rfl (by simp only [List.length_cons,List.length_nil]; omega) (by omega) ?_; intro v3 w3 hown3 hgr3 hat3; have hb3 := below_app hb2 hown2 hgr3 (by omega) (Nat.le_refl _); have hs3 := hb3.size; have hown4 : w3.ownsRow W0.heap.size 5 1 v3 (ps.length + m + [13,10].length) ((ps ++ ys ++ [13,10]).map bv) := (by rw [List.map_append,List.map_append]; exact hown3); obtain ⟨A3,c3,rfl,_,_,_,hl3⟩ := own_slice hown4; have hv3 : Boxed w3 w.heap.size 22 v := (hb3.block _ (by omega)).trans hv; have hc3 := hv3.cell; have hf3 := hv3.frozen))
  have hB4 : Below w.heap.size W (w3.setCell ⟨w.heap.size,0,none⟩ (.slice A3 (ps.length + m + [13,10].length) c3)) := (hb3.mono (B' := w.heap.size) (by omega)).setCell (p := ⟨w.heap.size,0,none⟩) (by simp) _
  have hbS3 : Boxed w3 (w1.heap.size + 1) 22 (.slice (some ⟨w1.heap.size,0,none⟩) es.length cb) := (hb3.block _ (by omega)).trans hbS
  have hbK3 : Boxed w3 (w1.heap.size + 1 + 1) 3 (.int .i64 76) := (hb3.block _ (by omega)).trans hbK
  refine ⟨?_,?_,⟨⟨_,hv3.set _,?_⟩,hbS3.other (by omega) _,hbK3.other (by omega) _⟩,Rb.setFar (Rb_lower hb3 (by omega) hres) (by simp; omega) _,hB.trans hB4,by simp; omega⟩
  ·exact ((keeps_app hrow hgr2).trans ((keeps_app hown2 hgr3).trans (KeepsOthers.setCell _ _ _))).from _
  ·exact fun q h1 h2 => by
    rcases (by omega : q = w1.heap.size + 1 ∨ q = w1.heap.size + 1 + 1) with rfl | rfl
    ·exact (show _ = _ from hbS3.other (by omega) _).trans (show _ = _ from hbS).symm
    ·exact (show _ = _ from hbK3.other (by omega) _).trans (show _ = _ from hbK).symm
  ·rw [HP.out,hl3]
   exact ownsRow_setCell_below hown4 (by simp; omega) _
 case done =>
  rintro D ys W hD ⟨m,hm1,hm2⟩ ⟨⟨⟨v,hv,hrow⟩,_,_⟩,_,hB,hWs⟩ hK
  rw [linF_all rfl hm1 hm2] at hrow
  obtain ⟨Av,cv,rfl,_,_,hvr,hll⟩ := own_slice hrow
  have hc := hv.cell
  have hf := hv.frozen
  have hv2 := hv.set (.slice Av (lin es).length cv)
  have hrow2 := ownsRow_setCell_below hrow (a := ⟨w.heap.size,0,none⟩) (by simp; omega) (.slice Av (lin es).length cv)
  have hK2 := (KeepsOthers.setCell W ⟨w.heap.size,0,none⟩ (.slice Av (lin es).length cv)).same D _ hK rfl
  gi_wp2
  refine ⟨by simp,.inl ⟨_,_,rfl,run_takeDeferred hK2,?_⟩⟩
  have hc5 := cell_kept hv2.cell (grownBy_putObj' _ D (.deferred none)) (fun r e => by cases e; exact ⟨_,hK2,rfl⟩)
  refine ⟨.slice Av (lin es).length cv,?_,⟨_,rfl,?_⟩,?_⟩
  ·simp [results,Tryz.f128,go_sem,hc5]
  ·rw [HES.out]
   exact own_base (ownsRow_putObj hrow2 _ hK2 rfl) (by omega)
  ·exact (hB.setCell (p := ⟨w.heap.size,0,none⟩) (by simp) _).trans (belowK_b (w := W0) (by omega) _ D _ _ hD hK2 rfl rfl)
 case stop =>
  rintro D c pre W _ _ h _
  exact h.elim
end Ar
end
section
namespace Ar
theorem enc_inj (a b : List UInt8) (h : enc a = enc b) : a = b := by
 generalize hn : a.length = n
 induction n using Nat.strongRecOn generalizing a b with
 | _ n ih =>
  have hl := congrArg List.length h
  rw [enc_length,enc_length] at hl
  by_cases ha : a = []
  ·subst ha
   have : b.length = 0 := by simp at hl; omega
   exact (List.eq_nil_of_length_eq_zero this).symm
  ·by_cases hb : b = []
   ·subst hb
    have : a.length = 0 := by simp at hl; omega
    exact List.eq_nil_of_length_eq_zero this
   ·have ta : 1 ≤ (a.take 3).length := by
     rcases a with _ | ⟨x,r⟩
     ·exact absurd rfl ha
     ·simp
    have tb : 1 ≤ (b.take 3).length := by
     rcases b with _ | ⟨x,r⟩
     ·exact absurd rfl hb
     ·simp
    have ta3 : (a.take 3).length ≤ 3 := by simp; omega
    have tb3 : (b.take 3).length ≤ 3 := by simp; omega
    have na : a.take 3 ≠ [] := by intro e; rw [e] at ta; simp at ta
    have nb : b.take 3 ≠ [] := by intro e; rw [e] at tb; simp at tb
    rw [enc_cons a ha,enc_cons b hb] at h
    obtain ⟨e1,e2⟩ := List.append_inj h (by rw [enc3_len _ na,enc3_len _ nb])
    have e3 := enc3_inj ta ta3 tb tb3 e1
    have e4 := ih (a.length - 3) (by simp at ta; omega) (a.drop 3) (b.drop 3) e2 (by simp)
    rw [← List.take_append_drop 3 a,← List.take_append_drop 3 b,e3,e4]
end Ar
end
section
namespace Ar
open Go.RowKit
theorem lines_any (A : Option Addr) (xs : List UInt8) (n c : Nat) (w : World) (hn : xs.length = n) (hA : Rb w A xs) (hnc : n ≤ c) (hc : n ≤ 1000000000) :
  Calls Tryz.prog 128 #[.slice A n c] w fun e w' => (∃ v,e = .returned v ∧ w'.ownsRow w.heap.size 5 1 v (lin (enc xs)).length ((lin (enc xs)).map bv)) ∧ Below w.heap.size w w' :=
 callsIn_wide.1 (lines_in 5 (by omega) A xs n c w hn hA hnc hc)
end Ar
end
section
def endl (c : List UInt8) : List UInt8 × List UInt8 := if c.getLast? = some 13 then (c.dropLast,[13,10]) else (c,[10])
def lnA (cur : List UInt8) : List UInt8 → List (List UInt8 × List UInt8)
 | [] => if cur = [] then [] else [(cur,[])]
 | x :: r => if x = 10 then endl cur :: lnA [] r else lnA (cur ++ [x]) r
def lns (b : List UInt8) : List (List UInt8 × List UInt8) := lnA [] b
theorem lnA_hit : ∀ (p q cur : List UInt8),(∀ x ∈ p,x ≠ 10) → lnA cur (p ++ 10 :: q) = endl (cur ++ p) :: lnA [] q
 | [],q,cur,_ => by simp [lnA]
 | x :: p,q,cur,h => by
  have hx : x ≠ 10 := h x (by simp)
  rw [List.cons_append,lnA,if_neg hx,lnA_hit p q (cur ++ [x]) (fun y hy => h y (by simp [hy]))]
  simp
theorem lnA_end : ∀ (p cur : List UInt8),(∀ x ∈ p,x ≠ 10) → lnA cur p = if cur ++ p = [] then [] else [(cur ++ p,[])]
 | [],cur,_ => by simp [lnA]
 | x :: p,cur,h => by
  have hx : x ≠ 10 := h x (by simp)
  rw [lnA,if_neg hx,lnA_end p (cur ++ [x]) (fun y hy => h y (by simp [hy]))]
  simp
theorem snoc_of {c : List UInt8} {x : UInt8} (h : c.getLast? = some x) : ∃ d,c = d ++ [x] := by
 rcases List.eq_nil_or_concat c with rfl | ⟨d,y,rfl⟩
 ·simp at h
 ·simp at h
  exact ⟨d,by rw [h]; simp⟩
theorem endl_app (c : List UInt8) : (endl c).1 ++ (endl c).2 = c ++ [10] := by
 unfold endl
 split
 ·rename_i h
  obtain ⟨d,rfl⟩ := snoc_of h
  simp
 ·rfl
theorem endl_len (c : List UInt8) : (endl c).1.length + (endl c).2.length = c.length + 1 := by
 have := congrArg List.length (endl_app c)
 simpa using this
def seg (b : List UInt8) (i j : Nat) : List UInt8 := (b.drop i).take (j - i)
theorem seg_len {b : List UInt8} {i j : Nat} (hj : j ≤ b.length) : (seg b i j).length = j - i := by unfold seg; simp; omega
theorem seg_self (b : List UInt8) (i : Nat) : seg b i i = [] := by simp [seg]
theorem seg_app {b : List UInt8} {i j k : Nat} (h1 : i ≤ j) (h2 : j ≤ k) : seg b i j ++ seg b j k = seg b i k := by
 unfold seg
 have e : k - i = (j - i) + (k - j) := by omega
 rw [e,List.take_add,List.drop_drop]
 congr 2
 congr 1
 omega
structure TrOk (b : List UInt8) (at_ : Nat) (t : Nat × Nat × Nat) : Prop where
 fr : t.1 = at_
 lo : t.1 ≤ t.2.1
 hi : t.2.1 ≤ t.2.2
 up : at_ < t.2.2
 le : t.2.2 ≤ b.length
 ln : lns (b.drop at_) = (seg b t.1 t.2.1,seg b t.2.1 t.2.2) :: lns (b.drop t.2.2)
def trEnd (ys : List (Nat × Nat × Nat)) : Nat := (ys.getLast?.map (·.2.2)).getD 0
@[simp] theorem trEnd_nil : trEnd [] = 0 := rfl
@[simp] theorem trEnd_snoc (ys : List (Nat × Nat × Nat)) (t : Nat × Nat × Nat) : trEnd (ys ++ [t]) = t.2.2 := by simp [trEnd]
theorem seg_split {b : List UInt8} {at_ n : Nat} (h : at_ + n < b.length) (h10 : b[at_ + n]? = some 10) : b.drop at_ = seg b at_ (at_ + n) ++ 10 :: b.drop (at_ + n + 1) := by
 have e1 : b.drop at_ = (b.drop at_).take n ++ (b.drop at_).drop n := (List.take_append_drop _ _).symm
 rw [List.drop_drop] at e1
 rw [e1]
 have e2 : at_ + n - at_ = n := by omega
 unfold seg
 rw [e2]
 congr 1
 rw [← List.getElem_cons_drop h]
 rw [List.getElem?_eq_getElem h] at h10
 rw [Option.some.inj h10]
theorem tr_last {b : List UInt8} {at_ : Nat} (h : at_ < b.length) (hno : ∀ x ∈ b.drop at_,x ≠ 10) : TrOk b at_ (at_,b.length,b.length) := by
 refine ⟨rfl,by simp; omega,Nat.le_refl _,h,Nat.le_refl _,?_⟩
 simp only
 unfold lns
 rw [lnA_end _ _ hno]
 have h1 : b.drop at_ ≠ [] := fun e => by have := congrArg List.length e; simp at this; omega
 rw [List.nil_append,if_neg h1,seg_self,List.drop_length]
 unfold seg
 rw [List.take_of_length_le (by simp)]
 rfl
theorem tr_hit {b : List UInt8} {at_ n : Nat} (h : at_ + n < b.length) (h10 : b[at_ + n]? = some 10) (hno : ∀ x ∈ seg b at_ (at_ + n),x ≠ 10) (hcr : n = 0 ∨ b[at_ + n - 1]? ≠ some 13) : TrOk b at_ (at_,at_ + n,at_ + n + 1) := by
 refine ⟨rfl,by simp,by simp,by simp; omega,by simp; omega,?_⟩
 simp only
 have e : seg b (at_ + n) (at_ + n + 1) = [10] := by
  have h3 : at_ + n + 1 - (at_ + n) = 1 := by omega
  unfold seg
  rw [h3,← List.getElem_cons_drop h]
  rw [List.getElem?_eq_getElem h] at h10
  rw [Option.some.inj h10]
  rfl
 unfold lns
 rw [seg_split h h10,lnA_hit _ _ _ hno,List.nil_append,e]
 congr 1
 unfold endl
 rw [if_neg]
 intro hl
 rw [List.getLast?_eq_getElem?,seg_len (by omega)] at hl
 rcases hcr with h0 | h0
 ·subst h0
  simp [seg] at hl
 ·apply h0
  rw [← hl]
  by_cases hn : n = 0
  ·subst hn
   simp [seg] at hl
  ·unfold seg
   rw [List.getElem?_take,if_pos (by omega),List.getElem?_drop]
   congr 1
   omega
theorem tr_cr {b : List UInt8} {at_ n : Nat} (h : at_ + n < b.length) (h10 : b[at_ + n]? = some 10) (hno : ∀ x ∈ seg b at_ (at_ + n),x ≠ 10) (hn : 0 < n) (hcr : b[at_ + n - 1]? = some 13) : TrOk b at_ (at_,at_ + n - 1,at_ + n + 1) := by
 refine ⟨rfl,by simp; omega,by simp; omega,by simp; omega,by simp; omega,?_⟩
 simp only
 have hlen : (seg b at_ (at_ + n)).length = n := by rw [seg_len (by omega)]; omega
 have hl : (seg b at_ (at_ + n)).getLast? = some 13 := by
  rw [List.getLast?_eq_getElem?,hlen]
  unfold seg
  rw [List.getElem?_take,if_pos (by omega),List.getElem?_drop,← hcr]
  congr 1
  omega
 have hcr2 : at_ + n - 1 < b.length := by omega
 have e : seg b (at_ + n - 1) (at_ + n + 1) = [13,10] := by
  have h3 : at_ + n + 1 - (at_ + n - 1) = 2 := by omega
  have h4 : at_ + n - 1 + 1 = at_ + n := by omega
  unfold seg
  rw [h3,← List.getElem_cons_drop hcr2,h4,← List.getElem_cons_drop h]
  rw [List.getElem?_eq_getElem h] at h10
  rw [List.getElem?_eq_getElem hcr2] at hcr
  rw [Option.some.inj h10,Option.some.inj hcr]
  rfl
 unfold lns
 rw [seg_split h h10,lnA_hit _ _ _ hno,List.nil_append,e]
 congr 1
 unfold endl
 rw [if_pos hl]
 congr 1
 unfold seg
 rw [List.dropLast_eq_take,List.take_take,List.length_take,List.length_drop]
 congr 1
 omega
def trimE (l : List UInt8) : List UInt8 := Lib.trimRightS l [32,9]
def mk (bd l : List UInt8) : Nat := if trimE l = [45,45] ++ bd then 1 else if trimE l = [45,45] ++ bd ++ [45,45] then 2 else 0
theorem mk_le (bd l : List UInt8) : mk bd l ≤ 2 := by
 unfold mk
 split
 ·omega
 ·split <;> omega
theorem mk_one {bd l : List UInt8} : mk bd l = 1 ↔ trimE l = [45,45] ++ bd := by
 unfold mk
 split
 ·simp_all
 ·split <;> simp_all
theorem mk_two {bd l : List UInt8} : mk bd l = 2 ↔ trimE l = [45,45] ++ bd ++ [45,45] := by
 unfold mk
 split
 ·rename_i h
  rw [h]
  simp
 ·split <;> simp_all
theorem mk_zero {bd l : List UInt8} : mk bd l = 0 ↔ trimE l ≠ [45,45] ++ bd ∧ trimE l ≠ [45,45] ++ bd ++ [45,45] := by
 unfold mk
 split
 ·simp_all
 ·split <;> simp_all
def bodyP (bd : List UInt8) : List (List UInt8 × List UInt8) → List UInt8 → List UInt8 → List (List UInt8) → Option (List (List UInt8))
 | [],_,_,_ => none
 | p :: r,part,pend,out => if mk bd p.1 = 0 then bodyP bd r (part ++ pend ++ p.1) p.2 out else if mk bd p.1 = 1 then bodyP bd r [] [] (out ++ [part]) else some (out ++ [part])
def splitP (bd : List UInt8) : List (List UInt8 × List UInt8) → Option (List (List UInt8))
 | [] => none
 | p :: r => if mk bd p.1 = 1 then bodyP bd r [] [] [] else splitP bd r
def bdC (c : UInt8) : Bool := (97 ≤ c && c ≤ 122) || (65 ≤ c && c ≤ 90) || (48 ≤ c && c ≤ 57) || ([39,40,41,43,95,44,45,46,47,58,61,63] : List UInt8).contains c
def bdOk (s : List UInt8) : Bool := decide (1 ≤ s.length) && decide (s.length ≤ 70) && s.all bdC
def splitS (b bd : List UInt8) : List (List UInt8) × Int := if bdOk bd = true then (match splitP bd (lns b) with | some l => (l,0) | none => ([],3)) else ([],1)
end
section
def dd (l : List UInt8) : Prop := l.take 2 = [45,45]
theorem trimE_pre (l : List UInt8) : ∃ k,trimE l = l.take k := by
 have e := List.takeWhile_append_dropWhile (p := (([32,9] : List UInt8).contains ·)) (l := l.reverse)
 have e2 := congrArg List.reverse e
 rw [List.reverse_append,List.reverse_reverse] at e2
 exact ⟨_,List.prefix_iff_eq_take.1 ⟨_,e2⟩⟩
theorem mk_no {bd l : List UInt8} (h : ¬ dd l) : mk bd l = 0 := by
 obtain ⟨k,hk⟩ := trimE_pre l
 refine mk_zero.2 ⟨fun e => h ?_,fun e => h ?_⟩
 all_goals
  rw [hk] at e
  rw [← List.take_append_drop k l,e]
  rfl
theorem trimE_id {l : List UInt8} {x : UInt8} (h : x ≠ 32 ∧ x ≠ 9) : trimE (l ++ [x]) = l ++ [x] := by
 unfold trimE Lib.trimRightS
 rw [List.reverse_append,List.reverse_singleton,List.singleton_append,List.dropWhile_cons_of_neg (by simp [h.1,h.2])]
 simp
theorem bdC_not {x : UInt8} (h : bdC x = true) : x ≠ 32 ∧ x ≠ 9 ∧ x ≠ 10 := by
 refine ⟨?_,?_,?_⟩ <;> (rintro rfl; revert h; decide)
theorem bd_last {bd : List UInt8} (h : bdOk bd = true) : ∃ m x,bd = m ++ [x] ∧ x ≠ 32 ∧ x ≠ 9 := by
 unfold bdOk at h
 simp only [Bool.and_eq_true,decide_eq_true_eq,List.all_eq_true] at h
 rcases List.eq_nil_or_concat bd with rfl | ⟨m,x,rfl⟩
 ·simp at h
 ·have := bdC_not (h.2 x (by simp))
  exact ⟨m,x,by simp,this.1,this.2.1⟩
theorem bd_no10 {bd : List UInt8} (h : bdOk bd = true) : ∀ x ∈ bd,x ≠ 10 := by
 unfold bdOk at h
 simp only [Bool.and_eq_true,decide_eq_true_eq,List.all_eq_true] at h
 exact fun x hx => (bdC_not (h.2 x hx)).2.2
theorem mk_first {bd : List UInt8} (h : bdOk bd = true) : mk bd ([45,45] ++ bd) = 1 := by
 obtain ⟨m,x,rfl,hx⟩ := bd_last h
 rw [mk_one,← List.append_assoc,trimE_id hx]
theorem mk_end (bd : List UInt8) : mk bd ([45,45] ++ bd ++ [45,45]) = 2 := by
 rw [mk_two,show [45,45] ++ bd ++ [45,45] = ([45,45] ++ bd ++ [45]) ++ [45] by simp,trimE_id ⟨by decide,by decide⟩]
def lnB (cur : List UInt8) : List UInt8 → List (List UInt8 × List UInt8) × List UInt8
 | [] => ([],cur)
 | x :: r => if x = 10 then (endl cur :: (lnB [] r).1,(lnB [] r).2) else lnB (cur ++ [x]) r
theorem lnA_app : ∀ (p q cur : List UInt8),lnA cur (p ++ q) = (lnB cur p).1 ++ lnA (lnB cur p).2 q
 | [],q,cur => rfl
 | x :: p,q,cur => by
  rw [List.cons_append,lnA,lnB]
  split
  ·rw [lnA_app p q []]
   rfl
  ·rw [lnA_app p q (cur ++ [x])]
def flat (L : List (List UInt8 × List UInt8)) : List UInt8 := (L.map fun t => t.1 ++ t.2).flatten
theorem flat_cons (t : List UInt8 × List UInt8) (L : List (List UInt8 × List UInt8)) : flat (t :: L) = t.1 ++ t.2 ++ flat L := by simp [flat]
theorem lnB_flat : ∀ (p cur : List UInt8),flat (lnB cur p).1 ++ (lnB cur p).2 = cur ++ p
 | [],cur => by simp [lnB,flat]
 | x :: p,cur => by
  rw [lnB]
  split
  ·rename_i h
   subst h
   rw [flat_cons,endl_app,List.append_assoc,lnB_flat p []]
   simp
  ·rw [lnB_flat p (cur ++ [x])]
   simp
theorem endl_cr (c : List UInt8) : endl (c ++ [13]) = (c,[13,10]) := by
 unfold endl
 rw [if_pos (by simp)]
 simp
theorem lnA_crlf (c rest : List UInt8) : lnA c ([13,10] ++ rest) = (c,[13,10]) :: lnA [] rest := by
 have h := lnA_hit [13] rest c (by simp)
 have e : endl (c ++ [13]) = (c,[13,10]) := endl_cr c
 rw [e] at h
 exact h
theorem line_first {bd rest : List UInt8} (h : bdOk bd = true) : lnA [] ([45,45] ++ bd ++ ([13,10] ++ rest)) = ([45,45] ++ bd,[13,10]) :: lnA [] rest := by
 have hno : ∀ x ∈ [45,45] ++ bd ++ [13],x ≠ 10 := by
  intro x hx
  simp only [List.mem_append,List.mem_cons,List.mem_nil_iff,or_false] at hx
  rcases hx with ((rfl | rfl) | hx) | rfl
  ·decide
  ·decide
  ·exact bd_no10 h x hx
  ·decide
 have h2 := lnA_hit ([45,45] ++ bd ++ [13]) rest [] hno
 have e : endl ([] ++ ([45,45] ++ bd ++ [13])) = ([45,45] ++ bd,[13,10]) := endl_cr _
 rw [e] at h2
 rw [← h2]
 simp
theorem line_end {bd rest : List UInt8} (h : bdOk bd = true) : lnA [] ([45,45] ++ bd ++ ([45,45,13,10] ++ rest)) = ([45,45] ++ bd ++ [45,45],[13,10]) :: lnA [] rest := by
 have hno : ∀ x ∈ [45,45] ++ bd ++ [45,45,13],x ≠ 10 := by
  intro x hx
  simp only [List.mem_append,List.mem_cons,List.mem_nil_iff,or_false] at hx
  rcases hx with ((rfl | rfl) | hx) | (rfl | rfl | rfl)
  ·decide
  ·decide
  ·exact bd_no10 h x hx
  ·decide
  ·decide
  ·decide
 have h2 := lnA_hit ([45,45] ++ bd ++ [45,45,13]) rest [] hno
 have e : endl ([] ++ ([45,45] ++ bd ++ [45,45,13])) = ([45,45] ++ bd ++ [45,45],[13,10]) := by
  rw [List.nil_append,show [45,45] ++ bd ++ [45,45,13] = ([45,45] ++ bd ++ [45,45]) ++ [13] by simp]
  exact endl_cr _
 rw [e] at h2
 rw [← h2]
 simp
def bld (bd : List UInt8) : List (List UInt8) → List UInt8
 | [] => []
 | p :: r => [45,45] ++ bd ++ ([13,10] ++ (p ++ ([13,10] ++ bld bd r)))
def whole (la bd : List UInt8) (ps : List (List UInt8)) (lb : List UInt8) : List UInt8 := la ++ ([10] ++ (bld bd ps ++ ([45,45] ++ bd ++ ([45,45,13,10] ++ lb))))
theorem bld_snoc (bd : List UInt8) : ∀ (ps : List (List UInt8)) (p : List UInt8),bld bd (ps ++ [p]) = bld bd ps ++ ([45,45] ++ bd ++ [13,10]) ++ p ++ [13,10]
 | [],p => by simp [bld]
 | q :: r,p => by
  rw [List.cons_append,bld,bld,bld_snoc bd r p]
  simp
end
section
namespace Fd
open Go.RowKit
def valsN (nm : List UInt8) (fs : List (List UInt8 × List UInt8)) : List (List UInt8) := (fs.filter fun p => sameN p.1 nm).map Prod.snd
theorem valsN_none {nm : List UInt8} {fs : List (List UInt8 × List UInt8)} (h : ahead nm fs = fs.length) : valsN nm fs = [] := by
 have h1 := keepF_none h
 unfold valsN keepF at *
 rw [List.map_eq_nil_iff,List.filter_eq_nil_iff]
 intro p hp
 rw [List.filter_eq_self] at h1
 have := h1 p hp
 simpa using this
theorem valsN_head {nm : List UInt8} : ∀ {fs : List (List UInt8 × List UInt8)} {p : List UInt8 × List UInt8},fs[ahead nm fs]? = some p → (valsN nm fs).head? = some p.2
 | [],_,h => by simp at h
 | q :: fs,p,h => by
  cases hq : sameN q.1 nm with
  | true =>
   have e : ahead nm (q :: fs) = 0 := by simp [ahead,hq]
   rw [e] at h
   simp at h
   subst h
   simp [valsN,hq]
  | false =>
   have e : ahead nm (q :: fs) = ahead nm fs + 1 := by simp [ahead,List.takeWhile_cons,hq]
   rw [e] at h
   have := valsN_head (fs := fs) (p := p) (by simpa using h)
   unfold valsN at *
   rw [List.filter_cons_of_neg (by simp [hq])]
   exact this
def GetOut (nm : List UInt8) (fs : List (List UInt8 × List UInt8)) (e : Ending) : Prop :=
 match (valsN nm fs).head? with
 | some v => e = .returned (.tuple #[.string (bs v),.bool true])
 | none => e = .returned (.tuple #[.string (bs []),.bool false])
theorem get_any (A A2 : Option Addr) (fs : List (List UInt8 × List UInt8)) (nm : List UInt8) (n c n2 c2 : Nat) (w : World) (hn : fs.length = n) (hA : Rf w A fs)
  (hT : Lib.Utf8Tabs 2 3 w) (hnm : nm.length ≤ 1000000000) (hb : n ≤ 1000000) :
  Calls Tryz.prog 43 #[.agg #[.slice A n c,.slice A2 n2 c2],.string (bs nm)] w fun e w' => GetOut nm fs e ∧ Below w.heap.size w w' := by
 have HN := Lib.hid hn
 clear hn
 go_enter Tryz.func43,Tryz.ntmps43
 go_wp2_with fail
 have hB0 : Below w.heap.size w (w.alloc (.cells #[.slice A n c,.slice A2 n2 c2] 39)) := (Below.refl _ _).alloc (Nat.le_refl _) _
 have r0 : Row (w.alloc (.cells #[.slice A n c,.slice A2 n2 c2] 39)) w.heap.size 39 [.slice A n c,.slice A2 n2 c2] := Row.new w #[.slice A n c,.slice A2 n2 c2] 39
 have hs0 : w.heap.size + 1 ≤ (w.alloc (.cells #[.slice A n c,.slice A2 n2 c2] 39)).heap.size := by simp
 generalize w.alloc (.cells #[.slice A n c,.slice A2 n2 c2] 39) = W0 at *
 have c00 : W0.cell? ⟨w.heap.size,0,none⟩ = some (.slice A n c) := r0.cell rfl
 have hD0 : Below W0.heap.size W0 (W0.drew.alloc (.cells #[.string (bs nm)] 9)) := ((Below.refl _ W0).drew).alloc (Nat.le_refl _) _
 have hB1 := hB0.trans (hD0.mono hB0.size)
 have hix := index_any A fs n c W0.heap.size nm (W0.drew.alloc (.cells #[.string (bs nm)] 9)) HN.out (hA.below hB1) (tabs_below hT hB1) ((Row.new W0.drew #[.string (bs nm)] 9).cell (j := 0) rfl) hnm hb
 have c10 := (hD0.cell (p := ⟨w.heap.size,0,none⟩) (cell_lt c00)).trans c00
 go_region_held3 (fun w' => w'.cell? ⟨w.heap.size,0,none⟩ = some (.slice A n c)) (assumption)
  (first
  | (go_at_call 89; refine (named_any nm _).mono ?_; rintro e w4 ⟨rfl,rfl⟩)
  | (go_at_call 88; refine hix.mono ?_; rintro e w5 ⟨rfl,hb5⟩; have c50 := (hb5.cell (p := ⟨w.heap.size,0,none⟩) (cell_lt c10)).trans c10))
 have hB5 := hB1.trans (hb5.mono hB1.size)
 by_cases hlt : ahead nm fs < fs.length
 ·have hpl : placeZ nm fs = (ahead nm fs : Int) := by unfold placeZ; rw [if_pos hlt]
  rw [hpl]
  obtain ⟨p,hp,_⟩ := keepF_at hlt
  have hh := Lib.hid (valsN_head hp)
  rw [HN.out] at hlt
  obtain ⟨b,o,q,rfl,hq,g0,g1⟩ := (hA.below hB5).one (k := ahead nm fs) (by rw [HN.out]; exact hlt)
  obtain rfl : q = p := Option.some.inj (hq.out.symm.trans hp)
  clear hpl hp hix hq
  generalize ahead nm fs = i0 at *
  go_wp2_with fail
  go_ret2
  exact ⟨by unfold GetOut; rw [hh.out]; rfl,hB5⟩
 ·have hal : ahead nm fs = fs.length := by have := ahead_le nm fs; omega
  have hpl : placeZ nm fs = -1 := by unfold placeZ; rw [if_neg hlt]
  rw [hpl]
  have hh := Lib.hid (valsN_none hal)
  clear hpl hix hal hlt
  go_wp2_with fail
  go_ret2
  exact ⟨by unfold GetOut; rw [hh.out]; rfl,hB5⟩
end Fd
end
section
open Go.RowKit
end
section
open Go.RowKit
abbrev ctN : List UInt8 := [67,111,110,116,101,110,116,45,84,121,112,101]
abbrev cteN : List UInt8 := [67,111,110,116,101,110,116,45,84,114,97,110,115,102,101,114,45,69,110,99,111,100,105,110,103]
theorem own_in {w : World} {base : Nat} {e : TypeId} {A : Option Addr} {n c : Nat} {xs : List Value} (h : w.ownsRow base e 1 (.slice A n c) n xs) : ∀ b o,A = some ⟨b,o,none⟩ → base ≤ b ∧ b < w.heap.size := by
 rintro b o rfl
 have := (OwnM.of h).lt b (by simp [Value.ownBlock])
 exact this
end
end Go.Proofs.YtkllecicddfjpaaGreatDoor
