/- The walk of the law, part 17. -/
import Derived.Test.YtkllecicddfjpaaGreatDoorJ02
import Derived.Test.YtkllecicddfjpaaGreatDoorChecked
import Derived.Test.YtkllecicddfjpaaGreatDoorJ16
import Derived.Test.YtkllecicddfjpaaGreatDoorJ01
set_option maxRecDepth 100000
set_option maxHeartbeats 16000000
set_option linter.unusedVariables false
set_option linter.unusedSimpArgs false
namespace Go.Proofs.YtkllecicddfjpaaGreatDoor
section
namespace Ar
open Go.RowKit Go.Shelf
attribute [local go_sem] Oper.semAt_some
theorem or_byte {g : Nat} {y : UInt8} (h : g < 16777216) : Value.int .u32 (bits .or .u32 ((g : Int) * 256) ((y.toNat : Int) % 4294967296)) = .int .u32 ((g * 256 + y.toNat : Nat) : Int) := by
 have hy := y.toNat_lt
 have e1 : (g : Int) * 256 = ((g * 256 : Nat) : Int) := by omega
 have e2 : (y.toNat : Int) % 4294967296 = ((y.toNat : Nat) : Int) := by omega
 rw [e1,e2,u32_or_nat _ _ (by omega) (by omega),nat_join 8 _ _ (by omega) (by omega)]
theorem and63 {G e : Nat} (h : G < 16777216) : bits .and .u32 ((G : Int) / 2 ^ e) 63 = ((G / 2 ^ e % 64 : Nat) : Int) := by
 have e1 : (G : Int) / 2 ^ e = ((G / 2 ^ e : Nat) : Int) := by simp
 have hl : G / 2 ^ e ≤ G := Nat.div_le_self _ _
 rw [e1,show (63 : Int) = ((63 : Nat) : Int) from rfl,u32_and_nat _ _ (by omega) (by omega),nat_mask6]
theorem sign_pad {ys : List UInt8} {k : Nat} (h : ys.length < k) : Value.int .u8 61 = bv (gsign ys k) := by rw [gsign,if_pos h]; rfl
theorem sgs_get (T : Nat) (h : T < (⟨sgs.toArray⟩ : ByteArray).size) : (⟨sgs.toArray⟩ : ByteArray)[T] = sgs.getD T 0 := by
 have h' : T < sgs.length := h
 rw [List.getD_eq_getElem?_getD,List.getElem?_eq_getElem h']
 rfl
theorem sign_of {ys : List UInt8} {k T G : Nat} {h : T < (⟨sgs.toArray⟩ : ByteArray).size} (hT : T = G / 2 ^ (18 - 6 * k) % 64) (hG : gnum ys 3 = G) (hk : ¬ ys.length < k) :
  Value.int .u8 (((⟨sgs.toArray⟩ : ByteArray)[T]'h).toNat : Int) = bv (gsign ys k) := by
 rw [gsign,if_neg hk,hG,← hT,sgs_get,bv]
theorem _root_.Go.Proofs.YtkllecicddfjpaaGreatDoor.Rb.chunk {w : World} {A : Option Addr} {xs : List UInt8} {b o k j n : Nat} (h : Rb w A xs) (hn : xs.length = n) (hA : 0 < n → A = some ⟨b,o,none⟩) (hj : j * k < n) :
  (chk xs k j).length = min k (n - j * k) ∧ Rb w (some ⟨b,o + j * k,none⟩) (chk xs k j) := by
 refine ⟨by simp [chk,hn],fun _ => ⟨b,o + j * k,rfl,fun q v hq => ?_⟩⟩
 obtain ⟨b',o',e,hc⟩ := h (by simp; omega)
 have := hA (by omega)
 rw [e] at this
 cases this
 rw [Nat.add_assoc]
 refine hc _ v ?_
 simp only [chk,List.getElem?_map,List.getElem?_take,List.getElem?_drop] at hq ⊢
 split at hq
 ·exact hq
 ·simp at hq
def encF (xs : List UInt8) (n : Nat) (pre : List (Cj 3 n)) : List UInt8 := pre.flatMap fun j => enc3 (chk xs 3 j.1)
theorem encF_length (xs : List UInt8) (n : Nat) (pre : List (Cj 3 n)) : (encF xs n pre).length ≤ 4 * pre.length := by
 induction pre with
 | nil => simp [encF]
 | cons j pre ih =>
  have h := enc3_length (chk xs 3 j.1)
  have e : encF xs n (j :: pre) = enc3 (chk xs 3 j.1) ++ encF xs n pre := by simp [encF]
  rw [e,List.length_append,List.length_cons]
  omega
theorem encF_all {xs : List UInt8} {n m : Nat} {pre : List (Cj 3 n)} (hn : xs.length = n) (h : pre.map Subtype.val = List.range m) (hm : n ≤ m * 3) : encF xs n pre = enc xs := by
 have e1 : encF xs n pre = (pre.map Subtype.val).flatMap fun j => enc3 (chk xs 3 j) := by simp [encF,List.flatMap_map]
 rw [e1,h,enc,hn]
 obtain ⟨q,rfl⟩ : ∃ q,m = (n + 2) / 3 + q := ⟨m - (n + 2) / 3,by omega⟩
 rw [List.range_add,List.flatMap_append]
 have h0 : ((List.range q).map ((n + 2) / 3 + ·)).flatMap (fun j => enc3 (chk xs 3 j)) = [] := by
  rw [List.flatMap_eq_nil_iff]
  intro j hj
  obtain ⟨i,_,rfl⟩ := List.mem_map.1 hj
  have : chk xs 3 ((n + 2) / 3 + i) = [] := by
   unfold chk
   rw [List.drop_of_length_le (by omega)]
   rfl
  rw [this]
  rfl
 rw [h0,List.append_nil]
theorem enc_in (f : Nat) (hf : 5 ≤ f) (A : Option Addr) (xs : List UInt8) (n c : Nat) (w : World) (hn : xs.length = n) (hA : Rb w A xs) (hnc : n ≤ c) (hc : n ≤ 100000000000) :
  CallsIn Fence.wide f Tryz.prog 54 #[.slice A n c] w fun e w' => e = .returned (.string (bs (enc xs))) ∧ Below w.heap.size w w' := by
 obtain ⟨i0,hi,hz0,hz1,hz2⟩ := info_parts infoU8
 obtain ⟨b,o,hAb⟩ : ∃ b o,0 < n → A = some ⟨b,o,none⟩ := by
  rcases Nat.eq_zero_or_pos n with h | h
  ·exact ⟨0,0,fun h' => by omega⟩
  ·obtain ⟨b,o,x,rfl,_,_⟩ := hA.one (k := 0) (by omega)
   exact ⟨b,o,fun _ => rfl⟩
 have HN := Lib.hid hn
 clear hn
 obtain ⟨X,hX,hmk⟩ := make0 (P := Tryz.prog) Tryz.underlying22 hi hz0 hz1 hz2 rfl .i64 .i64 (((n : Int) + 2) / 3 * 4) ((n + 2) / 3 * 4) (by omega) (by omega) (by omega)
 have HX := Lib.hid hX
 clear hX
 refine callsIn_of_wp_marks Tryz.func54 rfl trivial ?_ rfl
 simp only [Tryz.ntmps54,List.size_toArray,List.length_cons,List.length_nil,Nat.reduceAdd,Nat.reduceSub,Array.replicate_succ,Array.replicate_zero,List.push_toArray,List.append_toArray,List.nil_append,List.cons_append]
 gi_wp2
 refine ⟨trivial,fun h => by simp [Fence.wide] at h,?_⟩
 refine (chunk_in (f - 1) _ _ _ 3 (by omega) _).mono ?_
 rintro e w' ⟨rfl,rfl⟩
 gi_wp2
 have bO := Boxed.new (w.alloc (.cells X 5)) 22 (.slice (some ⟨w.heap.size,0,none⟩) 0 ((n + 2) / 3 * 4))
 rw [World.size_alloc] at bO
 have bS := Boxed.new ((w.alloc (.cells X 5)).alloc (.cells #[.slice (some ⟨w.heap.size,0,none⟩) 0 ((n + 2) / 3 * 4)] 22)) 22 (.slice A n c)
 rw [World.size_alloc,World.size_alloc] at bS
 have bK := Boxed.new (((w.alloc (.cells X 5)).alloc (.cells #[.slice (some ⟨w.heap.size,0,none⟩) 0 ((n + 2) / 3 * 4)] 22)).alloc (.cells #[.slice A n c] 22)) 3 (.int .i64 3)
 rw [World.size_alloc,World.size_alloc,World.size_alloc] at bK
 have hown0 := World.ownsRow_made (base := w.heap.size) (e := 5) (size := 1) w X ((n + 2) / 3 * 4) (Nat.le_refl _) (by unfold maxLen; omega) HX.out
 obtain ⟨W0,hW0⟩ : ∃ W0,(((w.alloc (.cells X 5)).alloc (.cells #[.slice (some ⟨w.heap.size,0,none⟩) 0 ((n + 2) / 3 * 4)] 22)).alloc (.cells #[.slice A n c] 22)).alloc (.cells #[.int .i64 3] 3) = W0 := ⟨_,rfl⟩
 have hB0 : Below w.heap.size w W0 := by
  rw [← hW0]
  exact ((((Below.refl _ w).alloc (Nat.le_refl _) _).alloc (by simp) _).alloc (by simp; omega) _).alloc (by simp; omega) _
 have hsz : W0.heap.size = w.heap.size + 4 := by rw [← hW0]; simp
 have hI0 : (∃ v,Boxed W0 (w.heap.size + 1) 22 v ∧ W0.ownsRow w.heap.size 5 1 v (encF xs n []).length ((encF xs n []).map bv)) ∧ Boxed W0 (w.heap.size + 1 + 1) 22 (.slice A n c) ∧ Boxed W0 (w.heap.size + 1 + 1 + 1) 3 (.int .i64 3) := by
  rw [← hW0]
  exact ⟨⟨_,(bO.alloc _).alloc _,((hown0.alloc _).alloc _).alloc _⟩,bS.alloc _,bK⟩
 rw [hW0] at bK ⊢
 refine wpIn_rangeFunc_ownG (α := Cj 3 n) rfl (by omega) (gf := 170) (lb := #[.pointer (some ⟨w.heap.size + 1 + 1,0,none⟩),.pointer (some ⟨w.heap.size + 1 + 1 + 1,0,none⟩)]) rfl trivial (enters_of Tryz.func170 (by kernel_rfl) rfl)
  (chunk_stops (f - 1) (w.heap.size + 1 + 1) b o n c 3 A hAb (by omega) (by omega) hnc (by omega) W0 (by omega) hI0.2.1.cell hI0.2.2.cell) (fun h k => h.trans k) (fun W l o o' hl h _ _ => Kept.putObj W (.inr (by omega)) _) (Below.refl _ _) (fun _ => rfl)
  (fun pre W => ((∃ v,Boxed W (w.heap.size + 1) 22 v ∧ W.ownsRow w.heap.size 5 1 v (encF xs n pre).length ((encF xs n pre).map bv)) ∧ Boxed W (w.heap.size + 1 + 1) 22 (.slice A n c) ∧ Boxed W (w.heap.size + 1 + 1 + 1) 3 (.int .i64 3)) ∧ Below w.heap.size w W)
  (fun _ _ _ => False)
  ?own
  (fun _ _ _ _ _ hs _ _ => hs)
  ⟨hI0,hB0⟩
  (fun x => { tmps := #[.slice A n c,undef,.string ⟨#[]⟩,.pointer (some ⟨w.heap.size + 1,0,none⟩),chv b o 3 n x.1,undef,undef,undef,undef,.slice A n c,.int .i64 n,.int .i64 ((n : Int) + 2),.int .i64 (((n : Int) + 2) / 3),.int .i64 (((n : Int) + 2) / 3 * 4),.slice (some ⟨w.heap.size,0,none⟩) 0 ((n + 2) / 3 * 4),.slice A n c,.func (.func 170) #[] #[.pointer (some ⟨w.heap.size + 1 + 1,0,none⟩),.pointer (some ⟨w.heap.size + 1 + 1 + 1,0,none⟩)],chv b o 3 n x.1,undef,undef,undef,undef,undef,undef,undef,undef,undef,undef,undef,undef,undef,undef,undef,undef,undef,undef,undef,undef,undef,undef,undef,undef,undef,undef,undef,undef,undef,undef,undef,undef,undef,undef,undef,undef,undef,undef],defers := [] }) ?assign ?body ?done ?stop
 case own =>
  refine OwnFrom.and (OwnFrom.and (fun s W W' row hs hg hr => ?_) (OwnFrom.and (Own.from (boxed_own _ _ _) _) (Own.from (boxed_own _ _ _) _))) (ownFrom_below (Nat.le_refl _) (by omega))
  obtain ⟨v,h1,h2⟩ := hs
  obtain ⟨v',a,b,_⟩ := (Own.from (holdsRow_own w.heap.size (w.heap.size + 1) 22 5 1 (fun pre => (encF xs n pre).length) (fun pre => (encF xs n pre).map bv) (fun _ _ => True)) _) s W W' row ⟨v,h1,h2,trivial⟩ hg hr
  exact ⟨v',a,b⟩
 case assign =>
  intro l x W K hK
  gi_wp2
  exact hK
 case body =>
  rintro l pre x W ⟨⟨⟨v,hv,hrow⟩,hbS,hbK⟩,hB⟩ hlt
  clear hW0 hsz bO bS bK hown0 hB0
  obtain ⟨j,hj⟩ := x
  obtain ⟨hyl,hyr⟩ := (hA.below hB).chunk HN.out hAb hj
  simp only [chv]
  have hpre : encF xs n (pre ++ [⟨j,hj⟩]) = encF xs n pre ++ enc3 (chk xs 3 j) := by simp [encF]
  have HP := Lib.hid hpre
  clear hpre hI0
  have hm1 : 1 ≤ min 3 (n - j * 3) := by omega
  have hm2 : min 3 (n - j * 3) ≤ 3 := by omega
  generalize chk xs 3 j = ys at *
  generalize min 3 (n - j * 3) = m at *
  generalize o + j * 3 = p at *
  have hplen : (encF xs n pre).length ≤ 4 * n := Nat.le_trans (encF_length xs n pre) (by omega)
  generalize encF xs n pre = ps at *
  have HY := Lib.hid hyl
  clear hyl
  gi_wp2
  gi_loopw [5,18] (fun a i wr => ∃ k : Nat,k ≤ 3 ∧ i = .int .i64 k ∧ a = .int .u32 (gnum ys k) ∧ wr = W) (fun _ i _ => 3 - (intOf i).toNat)
  case atStart => exact ⟨0,by omega,rfl,rfl,rfl⟩
  case round =>
   obtain ⟨k,hk,rfl,rfl,rfl⟩ := hrel
   have hg := gnum_lt ys k
   have hg2 : gnum ys k < 16777216 := by
    rcases (by omega : k = 0 ∨ k = 1 ∨ k = 2 ∨ k = 3) with rfl | rfl | rfl | rfl <;> omega
   clear hg
   by_cases hk3 : k < 3
   ·by_cases hkm : k < m
    ·obtain ⟨b',o',y,e,HK,hcell⟩ := hyr.one (k := k) (by rw [HY.out]; exact hkm)
     cases e
     gi_wp2
     go_roundw
     case rel => exact ⟨k + 1,by omega,by go_num,by rw [or_byte hg2,gnum_some HK.out],trivial⟩
     case measure => simp [intOf]; omega
    ·have hnone : ys[k]? = none := List.getElem?_eq_none (by rw [HY.out]; omega)
     have HNo := Lib.hid hnone
     clear hnone
     gi_wp2
     go_roundw
     case rel => exact ⟨k + 1,by omega,by go_num,by rw [gnum_none HNo.out]; go_num,trivial⟩
     case measure => simp [intOf]; omega
   ·obtain rfl : k = 3 := by omega
    have hbS0 := hbS
    have hbK0 := hbK
    obtain ⟨Wo,rfl⟩ : ∃ Wo : World,Wo = wr := ⟨_,rfl⟩
    gi_wp2
    gi_loopw [35] (fun i wr' => ∃ k : Nat,k ≤ 4 ∧ i = .int .i64 k ∧ (∃ v,Boxed wr' (w.heap.size + 1) 22 v ∧ wr'.ownsRow w.heap.size 5 1 v (ps.length + k) ((ps ++ (List.range k).map (gsign ys)).map bv)) ∧
     Boxed wr' (w.heap.size + 1 + 1) 22 (.slice A n c) ∧ Boxed wr' (w.heap.size + 1 + 1 + 1) 3 (.int .i64 3) ∧ KeepsOthers Wo wr' ∧ Below w.heap.size Wo wr') (fun i _ => 4 - (intOf i).toNat)
    case atStart => exact ⟨0,by omega,rfl,⟨v,hv,by simpa using hrow⟩,hbS,hbK,KeepsOthers.refl _,Below.refl _ _⟩
    case round =>
     clear hv hrow hbS hbK
     obtain ⟨k,hk,rfl,⟨v,hv,hrow⟩,hbS,hbK,hko,hbl⟩ := hrel
     generalize hG : gnum ys 3 = G at *
     have HG := Lib.hid hG
     clear hG
     by_cases hk4 : k < 4
     ·have hc := hv.cell
      have hsz : w.heap.size ≤ wr.heap.size := by have := hB.size; have := hbl.size; omega
      obtain ⟨T,hT⟩ : ∃ T,T = G / 2 ^ (18 - 6 * k) % 64 := ⟨_,rfl⟩
      have hT64 : T < 64 := by rw [hT]; exact Nat.mod_lt _ (by omega)
      have hand : bits .and .u32 ((G : Int) / 2 ^ (18 - 6 * k)) 63 = (T : Int) := by rw [hT]; exact and63 hg2
      have HT := Lib.hid hT
      clear hT
      by_cases hkm : m < k
      ·have hkm' := hkm
       gi_wp2_with (gi_at_builtin; refine wpListIn_append_own _ rfl _ _ 22 rfl w.heap.size 5 i0 (.int .u8 0) 1 1 Tryz.underlying22 hi hz0 hz1 hz2 rfl (by decide) _ _ _ rfl (hrow.alloc _) ⟨wr.heap.size,0,none⟩ 1 1 [_] rfl rfl (cell_one_new _ _ _) (by simp [Value.oneCell']) (by unfold maxLen; omega) (by omega) (by simp; omega) ?_; intro v' w1 hown' hgrow _; obtain ⟨g',cap',rfl⟩ := ownsRow_succ hown'; obtain ⟨hv1,hv2,hr2,hk2,hb2⟩ := hv.appended (by decide) hrow hsz (by omega) hown' hgrow; have hc1 := hv1.cell; have hf1 := hv1.frozen)
       go_roundw
       case rel => exact ⟨_,_,_,_,_,_,_,_,_,_,_,_,_,_,_,_,_,_,_,_,_,⟨k + 1,by omega,by go_num,⟨_,hv2,own_snoc hr2 (sign_pad (by rw [HY.out]; exact hkm)) (by rw [List.range_succ,List.map_append,List.append_assoc]; rfl)⟩,box_far hbS (by decide) hrow hgrow (by omega),box_far hbK (by decide) hrow hgrow (by omega),hko.trans hk2,hbl.trans hb2⟩,rfl⟩
       case measure => simp [intOf]; omega
      ·have hkm' := hkm
       gi_wp2_with (gi_at_builtin; refine wpListIn_append_own _ rfl _ _ 22 rfl w.heap.size 5 i0 (.int .u8 0) 1 1 Tryz.underlying22 hi hz0 hz1 hz2 rfl (by decide) _ _ _ rfl (hrow.alloc _) ⟨wr.heap.size,0,none⟩ 1 1 [_] rfl rfl (cell_one_new _ _ _) (by simp [Value.oneCell']) (by unfold maxLen; omega) (by omega) (by simp; omega) ?_; intro v' w1 hown' hgrow _; obtain ⟨g',cap',rfl⟩ := ownsRow_succ hown'; obtain ⟨hv1,hv2,hr2,hk2,hb2⟩ := hv.appended (by decide) hrow hsz (by omega) hown' hgrow; have hc1 := hv1.cell; have hf1 := hv1.frozen)
       go_roundw
       case rel => exact ⟨_,_,_,_,_,_,_,_,_,_,_,_,_,_,_,_,_,_,_,_,_,⟨k + 1,by omega,by go_num,⟨_,hv2,own_snoc hr2 (sign_of HT.out HG.out (by rw [HY.out]; omega)) (by rw [List.range_succ,List.map_append,List.append_assoc]; rfl)⟩,box_far hbS (by decide) hrow hgrow (by omega),box_far hbK (by decide) hrow hgrow (by omega),hko.trans hk2,hbl.trans hb2⟩,rfl⟩
       case measure => simp [intOf]; omega
     ·obtain rfl : k = 4 := by omega
      gi_wp2
      have hne : ys ≠ [] := by
       rintro rfl
       have := HY.out
       simp at this
       omega
      refine ⟨hko.from _,fun q h1 h2 => ?_,⟨⟨v,hv,?_⟩,hbS,hbK⟩,hB.trans hbl⟩
      ·rcases (by omega : q = w.heap.size + 1 + 1 ∨ q = w.heap.size + 1 + 1 + 1) with rfl | rfl
       ·exact (show _ = _ from hbS).trans (show _ = _ from hbS0).symm
       ·exact (show _ = _ from hbK).trans (show _ = _ from hbK0).symm
      ·rw [HP.out,enc3,if_neg hne]
       simpa using hrow
 case done =>
  rintro D ys W hD ⟨m,hm1,hm2⟩ ⟨⟨⟨v,hv,hrow⟩,_,_⟩,hB⟩ hK
  rw [encF_all HN.out hm1 hm2] at hrow
  obtain ⟨Av,cv,rfl,hvr⟩ := own_reads hrow
  have hc := hv.cell
  have hcs := conv_str (P := Tryz.prog) (src := 22) (dst := 9) (e := 5) Tryz.underlying22 Tryz.underlying5 Tryz.underlying9 (c := cv) hvr rfl
  gi_wp2
  refine ⟨by simp,.inl ⟨_,_,rfl,run_takeDeferred hK,?_⟩⟩
  exact ⟨_,results_tmp rfl _ _ _,rfl,hB.trans (belowK_b (w := W0) (by omega) W D _ _ hD hK rfl rfl)⟩
 case stop =>
  rintro D c pre W _ _ h _
  exact h.elim
theorem enc_any (A : Option Addr) (xs : List UInt8) (n c : Nat) (w : World) (hn : xs.length = n) (hA : Rb w A xs) (hnc : n ≤ c) (hc : n ≤ 100000000000) :
  Calls Tryz.prog 54 #[.slice A n c] w fun e w' => e = .returned (.string (bs (enc xs))) ∧ Below w.heap.size w w' :=
 callsIn_wide.1 (enc_in 5 (by omega) A xs n c w hn hA hnc hc)
end Ar
end
section
namespace Ar
open Go.RowKit
theorem or_six {g v : Nat} (h : g < 16777216) (hv : v < 64) : Value.int .u32 (bits .or .u32 ((g : Int) * 64) (v : Int)) = .int .u32 ((g * 64 + v : Nat) : Int) := by
 have e1 : (g : Int) * 64 = ((g * 64 : Nat) : Int) := by omega
 rw [e1,u32_or_nat _ _ (by omega) (by omega),nat_join 6 _ _ (by omega) (by omega)]
def PartOut (l : List UInt8) (w : World) (e : Ending) (w' : World) : Prop :=
 ∃ A n c ok ys,e = .returned (.tuple #[.slice A n c,.bool ok]) ∧ ys.length = n ∧ n ≤ c ∧ c ≤ 3 ∧ Rb w' A ys ∧
  (ok = true → 1 ≤ n ∧ enc ys = l) ∧ (ok = false → ∀ zs,1 ≤ zs.length → zs.length ≤ 3 → enc zs ≠ l) ∧ Below w.heap.size w w'
theorem part_any (l : List UInt8) (w : World) (hs : l.length = 4) :
  Calls Tryz.prog 161 #[.string (bs l)] w (PartOut l w) := by
 have HS := Lib.hid hs
 clear hs
 go_enter Tryz.func161,Tryz.ntmps161
 go_upto_block 0 with fail
 go_cut [4] (fun s4 wx => s4 = .int .i64 (psize l) ∧ wx = w)
 case first =>
  go_wp2_with fail
  go_loop [4] (fun i => ∃ k : Nat,k ≤ 3 ∧ i = .int .i64 k ∧ ∀ i,k < i → i ≤ 3 → l[i]? = some 61) (fun i => (intOf i).toNat)
  case atStart => exact ⟨3,by omega,rfl,fun i h1 h2 => by omega⟩
  case round =>
   obtain ⟨k,hk,rfl,hrel⟩ := hrel
   have HR := Lib.hid hrel
   clear hrel
   by_cases h0 : 0 < k
   ·obtain ⟨x,hx⟩ : ∃ x,l[k]? = some x := ⟨_,List.getElem?_eq_getElem (by rw [HS.out]; omega)⟩
    have hi := str_index (P := Tryz.prog) Tryz.underlying9 hx .i64
    have HX := Lib.hid hx
    clear hx
    by_cases h61 : x = 61
    ·have hb : ((x.toNat : Int) == 61) = true := by subst h61; rfl
     go_wp2
     go_round
     case rel =>
      refine ⟨k - 1,by omega,by go_num,fun i h1 h2 => ?_⟩
      by_cases e : i = k
      ·rw [e,HX.out,h61]
      ·exact HR.out i (by omega) h2
     case measure => simp [intOf]; omega
    ·have hb : ((x.toNat : Int) == 61) = false := by
      have : (x.toNat : Int) ≠ ((61 : UInt8).toNat : Int) := fun e => h61 (u8_eq.1 e)
      simpa using this
     go_wp2
     go_meet
     exact ⟨by rw [psize_eq hk HR.out (.inr (by rw [HX.out]; simpa using h61))],rfl⟩
   ·obtain rfl : k = 0 := by omega
    go_wp2
    go_meet
    exact ⟨by rw [psize_eq hk HR.out (.inl rfl)]; rfl,rfl⟩
 case rest =>
  obtain ⟨rfl,rfl⟩ := hcut
  have hp := psize_le l
  go_wp2_with fail
  go_loop [5,20] (fun n i => ∃ k : Nat,k ≤ 4 ∧ i = .int .i64 k ∧ n = .int .u32 (vnum l k) ∧ ∀ i,i < k → i ≤ psize l → sok (l[i]?.getD 0) = true) (fun _ i => 4 - (intOf i).toNat)
  case atStart => exact ⟨0,by omega,rfl,rfl,fun i h1 h2 => by omega⟩
  case round =>
   obtain ⟨k,hk,rfl,rfl,hrel⟩ := hrel
   have HR := Lib.hid hrel
   clear hrel
   by_cases h4 : k < 4
   ·obtain ⟨x,hx⟩ : ∃ x,l[k]? = some x := ⟨_,List.getElem?_eq_getElem (by rw [HS.out]; omega)⟩
    have hi := str_index (P := Tryz.prog) Tryz.underlying9 hx .i64
    have HX := Lib.hid hx
    clear hx
    have hg : vnum l k < 16777216 := by
     have := vnum_lt l k
     rcases (by omega : k = 0 ∨ k = 1 ∨ k = 2 ∨ k = 3) with rfl | rfl | rfl | rfl <;> omega
    have hv := svn_lt x
    have hval : Calls Tryz.prog 210 #[.int .u8 x.toNat] wc fun e w' => e = .returned (.tuple #[.int .u32 (svn x : Int),.bool (sok x)]) ∧ wc = w' := by
     have h := value_any x.toNat (u8_ge x) (u8_lt x) wc
     have hb := sval_bd x.toNat
     have e1 : (sval x.toNat).1 = (svn x : Int) := by unfold svn; omega
     rw [e1] at h
     exact h
    have HV := Lib.hid hval
    clear hval
    by_cases hok : sok x = true
    ·go_wp2_with fail
     refine HV.out.mono ?_
     rintro e w' ⟨rfl,rfl⟩
     rw [hok]
     go_wp2
     go_round
     case rel =>
      refine ⟨k + 1,by omega,by go_num,by rw [or_six hg hv,vnum,HX.out]; rfl,fun i h1 h2 => ?_⟩
      by_cases e : i = k
      ·rw [e,HX.out]; exact hok
      ·exact HR.out i (by omega) h2
     case measure => simp [intOf]; omega
    ·have hok' : sok x = false := by simpa using hok
     by_cases hkp : k ≤ psize l
     ·go_wp2_with fail
      refine HV.out.mono ?_
      rintro e w' ⟨rfl,rfl⟩
      rw [hok']
      go_wp2
      go_ret2
      refine ⟨none,0,0,false,[],rfl,rfl,by omega,by omega,Rb.nil _ _,by simp,fun _ zs h1 h3 e => ?_,Below.refl _ _⟩
      rw [enc_one zs h1 h3] at e
      have := (part_back zs h1 h3).2.1 k (by rw [← (part_back zs h1 h3).1,e]; exact hkp) h4
      rw [e,HX.out] at this
      exact hok this
     ·go_wp2_with fail
      refine HV.out.mono ?_
      rintro e w' ⟨rfl,rfl⟩
      rw [hok']
      go_wp2
      go_round
      case rel =>
       refine ⟨k + 1,by omega,by go_num,by rw [or_six hg hv,vnum,HX.out]; rfl,fun i h1 h2 => ?_⟩
       exact HR.out i (by omega) h2
      case measure => simp [intOf]; omega
   ·obtain rfl : k = 4 := by omega
    have hcs : #[Value.int .u8 ((vnum l 4 : Int) / 65536 % 256),.int .u8 ((vnum l 4 : Int) / 256 % 256),.int .u8 ((vnum l 4 : Int) % 256)] =
      (([UInt8.ofNat (vnum l 4 / 65536),UInt8.ofNat (vnum l 4 / 256),UInt8.ofNat (vnum l 4)] : List UInt8).map bv).toArray := by
     simp [bv]
    have hRb := Rb_new wc _ 5 _ hcs (psize l)
    have hlen := pbytes_length l
    rw [show List.take (psize l) _ = pbytes l from rfl] at hRb
    have HL := Lib.hid hlen
    have HC := Lib.hid hcs
    clear hlen hcs
    by_cases h0 : 0 < psize l
    ·go_wp2_with fail
     refine (enc_any _ (pbytes l) _ _ _ HL.out hRb hp (by omega)).mono ?_
     rintro e w1 ⟨rfl,hb1⟩
     have hpl := HL.out
     go_wp2
     go_ret2
     refine ⟨_,_,_,_,pbytes l,rfl,HL.out,hp,by omega,hRb.below hb1,?_,?_,?_⟩
     ·intro h
      exact ⟨h0,by simpa using h⟩
     ·intro h zs h1 h3 e
      rw [enc_one zs h1 h3] at e
      have hz := (part_back zs h1 h3).2.2
      rw [e] at hz
      rw [hz,enc_one zs h1 h3,e] at h
      simp at h
     ·exact (((Below.refl _ wc).alloc (Nat.le_refl _) _).trans (hb1.mono (by simp)))
    ·go_wp2_with fail
     go_ret2
     refine ⟨_,_,_,_,pbytes l,rfl,HL.out,hp,by omega,hRb,?_,?_,(Below.refl _ wc).alloc (Nat.le_refl _) _⟩
     ·intro h
      simp at h
     ·intro h zs h1 h3 e
      rw [enc_one zs h1 h3] at e
      have hz := (part_back zs h1 h3).1
      rw [e] at hz
      omega
end Ar
end
section
namespace Ar
open Go.RowKit
theorem dec_group {l a : List UInt8} {k q : Nat} (e : enc a = l) (hq : q = 4 * k) (h : q < l.length) :
  1 ≤ (chk a 3 k).length ∧ (chk a 3 k).length ≤ 3 ∧ enc (chk a 3 k) = (l.drop q).take 4 ∧ (q + 4 < l.length → (chk a 3 k).length = 3) := by
 subst hq
 have hl := enc_length a
 rw [e] at hl
 have hlen : (chk a 3 k).length = min 3 (a.length - k * 3) := by simp [chk]
 have h1 : 1 ≤ (chk a 3 k).length := by omega
 have h3 : (chk a 3 k).length ≤ 3 := by omega
 refine ⟨h1,h3,?_,fun h4 => by omega⟩
 rw [enc_one _ h1 h3,← enc_group a k (by omega),e]
theorem take_add4 {l : List UInt8} {q : Nat} : l.take (q + 4) = l.take q ++ (l.drop q).take 4 := by rw [List.take_add]
end Ar
end
section
namespace Ar
open Go.RowKit
end Ar
end
end Go.Proofs.YtkllecicddfjpaaGreatDoor
