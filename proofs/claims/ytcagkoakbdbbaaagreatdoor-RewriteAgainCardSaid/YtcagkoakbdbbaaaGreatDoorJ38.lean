/- slices.Delete of one field of a row of fields. · slices.Concat of two rows of bytes. -/
import Derived.Test.YtcagkoakbdbbaaaGreatDoorJ37
import Derived.Shelf.Spec.SlicesGrow
namespace Go.Proofs.YtcagkoakbdbbaaaGreatDoor
set_option linter.unusedVariables false
set_option linter.unusedSimpArgs false
open Go.RowKit Go.Sort

/-- a slice, as three parts -/
abbrev Sl3 := Option Addr × Nat × Nat
def enc3 (x : Sl3) : Value := .slice x.1 x.2.1 x.2.2
def sl3 : Value → Sl3
  | .slice a n c => (a, n, c)
  | _ => (none, 0, 0)
theorem putRow_other {α : Type} [Inhabited α] (enc : α → Value) (w : World) (q blk off : Nat) (d : Array α) (k : Nat) (hk : k ≠ blk) : (putRow enc (Sort.ahead w q) blk off d).heap[k]? = w.heap[k]? := by
  show (w.heap.modify blk _)[k]? = _
  rw [Array.getElem?_modify, if_neg (fun e => hk e.symm)]
theorem putRow_same {α : Type} [Inhabited α] (enc : α → Value) (w : World) (q blk off : Nat) (d : Array α) {cs : Array Value} {t : TypeId} {fr : Nat × Nat} (h : w.heap[blk]? = some (.cells cs t fr)) : (putRow enc (Sort.ahead w q) blk off d).heap[blk]? = some (.cells (putCells enc off d cs) t fr) := by
  show (w.heap.modify blk _)[blk]? = _
  rw [Array.getElem?_modify, if_pos rfl, h]
  rfl
theorem putRow_ext {α : Type} [Inhabited α] (enc : α → Value) (w : World) (q blk off : Nat) (d : Array α) : Ext (fun k => k = blk) w (putRow enc (Sort.ahead w q) blk off d) :=
  ⟨rfl, rfl, rfl, by show w.heap.size ≤ (w.heap.modify blk _).size; simp, fun k _ hk => putRow_other enc w q blk off d k hk⟩
theorem putCells_take {α : Type} [Inhabited α] (enc : α → Value) (d : List α) (cs : Array Value) (m : Nat) (h1 : m ≤ d.length) (h2 : m ≤ cs.size) : (putCells enc 0 d.toArray cs).toList.take m = (d.take m).map enc := by
  apply List.ext_getElem?
  intro j
  rw [List.getElem?_take, List.getElem?_map, List.getElem?_take]
  by_cases hj : j < m
  · rw [if_pos hj, if_pos hj, Array.getElem?_toList]
    unfold putCells
    rw [Array.getElem?_mapIdx, Array.getElem?_eq_getElem (by omega)]
    have h3 : j < d.length := by omega
    simp [h3]
  · rw [if_neg hj, if_neg hj]
    rfl

set_option maxRecDepth 100000 in
set_option maxHeartbeats 1000000 in
theorem delete_any (Af : Option Addr) (fs : List (List UInt8)) (B n cf a : Nat) (w : World) (hF : FR w B (.slice Af n cf) fs) (ha : a < n) (hn : n ≤ 1000000) :
    Calls Tryz.prog 42 #[.slice Af n cf, .int .i64 a, .int .i64 ((a : Int) + 1)] w fun e w' => e = .returned (.slice Af (n - 1) cf) ∧ FR w' B (.slice Af (n - 1) cf) (fs.eraseIdx a) ∧ Ext (fun k => nb (.slice Af n cf) k) w w' := by
  obtain ⟨vs, ho, he⟩ := hF
  have hvl : vs.length = fs.length := by have := ho.1; omega
  obtain ⟨bg, cur, hgo, hbg, hheap, hnc, hcm, hcs, htk, hfl⟩ : ∃ go cur, Af = some ⟨go, 0, none⟩ ∧ B ≤ go ∧ w.heap[go]? = some (.cells cur 22 (0, 0)) ∧ n ≤ cf ∧ cf ≤ maxLen ∧ cur.size = cf * 1 ∧ cur.toList.take (fs.length * 1) = vs ∧ fs.length = n := by
    rcases ho.2 with ⟨hv, h0⟩ | ⟨g, cap, cur, hv, hbg, hg, h1, h2, h3, h4⟩
    · injection hv with e1 e2 e3; omega
    · injection hv with e1 e2 e3; subst e1; subst e3; exact ⟨g, cur, rfl, hbg, hg, by omega, h2, h3, h4, e2.symm⟩
  subst hgo
  rw [Nat.mul_one] at hcs htk
  have h1 : OneCell enc3 := fun x => rfl
  have hi := infoBs
  cases hq : Tryz.prog.info? 22 with
  | none => rw [hq] at hi; cases hi
  | some i0 =>
    rw [hq] at hi
    simp only [Option.map_some, Option.some.injEq, Prod.mk.injEq] at hi
    have hvt : ∀ v ∈ vs, enc3 (sl3 v) = v := by
      intro v hv
      obtain ⟨j, hj⟩ := List.getElem?_of_mem hv
      obtain ⟨l, hl⟩ : ∃ l, fs[j]? = some l := ⟨_, List.getElem?_eq_getElem (by have := lt_of_get hj; omega)⟩
      obtain ⟨b, o, c, k1, _⟩ := he j l hl
      rw [hj] at k1
      cases k1
      rfl
    have hmap : (vs.map sl3).map enc3 = vs := by
      rw [List.map_map]
      conv => rhs; rw [← List.map_id vs]
      exact List.map_congr_left fun v hv => hvt v hv
    have hH : Holds enc3 w bg 0 (vs.map sl3).toArray := by
      intro j hj
      have hj2 : j < vs.length := by simpa using hj
      refine ⟨?_, frozen_of_row w bg _ cur 22 hheap⟩
      have h3 : cur[j]? = some vs[j] := by
        rw [← Array.getElem?_toList]
        have h4 := congrArg (·[j]?) htk
        rw [List.getElem?_take, if_pos (by omega)] at h4
        rw [h4, List.getElem?_eq_getElem hj2]
      rw [Nat.zero_add]
      simp only [World.cell?, hheap]
      have h5 : enc3 (vs.map sl3).toArray[j]! = vs[j] := by
        rw [getElem!_pos _ j hj]
        simp only [List.getElem_toArray, List.getElem_map]
        exact hvt _ (List.getElem_mem _)
      rw [h5]
      simpa using h3
    have h := AnyE.slices_Delete Tryz.deleteBB enc3 h1 (none, 0, 0) (fun w => Tryz.zeroValue22 w) i0 hq hi.2.1 bg 0 cf a (a + 1) (vs.map sl3).toArray w hH (by simp; omega) (by unfold maxLen at hcm; omega) (by omega) (by simp; omega)
    have hsz : (vs.map sl3).toArray.size = n := by simp; omega
    rw [hsz] at h
    have e1 : ((a + 1 : Nat) : Int) = (a : Int) + 1 := by omega
    rw [e1, show n - (a + 1 - a) = n - 1 from by omega, show a + 1 - a = 1 from by omega] at h
    refine h.mono ?_
    rintro e w' ⟨rfl, q, rfl⟩
    have hx := putRow_ext enc3 w q bg 0 ((vs.map sl3).take a ++ (vs.map sl3).drop (a + 1) ++ List.replicate 1 (none, 0, 0)).toArray
    refine ⟨rfl, ⟨vs.eraseIdx a, ⟨?_, .inr ⟨bg, cf, _, ?_, hbg, putRow_same enc3 w q bg 0 _ hheap, ?_, hcm, ?_, ?_⟩⟩, fun j l hj => ?_⟩, hx.mono fun b hb => by subst hb; simp [nb, Value.ownBlock]⟩
    · rw [List.length_eraseIdx, List.length_eraseIdx]
      split <;> split <;> omega
    · rw [List.length_eraseIdx, if_pos (by omega), hfl]
    · rw [List.length_eraseIdx, if_pos (by omega)]; omega
    · rw [putCells, Array.size_mapIdx, hcs, Nat.mul_one]
    · have h7 : (fs.eraseIdx a).length * 1 = n - 1 := by rw [List.length_eraseIdx, if_pos (by omega)]; omega
      rw [h7, putCells_take _ _ _ _ (by simp; omega) (by omega)]
      rw [List.take_append_of_le_length (by simp; omega), List.take_of_length_le (by simp; omega), List.map_append, List.map_take, List.map_drop, hmap, List.eraseIdx_eq_take_drop_succ]
    · rw [List.getElem?_eraseIdx] at hj
      obtain ⟨j', hj', hv'⟩ : ∃ j', fs[j']? = some l ∧ (vs.eraseIdx a)[j]? = vs[j']? := by
        rw [List.getElem?_eraseIdx]
        split at hj
        · rename_i hlt; exact ⟨j, hj, by rw [if_pos hlt]⟩
        · rename_i hlt; exact ⟨j + 1, hj, by rw [if_neg hlt]⟩
      obtain ⟨b, o, c, k1, k2, k3, k4, k5⟩ := he j' l hj'
      have k6 : b ≠ bg := fun e => k5 (by rw [e]; simp [nb, Value.ownBlock])
      exact ⟨b, o, c, by rw [hv']; exact k1, k2, k3, rb_ext1 k4 k3 hx k6, by intro e; simp [nb, Value.ownBlock] at e; exact k6 e.symm⟩
end Go.Proofs.YtcagkoakbdbbaaaGreatDoor

namespace Go.Proofs.YtcagkoakbdbbaaaGreatDoor
set_option linter.unusedVariables false
set_option linter.unusedSimpArgs false
open Go.RowKit

def grow_ren : Go.Shelf.Ren := ⟨fun | 4 => 37 | n => n, fun | 0 => 0 | 3 => 3 | 4 => 4 | 9 => 9 | 20 => 20 | 22 => 22 | 25 => 5 | n => n, fun | n => n⟩
theorem growB : Go.Proofs.Lays8.n4 Tryz.prog grow_ren := {
  mixed := by kernel_rfl
  f4 := ⟨Tryz.f37.name, by decide, Tryz.func37.trans (congrArg some (by kernel_rfl))⟩
  t0 := Tryz.underlying0
  a0 := Tryz.isAgg0
  z0 := Tryz.sizeOf0
  v0 := Tryz.zeroValue0
  t3 := Tryz.underlying3
  a3 := Tryz.isAgg3
  z3 := Tryz.sizeOf3
  v3 := Tryz.zeroValue3
  t4 := Tryz.underlying4
  a4 := Tryz.isAgg4
  z4 := Tryz.sizeOf4
  v4 := Tryz.zeroValue4
  t9 := Tryz.underlying9
  a9 := Tryz.isAgg9
  z9 := Tryz.sizeOf9
  v9 := Tryz.zeroValue9
  t20 := Tryz.underlying20
  a20 := Tryz.isAgg20
  z20 := Tryz.sizeOf20
  v20 := Tryz.zeroValue20
  t22 := Tryz.underlying22
  a22 := Tryz.isAgg22
  z22 := Tryz.sizeOf22
  v22 := Tryz.zeroValue22 }
/-- room made on nothing -/
theorem grow_any (n : Nat) (w : World) (h0 : 0 < n) (hn : n ≤ 1000000000) :
    Calls Tryz.prog 37 #[.slice none 0 0, .int .i64 n] w fun e w' => (∃ v, e = .returned v ∧ w'.ownsRow w.heap.size 5 1 v 0 []) ∧ Below w.heap.size w w' := by
  have hi := infoU8
  cases hq : Tryz.prog.info? 5 with
  | none => rw [hq] at hi; cases hi
  | some i0 =>
    rw [hq] at hi
    simp only [Option.map_some, Option.some.injEq, Prod.mk.injEq] at hi
    obtain ⟨hz, hs, hb⟩ := hi
    have h := Any8.slices_Grow_grow growB i0 _ hq hz (by omega) none 0 0 n [] w (Nat.le_refl _) (by omega) (by rw [hb]; omega) (by omega) (by simp) (fun _ => rfl) (fun a e => by cases e)
    refine h.mono ?_
    rintro e w' ⟨rfl, rfl⟩
    have hge := grownCap_ge w (0 + n) 0 (grow_ren.t 25)
    refine ⟨⟨_, rfl, by simp, .inr ⟨w.heap.size, _, _, rfl, Nat.le_refl _, heap_alloc_new w.drew _, Nat.zero_le _, grownCap_le_maxLen w (0 + n) 0 _ (by unfold maxLen; omega), ?_, by simp⟩⟩, ((Below.refl _ w).drew).alloc (Nat.le_refl _) _⟩
    have h1 : (Value.int IntKind.u8 0).cells.size = 1 := rfl
    simp only [Array.size_append, List.size_toArray, List.length_nil, size_zeroCells, h1]
    omega

set_option maxRecDepth 100000 in
set_option maxHeartbeats 2000000 in
/-- two rows, one behind the other -/
theorem concat_any (bg : Nat) (A1 A2 : Option Addr) (l1 l2 : List UInt8) (n1 c1 n2 c2 cc : Nat) (w : World) (hr : Row w bg 22 [.slice A1 n1 c1, .slice A2 n2 c2]) (h1 : Rb w A1 l1) (h2 : Rb w A2 l2) (e1 : l1.length = n1) (e2 : l2.length = n2) (h0 : 0 < n1) (hb1 : n1 ≤ 1000000) (hb2 : n2 ≤ 1000000) :
    Calls Tryz.prog 19 #[.slice (some ⟨bg, 0, none⟩) 2 2] w fun e w' => (∃ v, e = .returned v ∧ w'.ownsRow w.heap.size 5 1 v (n1 + n2) ((l1 ++ l2).map bv)) ∧ Below w.heap.size w w' := by
  have q0 := hr.cell (j := 0) rfl
  have q1 := hr.cell (j := 1) rfl
  have E1 := Lib.hid e1
  have E2 := Lib.hid e2
  clear e1 e2
  have hg := grow_any (n1 + n2) w (by omega) (by omega)
  have ec : ((n1 + n2 : Nat) : Int) = (n1 : Int) + (n2 : Int) := by omega
  rw [ec] at hg
  go_enter Tryz.func19, Tryz.ntmps19
  go_wp2_with fail
  go_loop [3, 11] (fun s3 s11 => ∃ i : Nat, s11 = .int .i64 i ∧ ((i = 0 ∧ s3 = .int .i64 0) ∨ (i = 1 ∧ s3 = .int .i64 n1) ∨ (i = 2 ∧ s3 = .int .i64 ((n1 : Int) + (n2 : Int))))) (fun _ s11 => 2 - (intOf s11).toNat)
  case atStart => exact ⟨0, rfl, .inl ⟨rfl, rfl⟩⟩
  case round =>
    obtain ⟨i, rfl, h⟩ := hrel
    rcases h with ⟨rfl, rfl⟩ | ⟨rfl, rfl⟩ | ⟨rfl, rfl⟩
    · go_wp2_with fail
      go_round
      case rel => exact ⟨1, rfl, .inr (.inl ⟨rfl, by go_num⟩)⟩
      case measure => simp [intOf]
    · go_wp2_with fail
      go_round
      case rel => exact ⟨2, rfl, .inr (.inr ⟨rfl, by go_num⟩)⟩
      case measure => simp [intOf]
    · go_wp2_with fail
      refine hg.mono ?_
      rintro e w1 ⟨⟨v, rfl, hown⟩, hb1'⟩
      obtain ⟨A0, c0, hv, _, _, _, _⟩ := own_form hown
      subst hv
      have hs1 := hb1'.size
      have q0' := (hr.below hb1').cell (j := 0) rfl
      have q1' := (hr.below hb1').cell (j := 1) rfl
      clear q0 q1 hg
      go_wp2_with fail
      go_loopw [6, 27] (fun s6 s27 wr => ∃ (i m : Nat) (d : List UInt8), s27 = .int .i64 i ∧ Hid (wr.ownsRow w.heap.size 5 1 s6 m (d.map bv)) ∧ Below w.heap.size w wr ∧ w1.heap.size ≤ wr.heap.size ∧ ((i = 0 ∧ m = 0 ∧ d = []) ∨ (i = 1 ∧ m = n1 ∧ d = l1) ∨ (i = 2 ∧ m = n1 + n2 ∧ d = l1 ++ l2))) (fun _ s27 _ => 2 - (intOf s27).toNat)
      case atStart => exact ⟨0, 0, [], rfl, Lib.hid hown, hb1', Nat.le_refl _, .inl ⟨rfl, rfl, rfl⟩⟩
      case round =>
        rename_i s6
        obtain ⟨i, m, d, rfl, HO, hB, hz, hcase⟩ := hrel
        obtain ⟨Ao, co, hv, _, _, _, _⟩ := own_form HO.out
        subst hv
        have q0r := (hr.below hB).cell (j := 0) rfl
        have q1r := (hr.below hB).cell (j := 1) rfl
        have hs := hB.size
        rcases hcase with ⟨rfl, rfl, rfl⟩ | ⟨rfl, rfl, rfl⟩ | ⟨rfl, rfl, rfl⟩
        · have s1 : Src Tryz.prog 1 22 (.slice A1 n1 c1) n1 (l1.map bv) wr := Src_rb Tryz.underlying22 E1.out (h1.below hB)
          go_wp2_with (at_builtin; refine wpList_app rfl (.tmp 31) (.tmp 32) _ _ rfl TU8 HO.out rfl s1 rfl (by omega) hs ?_; intro v2 w2 hown2 hgr2 hat2; have hB2 := below_app hB HO.out hgr2 hs (Nat.le_refl _); have hs2 := hgr2.size)
          go_roundw
          case rel => exact ⟨1, n1, l1, rfl, Lib.hid (by simpa using hown2), hB2, by omega, .inr (.inl ⟨rfl, rfl, rfl⟩)⟩
          case measure => simp [intOf]
        · have s2 : Src Tryz.prog 1 22 (.slice A2 n2 c2) n2 (l2.map bv) wr := Src_rb Tryz.underlying22 E2.out (h2.below hB)
          go_wp2_with (at_builtin; refine wpList_app rfl (.tmp 31) (.tmp 32) _ _ rfl TU8 HO.out rfl s2 rfl (by omega) hs ?_; intro v2 w2 hown2 hgr2 hat2; have hB2 := below_app hB HO.out hgr2 hs (Nat.le_refl _); have hs2 := hgr2.size)
          go_roundw
          case rel => exact ⟨2, _, _, rfl, Lib.hid (by rw [List.map_append]; exact hown2), hB2, by omega, .inr (.inr ⟨rfl, rfl, rfl⟩)⟩
          case measure => simp [intOf]
        · go_wp2_with fail
          go_ret
          exact ⟨⟨_, rfl, HO.out⟩, hB⟩
end Go.Proofs.YtcagkoakbdbbaaaGreatDoor
