/- The program's Protected: a name among the names that stay; slices.Delete of a field. · What the row's list gives: the names that stay, and those that may be put ahead; all that RewriteAgain reads of the package's variables. · slices.Delete of one field of a row of fields. -/
import Derived.Test.YtcagkoakbdbbaaaGreatDoorJ26
import Derived.Shelf.SlicesE.Delete
import Derived.Test.YtcagkoakbdbbaaaGreatDoorJ01
namespace Go.Proofs.YtcagkoakbdbbaaaGreatDoor
set_option linter.unusedVariables false
set_option linter.unusedSimpArgs false
open Go.RowKit

/-- the names that stay, and those that may be put ahead -/
def nmL : List (List UInt8) := [[70, 114, 111, 109], [84, 111], [77, 101, 115, 115, 97, 103, 101, 45, 73, 68], [88, 45, 84, 104, 114, 101, 97, 100], [88, 45, 75, 101, 121, 115], [67, 111, 110, 116, 101, 110, 116, 45, 84, 121, 112, 101], [67, 111, 110, 116, 101, 110, 116, 45, 84, 114, 97, 110, 115, 102, 101, 114, 45, 69, 110, 99, 111, 100, 105, 110, 103]]
def trL : List (List UInt8) := [[82, 101, 99, 101, 105, 118, 101, 100], [88, 45, 84, 114, 97, 99, 101], [68, 97, 116, 101]]
def protL (nm : List UInt8) : Bool := nmL.any fun n => sameN n nm
/-- the package's variables that are read -/
structure Gl (w : World) : Prop where
  tabs : Lib.Utf8Tabs 3 4 w
  mx : MxR w
  nm : ∀ (j : Nat) (s : List UInt8), nmL[j]? = some s → w.cell? ⟨1, j, none⟩ = some (.string (bs s))
  tr : ∀ (j : Nat) (s : List UInt8), trL[j]? = some s → w.cell? ⟨0, j, none⟩ = some (.string (bs s))
theorem Gl.below {w w' : World} (h : Gl w) (hb : Below w.heap.size w w') : Gl w' :=
  ⟨tabs_below h.tabs hb, h.mx.below hb, fun j s hj => (hb.cell (cell_lt (h.nm j s hj))).trans (h.nm j s hj), fun j s hj => (hb.cell (cell_lt (h.tr j s hj))).trans (h.tr j s hj)⟩

theorem sameN_len' {a b : List UInt8} (h : a.length ≠ b.length) : sameN a b = false := by
  unfold sameN
  rw [decide_eq_false_iff_not]
  intro e
  have := congrArg List.length e
  simp at this
  exact h this
theorem fsame3_any (a b : List UInt8) (w : World) (hT : Lib.Utf8Tabs 3 4 w) (ha : a.length ≤ 1000000000) :
    Calls Tryz.prog 43 #[.string (bs a), .string (bs b)] w fun e w' => e = .returned (.bool (sameN a b)) ∧ Below w.heap.size w w' := by
  by_cases hl : a.length = b.length
  · exact fsame_any a b w hT ha (by omega)
  · have hno := Lib.hid (sameN_len' hl)
    have hbb : ((a.length : Int) != (b.length : Int)) = true := by rw [bne_iff_ne]; omega
    go_enter Tryz.func43, Tryz.ntmps43
    go_wp2_with fail
    go_ret
    exact ⟨ret_bool hno.out.symm, Below.refl _ _⟩
theorem prot1_any (n nm : List UInt8) (B : Nat) (w : World) (hT : Lib.Utf8Tabs 3 4 w) (hc : w.cell? ⟨B, 0, none⟩ = some (.string (bs nm))) (hn : n.length ≤ 1000000000) :
    Calls Tryz.prog 71 #[.string (bs n), .pointer (some ⟨B, 0, none⟩)] w fun e w' => e = .returned (.bool (sameN n nm)) ∧ Below w.heap.size w w' := by
  go_enter Tryz.func71, Tryz.ntmps71
  go_wp2_with fail
  refine (fsame3_any n nm _ hT hn).mono ?_
  rintro e w2 ⟨rfl, hb2⟩
  go_wp2_with fail
  go_ret
  exact ⟨rfl, hb2⟩
theorem eg_prot : ∀ args w, (callFunc 71 args).run Tryz.prog w = .ok (.enter 71 args) w := enters_of Tryz.func71 (by kernel_rfl) rfl

set_option maxRecDepth 100000 in
set_option maxHeartbeats 1000000 in
theorem index_prot (nm : List UInt8) (B : Nat) (w : World) (hG : Gl w) (hc : w.cell? ⟨B, 0, none⟩ = some (.string (bs nm))) :
    Calls Tryz.prog 92 #[.slice (some ⟨1, 0, none⟩) 7 7, .func (.func 71) #[] #[.pointer (some ⟨B, 0, none⟩)]] w fun e w' => (∃ z : Int, e = .returned (.int .i64 z) ∧ decide (0 ≤ z) = protL nm) ∧ Below w.heap.size w w' := by
  have eg := eg_prot
  have HC := Lib.hid hc
  clear hc
  go_enter Tryz.func92, Tryz.ntmps92
  go_wp2_with fail
  go_loopw [8] (fun s8 wr => ∃ k : Nat, s8 = .int .i64 k ∧ k ≤ 7 ∧ Hid ((nmL.take k).any (fun n => sameN n nm) = false) ∧ Below w.heap.size w wr) (fun s8 _ => 7 - (intOf s8).toNat)
  case atStart => exact ⟨0, rfl, by omega, Lib.hid rfl, Below.refl _ _⟩
  case round =>
    obtain ⟨k, rfl, hk, HK, hB⟩ := hrel
    by_cases hlt : k < 7
    · obtain ⟨s, hs⟩ : ∃ s, nmL[k]? = some s := ⟨_, List.getElem?_eq_getElem (by simpa [nmL] using hlt)⟩
      have hcell := (hG.below hB).nm k s hs
      have hsl : s.length ≤ 1000000000 := by
        have hall : ∀ x ∈ nmL, x.length ≤ 1000000000 := by decide
        exact hall s (List.mem_of_getElem? hs)
      have hcall := prot1_any s nm B wr (hG.below hB).tabs ((hB.cell (cell_lt HC.out)).trans HC.out) hsl
      have HS := Lib.hid hs
      clear hs hsl
      cases hq : sameN s nm with
      | true =>
        have HZ : Hid (protL nm = true) := Lib.hid (by
          unfold protL
          rw [List.any_eq_true]
          exact ⟨s, List.mem_of_getElem? HS.out, hq⟩)
        rw [hq] at hcall
        clear hq
        go_wp2_with (go_at_fn 71; refine hcall.mono ?_; rintro e w' ⟨rfl, hb'⟩)
        go_ret
        refine ⟨⟨_, rfl, ?_⟩, hB.trans (hb'.mono hB.size)⟩
        rw [HZ.out, decide_eq_true_iff]
        omega
      | false =>
        have HZ : Hid ((nmL.take (k + 1)).any (fun n => sameN n nm) = false) := Lib.hid (by
          rw [take_succ_of HS.out, List.any_append, HK.out]
          simp [hq])
        rw [hq] at hcall
        clear hq
        go_wp2_with (go_at_fn 71; refine hcall.mono ?_; rintro e w' ⟨rfl, hb'⟩)
        go_roundw
        case rel => exact ⟨k + 1, by go_num, by omega, HZ, hB.trans (hb'.mono hB.size)⟩
        case measure => simp [intOf]; omega
    · obtain rfl : k = 7 := by omega
      go_wp2_with fail
      go_ret
      refine ⟨⟨_, rfl, ?_⟩, hB⟩
      have h := HK.out
      have e : nmL.take 7 = nmL := by decide
      rw [e] at h
      unfold protL
      rw [h]
      decide
theorem contains_prot (nm : List UInt8) (B : Nat) (w : World) (hG : Gl w) (hc : w.cell? ⟨B, 0, none⟩ = some (.string (bs nm))) :
    Calls Tryz.prog 70 #[.slice (some ⟨1, 0, none⟩) 7 7, .func (.func 71) #[] #[.pointer (some ⟨B, 0, none⟩)]] w fun e w' => e = .returned (.bool (protL nm)) ∧ Below w.heap.size w w' := by
  have h := index_prot nm B w hG hc
  obtain ⟨q, hq⟩ : ∃ q, protL nm = q := ⟨_, rfl⟩
  rw [hq] at h ⊢
  clear hq
  go_enter Tryz.func70, Tryz.ntmps70
  go_wp2_with fail
  refine h.mono ?_
  rintro e w2 ⟨⟨z, rfl, hz⟩, hb2⟩
  have HZ := Lib.hid hz
  clear hz
  go_wp2_with fail
  go_ret
  exact ⟨ret_bool HZ.out, hb2⟩
set_option maxRecDepth 100000 in
theorem prot_any (nm : List UInt8) (w : World) (hG : Gl w) :
    Calls Tryz.prog 40 #[.string (bs nm)] w fun e w' => e = .returned (.bool (protL nm)) ∧ Below w.heap.size w w' := by
  have hb0 : Below w.heap.size w (w.alloc (.cells #[.string (bs nm)] 9)) := (Below.refl _ _).alloc (Nat.le_refl _) _
  have hc := (Row.new w #[.string (bs nm)] 9).cell (j := 0) rfl
  have h := contains_prot nm w.heap.size _ (hG.below hb0) hc
  obtain ⟨q, hq⟩ : ∃ q, protL nm = q := ⟨_, rfl⟩
  rw [hq] at h ⊢
  clear hq
  go_enter Tryz.func40, Tryz.ntmps40
  go_wp2_with fail
  refine h.mono ?_
  rintro e w2 ⟨rfl, hb2⟩
  go_wp2_with fail
  go_ret
  exact ⟨rfl, hb0.trans (hb2.mono hb0.size)⟩
end Go.Proofs.YtcagkoakbdbbaaaGreatDoor

namespace Go.Proofs.YtcagkoakbdbbaaaGreatDoor
set_option linter.unusedVariables false
set_option linter.unusedSimpArgs false
open Go.Lib

theorem cStr : Tryz.prog.cellsOf 9 = 1 := by kernel_rfl
theorem g_names : Tryz.prog.globalNamed "despatch/rewrite.names" = some 1 := by kernel_rfl
theorem y_names : (Tryz.prog.globals[1]?).map (·.type) = some 100 := by kernel_rfl
set_option maxRecDepth 100000 in
theorem laid_names {w : World} {l : List (String × DataW Unit)} (h : laidMet Tryz.prog l w) (hm : ("despatch/rewrite.names", Rows.laid_despatch_rewrite_names) ∈ l) :
    ∀ (j : Nat) (s : List UInt8), nmL[j]? = some s → w.cell? ⟨1, j, none⟩ = some (.string (bs s)) := by
  intro j x hj
  have hlt : j < 7 := by simpa [nmL] using lt_of_get hj
  obtain ⟨g, t, cs, fuel, p, hg, hty, hvar, hd⟩ := laidMet.reads h hm
  obtain rfl := Option.some.inj (g_names.symm.trans hg)
  obtain rfl := Option.some.inj (y_names.symm.trans hty)
  obtain ⟨fuel', d, q, hdi, he⟩ := array_elem Tryz.underlying100 hd j hlt
  obtain rfl : DataW.lit (.string x) = d := by
    match j, hlt with
    | 0, _ => cases hj; exact Option.some.inj hdi
    | 1, _ => cases hj; exact Option.some.inj hdi
    | 2, _ => cases hj; exact Option.some.inj hdi
    | 3, _ => cases hj; exact Option.some.inj hdi
    | 4, _ => cases hj; exact Option.some.inj hdi
    | 5, _ => cases hj; exact Option.some.inj hdi
    | 6, _ => cases hj; exact Option.some.inj hdi
  rw [cStr] at he
  obtain ⟨s, e1, e2, _⟩ := DataW.trod_string Tryz.underlying9 he
  have e3 : s = bs x := by
    have h1 : x = s.data.toList := by
      have h2 : x = s.data.toList ∧ q = [] := by simpa using e2
      exact h2.1
    rw [h1, bs_of]
  have e4 := congrArg (·[0]?) e1
  simp only [List.getElem?_take, List.getElem?_drop] at e4
  rw [World.var?_cell hg hvar j, ← Array.getElem?_toList, ← e3]
  simpa using e4
theorem g_traces : Tryz.prog.globalNamed "despatch/rewrite.traces" = some 0 := by kernel_rfl
theorem y_traces : (Tryz.prog.globals[0]?).map (·.type) = some 54 := by kernel_rfl
set_option maxRecDepth 100000 in
theorem laid_traces {w : World} {l : List (String × DataW Unit)} (h : laidMet Tryz.prog l w) (hm : ("despatch/rewrite.traces", Rows.laid_despatch_rewrite_traces) ∈ l) :
    ∀ (j : Nat) (s : List UInt8), trL[j]? = some s → w.cell? ⟨0, j, none⟩ = some (.string (bs s)) := by
  intro j x hj
  have hlt : j < 3 := by simpa [trL] using lt_of_get hj
  obtain ⟨g, t, cs, fuel, p, hg, hty, hvar, hd⟩ := laidMet.reads h hm
  obtain rfl := Option.some.inj (g_traces.symm.trans hg)
  obtain rfl := Option.some.inj (y_traces.symm.trans hty)
  obtain ⟨fuel', d, q, hdi, he⟩ := array_elem Tryz.underlying54 hd j hlt
  obtain rfl : DataW.lit (.string x) = d := by
    match j, hlt with
    | 0, _ => cases hj; exact Option.some.inj hdi
    | 1, _ => cases hj; exact Option.some.inj hdi
    | 2, _ => cases hj; exact Option.some.inj hdi
  rw [cStr] at he
  obtain ⟨s, e1, e2, _⟩ := DataW.trod_string Tryz.underlying9 he
  have e3 : s = bs x := by
    have h1 : x = s.data.toList := by
      have h2 : x = s.data.toList ∧ q = [] := by simpa using e2
      exact h2.1
    rw [h1, bs_of]
  have e4 := congrArg (·[0]?) e1
  simp only [List.getElem?_take, List.getElem?_drop] at e4
  rw [World.var?_cell hg hvar j, ← Array.getElem?_toList, ← e3]
  simpa using e4
theorem gl_laid {w : World} {l : List (String × DataW Unit)} (h : laidMet Tryz.prog l w) (hmx : MxR w) (h1 : ("despatch/rewrite.names", Rows.laid_despatch_rewrite_names) ∈ l) (h2 : ("despatch/rewrite.traces", Rows.laid_despatch_rewrite_traces) ∈ l) (h3 : ("unicode/utf8.first", Rows.laid_unicode_utf8_first) ∈ l) (h4 : ("unicode/utf8.acceptRanges", Rows.laid_unicode_utf8_acceptRanges) ∈ l) : Gl w :=
  ⟨tabs_laid h h3 h4, hmx, laid_names h h1, laid_traces h h2⟩
end Go.Proofs.YtcagkoakbdbbaaaGreatDoor

namespace Go.Proofs.YtcagkoakbdbbaaaGreatDoor
set_option linter.unusedVariables false
set_option linter.unusedSimpArgs false
open Go.RowKit Go.Sort

/-- a slice, as three parts -/
abbrev Sl3 := Option Addr × Nat × Nat
def enc3 (x : Sl3) : Value := .slice x.1 x.2.1 x.2.2
def sl3 : Value → Sl3
  | .slice a n c => (a, n, c)
  | _ => (none, 0, 0)
theorem putRow_other {α : Type} [Inhabited α] (enc : α → Value) (w : World) (q blk off : Nat) (d : Array α) (k : Nat) (hk : k ≠ blk) : (putRow enc (Sort.ahead w q) blk off d).heap[k]? = w.heap[k]? := by
  show (w.heap.modify blk _)[k]? = _
  rw [Array.getElem?_modify, if_neg (fun e => hk e.symm)]
theorem putRow_same {α : Type} [Inhabited α] (enc : α → Value) (w : World) (q blk off : Nat) (d : Array α) {cs : Array Value} {t : TypeId} {fr : Nat × Nat} (h : w.heap[blk]? = some (.cells cs t fr)) : (putRow enc (Sort.ahead w q) blk off d).heap[blk]? = some (.cells (putCells enc off d cs) t fr) := by
  show (w.heap.modify blk _)[blk]? = _
  rw [Array.getElem?_modify, if_pos rfl, h]
  rfl
theorem putRow_ext {α : Type} [Inhabited α] (enc : α → Value) (w : World) (q blk off : Nat) (d : Array α) : Ext (fun k => k = blk) w (putRow enc (Sort.ahead w q) blk off d) :=
  ⟨rfl, rfl, rfl, by show w.heap.size ≤ (w.heap.modify blk _).size; simp, fun k _ hk => putRow_other enc w q blk off d k hk⟩
theorem putCells_take {α : Type} [Inhabited α] (enc : α → Value) (d : List α) (cs : Array Value) (m : Nat) (h1 : m ≤ d.length) (h2 : m ≤ cs.size) : (putCells enc 0 d.toArray cs).toList.take m = (d.take m).map enc := by
  apply List.ext_getElem?
  intro j
  rw [List.getElem?_take, List.getElem?_map, List.getElem?_take]
  by_cases hj : j < m
  · rw [if_pos hj, if_pos hj, Array.getElem?_toList]
    unfold putCells
    rw [Array.getElem?_mapIdx, Array.getElem?_eq_getElem (by omega)]
    have h3 : j < d.length := by omega
    simp [h3]
  · rw [if_neg hj, if_neg hj]
    rfl

set_option maxRecDepth 100000 in
set_option maxHeartbeats 1000000 in
theorem delete_any (Af : Option Addr) (fs : List (List UInt8)) (B n cf a : Nat) (w : World) (hF : FR w B (.slice Af n cf) fs) (ha : a < n) (hn : n ≤ 1000000) :
    Calls Tryz.prog 42 #[.slice Af n cf, .int .i64 a, .int .i64 ((a : Int) + 1)] w fun e w' => e = .returned (.slice Af (n - 1) cf) ∧ FR w' B (.slice Af (n - 1) cf) (fs.eraseIdx a) ∧ Ext (fun k => nb (.slice Af n cf) k) w w' := by
  obtain ⟨vs, ho, he⟩ := hF
  have hvl : vs.length = fs.length := by have := ho.1; omega
  obtain ⟨bg, cur, hgo, hbg, hheap, hnc, hcm, hcs, htk, hfl⟩ : ∃ go cur, Af = some ⟨go, 0, none⟩ ∧ B ≤ go ∧ w.heap[go]? = some (.cells cur 22 (0, 0)) ∧ n ≤ cf ∧ cf ≤ maxLen ∧ cur.size = cf * 1 ∧ cur.toList.take (fs.length * 1) = vs ∧ fs.length = n := by
    rcases ho.2 with ⟨hv, h0⟩ | ⟨g, cap, cur, hv, hbg, hg, h1, h2, h3, h4⟩
    · injection hv with e1 e2 e3; omega
    · injection hv with e1 e2 e3; subst e1; subst e3; exact ⟨g, cur, rfl, hbg, hg, by omega, h2, h3, h4, e2.symm⟩
  subst hgo
  rw [Nat.mul_one] at hcs htk
  have h1 : OneCell enc3 := fun x => rfl
  have hi := infoBs
  cases hq : Tryz.prog.info? 22 with
  | none => rw [hq] at hi; cases hi
  | some i0 =>
    rw [hq] at hi
    simp only [Option.map_some, Option.some.injEq, Prod.mk.injEq] at hi
    have hvt : ∀ v ∈ vs, enc3 (sl3 v) = v := by
      intro v hv
      obtain ⟨j, hj⟩ := List.getElem?_of_mem hv
      obtain ⟨l, hl⟩ : ∃ l, fs[j]? = some l := ⟨_, List.getElem?_eq_getElem (by have := lt_of_get hj; omega)⟩
      obtain ⟨b, o, c, k1, _⟩ := he j l hl
      rw [hj] at k1
      cases k1
      rfl
    have hmap : (vs.map sl3).map enc3 = vs := by
      rw [List.map_map]
      conv => rhs; rw [← List.map_id vs]
      exact List.map_congr_left fun v hv => hvt v hv
    have hH : Holds enc3 w bg 0 (vs.map sl3).toArray := by
      intro j hj
      have hj2 : j < vs.length := by simpa using hj
      refine ⟨?_, frozen_of_row w bg _ cur 22 hheap⟩
      have h3 : cur[j]? = some vs[j] := by
        rw [← Array.getElem?_toList]
        have h4 := congrArg (·[j]?) htk
        rw [List.getElem?_take, if_pos (by omega)] at h4
        rw [h4, List.getElem?_eq_getElem hj2]
      rw [Nat.zero_add]
      simp only [World.cell?, hheap]
      have h5 : enc3 (vs.map sl3).toArray[j]! = vs[j] := by
        rw [getElem!_pos _ j hj]
        simp only [List.getElem_toArray, List.getElem_map]
        exact hvt _ (List.getElem_mem _)
      rw [h5]
      simpa using h3
    have h := AnyE.slices_Delete Tryz.deleteBB enc3 h1 (none, 0, 0) (fun w => Tryz.zeroValue22 w) i0 hq hi.2.1 bg 0 cf a (a + 1) (vs.map sl3).toArray w hH (by simp; omega) (by unfold maxLen at hcm; omega) (by omega) (by simp; omega)
    have hsz : (vs.map sl3).toArray.size = n := by simp; omega
    rw [hsz] at h
    have e1 : ((a + 1 : Nat) : Int) = (a : Int) + 1 := by omega
    rw [e1, show n - (a + 1 - a) = n - 1 from by omega, show a + 1 - a = 1 from by omega] at h
    refine h.mono ?_
    rintro e w' ⟨rfl, q, rfl⟩
    have hx := putRow_ext enc3 w q bg 0 ((vs.map sl3).take a ++ (vs.map sl3).drop (a + 1) ++ List.replicate 1 (none, 0, 0)).toArray
    refine ⟨rfl, ⟨vs.eraseIdx a, ⟨?_, .inr ⟨bg, cf, _, ?_, hbg, putRow_same enc3 w q bg 0 _ hheap, ?_, hcm, ?_, ?_⟩⟩, fun j l hj => ?_⟩, hx.mono fun b hb => by subst hb; simp [nb, Value.ownBlock]⟩
    · rw [List.length_eraseIdx, List.length_eraseIdx]
      split <;> split <;> omega
    · rw [List.length_eraseIdx, if_pos (by omega), hfl]
    · rw [List.length_eraseIdx, if_pos (by omega)]; omega
    · rw [putCells, Array.size_mapIdx, hcs, Nat.mul_one]
    · have h7 : (fs.eraseIdx a).length * 1 = n - 1 := by rw [List.length_eraseIdx, if_pos (by omega)]; omega
      rw [h7, putCells_take _ _ _ _ (by simp; omega) (by omega)]
      rw [List.take_append_of_le_length (by simp; omega), List.take_of_length_le (by simp; omega), List.map_append, List.map_take, List.map_drop, hmap, List.eraseIdx_eq_take_drop_succ]
    · rw [List.getElem?_eraseIdx] at hj
      obtain ⟨j', hj', hv'⟩ : ∃ j', fs[j']? = some l ∧ (vs.eraseIdx a)[j]? = vs[j']? := by
        rw [List.getElem?_eraseIdx]
        split at hj
        · rename_i hlt; exact ⟨j, hj, by rw [if_pos hlt]⟩
        · rename_i hlt; exact ⟨j + 1, hj, by rw [if_neg hlt]⟩
      obtain ⟨b, o, c, k1, k2, k3, k4, k5⟩ := he j' l hj'
      have k6 : b ≠ bg := fun e => k5 (by rw [e]; simp [nb, Value.ownBlock])
      exact ⟨b, o, c, by rw [hv']; exact k1, k2, k3, rb_ext1 k4 k3 hx k6, by intro e; simp [nb, Value.ownBlock] at e; exact k6 e.symm⟩
end Go.Proofs.YtcagkoakbdbbaaaGreatDoor
