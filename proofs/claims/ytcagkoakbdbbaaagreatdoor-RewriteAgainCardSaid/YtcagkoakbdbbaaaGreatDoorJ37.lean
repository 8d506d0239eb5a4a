/- The program's Protected: a name among the names that stay; slices.Delete of a field. · What the row's list gives: the names that stay, and those that may be put ahead; all that RewriteAgain reads of the package's variables. -/
import Derived.Test.YtcagkoakbdbbaaaGreatDoorJ36
import Derived.Shelf.SlicesE.Delete
import Derived.Test.YtcagkoakbdbbaaaGreatDoorJ01
namespace Go.Proofs.YtcagkoakbdbbaaaGreatDoor
set_option linter.unusedVariables false
set_option linter.unusedSimpArgs false
open Go.RowKit

/-- the names that stay, and those that may be put ahead -/
def nmL : List (List UInt8) := [[70, 114, 111, 109], [84, 111], [77, 101, 115, 115, 97, 103, 101, 45, 73, 68], [88, 45, 84, 104, 114, 101, 97, 100], [88, 45, 75, 101, 121, 115], [67, 111, 110, 116, 101, 110, 116, 45, 84, 121, 112, 101], [67, 111, 110, 116, 101, 110, 116, 45, 84, 114, 97, 110, 115, 102, 101, 114, 45, 69, 110, 99, 111, 100, 105, 110, 103]]
def trL : List (List UInt8) := [[82, 101, 99, 101, 105, 118, 101, 100], [88, 45, 84, 114, 97, 99, 101], [68, 97, 116, 101]]
def protL (nm : List UInt8) : Bool := nmL.any fun n => sameN n nm
/-- the package's variables that are read -/
structure Gl (w : World) : Prop where
  tabs : Lib.Utf8Tabs 3 4 w
  mx : MxR w
  nm : ∀ (j : Nat) (s : List UInt8), nmL[j]? = some s → w.cell? ⟨1, j, none⟩ = some (.string (bs s))
  tr : ∀ (j : Nat) (s : List UInt8), trL[j]? = some s → w.cell? ⟨0, j, none⟩ = some (.string (bs s))
theorem Gl.below {w w' : World} (h : Gl w) (hb : Below w.heap.size w w') : Gl w' :=
  ⟨tabs_below h.tabs hb, h.mx.below hb, fun j s hj => (hb.cell (cell_lt (h.nm j s hj))).trans (h.nm j s hj), fun j s hj => (hb.cell (cell_lt (h.tr j s hj))).trans (h.tr j s hj)⟩

theorem sameN_len' {a b : List UInt8} (h : a.length ≠ b.length) : sameN a b = false := by
  unfold sameN
  rw [decide_eq_false_iff_not]
  intro e
  have := congrArg List.length e
  simp at this
  exact h this
theorem fsame3_any (a b : List UInt8) (w : World) (hT : Lib.Utf8Tabs 3 4 w) (ha : a.length ≤ 1000000000) :
    Calls Tryz.prog 43 #[.string (bs a), .string (bs b)] w fun e w' => e = .returned (.bool (sameN a b)) ∧ Below w.heap.size w w' := by
  by_cases hl : a.length = b.length
  · exact fsame_any a b w hT ha (by omega)
  · have hno := Lib.hid (sameN_len' hl)
    have hbb : ((a.length : Int) != (b.length : Int)) = true := by rw [bne_iff_ne]; omega
    go_enter Tryz.func43, Tryz.ntmps43
    go_wp2_with fail
    go_ret
    exact ⟨ret_bool hno.out.symm, Below.refl _ _⟩
theorem prot1_any (n nm : List UInt8) (B : Nat) (w : World) (hT : Lib.Utf8Tabs 3 4 w) (hc : w.cell? ⟨B, 0, none⟩ = some (.string (bs nm))) (hn : n.length ≤ 1000000000) :
    Calls Tryz.prog 71 #[.string (bs n), .pointer (some ⟨B, 0, none⟩)] w fun e w' => e = .returned (.bool (sameN n nm)) ∧ Below w.heap.size w w' := by
  go_enter Tryz.func71, Tryz.ntmps71
  go_wp2_with fail
  refine (fsame3_any n nm _ hT hn).mono ?_
  rintro e w2 ⟨rfl, hb2⟩
  go_wp2_with fail
  go_ret
  exact ⟨rfl, hb2⟩
theorem eg_prot : ∀ args w, (callFunc 71 args).run Tryz.prog w = .ok (.enter 71 args) w := enters_of Tryz.func71 (by kernel_rfl) rfl

set_option maxRecDepth 100000 in
set_option maxHeartbeats 1000000 in
theorem index_prot (nm : List UInt8) (B : Nat) (w : World) (hG : Gl w) (hc : w.cell? ⟨B, 0, none⟩ = some (.string (bs nm))) :
    Calls Tryz.prog 92 #[.slice (some ⟨1, 0, none⟩) 7 7, .func (.func 71) #[] #[.pointer (some ⟨B, 0, none⟩)]] w fun e w' => (∃ z : Int, e = .returned (.int .i64 z) ∧ decide (0 ≤ z) = protL nm) ∧ Below w.heap.size w w' := by
  have eg := eg_prot
  have HC := Lib.hid hc
  clear hc
  go_enter Tryz.func92, Tryz.ntmps92
  go_wp2_with fail
  go_loopw [8] (fun s8 wr => ∃ k : Nat, s8 = .int .i64 k ∧ k ≤ 7 ∧ Hid ((nmL.take k).any (fun n => sameN n nm) = false) ∧ Below w.heap.size w wr) (fun s8 _ => 7 - (intOf s8).toNat)
  case atStart => exact ⟨0, rfl, by omega, Lib.hid rfl, Below.refl _ _⟩
  case round =>
    obtain ⟨k, rfl, hk, HK, hB⟩ := hrel
    by_cases hlt : k < 7
    · obtain ⟨s, hs⟩ : ∃ s, nmL[k]? = some s := ⟨_, List.getElem?_eq_getElem (by simpa [nmL] using hlt)⟩
      have hcell := (hG.below hB).nm k s hs
      have hsl : s.length ≤ 1000000000 := by
        have hall : ∀ x ∈ nmL, x.length ≤ 1000000000 := by decide
        exact hall s (List.mem_of_getElem? hs)
      have hcall := prot1_any s nm B wr (hG.below hB).tabs ((hB.cell (cell_lt HC.out)).trans HC.out) hsl
      have HS := Lib.hid hs
      clear hs hsl
      cases hq : sameN s nm with
      | true =>
        have HZ : Hid (protL nm = true) := Lib.hid (by
          unfold protL
          rw [List.any_eq_true]
          exact ⟨s, List.mem_of_getElem? HS.out, hq⟩)
        rw [hq] at hcall
        clear hq
        go_wp2_with (go_at_fn 71; refine hcall.mono ?_; rintro e w' ⟨rfl, hb'⟩)
        go_ret
        refine ⟨⟨_, rfl, ?_⟩, hB.trans (hb'.mono hB.size)⟩
        rw [HZ.out, decide_eq_true_iff]
        omega
      | false =>
        have HZ : Hid ((nmL.take (k + 1)).any (fun n => sameN n nm) = false) := Lib.hid (by
          rw [take_succ_of HS.out, List.any_append, HK.out]
          simp [hq])
        rw [hq] at hcall
        clear hq
        go_wp2_with (go_at_fn 71; refine hcall.mono ?_; rintro e w' ⟨rfl, hb'⟩)
        go_roundw
        case rel => exact ⟨k + 1, by go_num, by omega, HZ, hB.trans (hb'.mono hB.size)⟩
        case measure => simp [intOf]; omega
    · obtain rfl : k = 7 := by omega
      go_wp2_with fail
      go_ret
      refine ⟨⟨_, rfl, ?_⟩, hB⟩
      have h := HK.out
      have e : nmL.take 7 = nmL := by decide
      rw [e] at h
      unfold protL
      rw [h]
      decide
theorem contains_prot (nm : List UInt8) (B : Nat) (w : World) (hG : Gl w) (hc : w.cell? ⟨B, 0, none⟩ = some (.string (bs nm))) :
    Calls Tryz.prog 70 #[.slice (some ⟨1, 0, none⟩) 7 7, .func (.func 71) #[] #[.pointer (some ⟨B, 0, none⟩)]] w fun e w' => e = .returned (.bool (protL nm)) ∧ Below w.heap.size w w' := by
  have h := index_prot nm B w hG hc
  obtain ⟨q, hq⟩ : ∃ q, protL nm = q := ⟨_, rfl⟩
  rw [hq] at h ⊢
  clear hq
  go_enter Tryz.func70, Tryz.ntmps70
  go_wp2_with fail
  refine h.mono ?_
  rintro e w2 ⟨⟨z, rfl, hz⟩, hb2⟩
  have HZ := Lib.hid hz
  clear hz
  go_wp2_with fail
  go_ret
  exact ⟨ret_bool HZ.out, hb2⟩
set_option maxRecDepth 100000 in
theorem prot_any (nm : List UInt8) (w : World) (hG : Gl w) :
    Calls Tryz.prog 40 #[.string (bs nm)] w fun e w' => e = .returned (.bool (protL nm)) ∧ Below w.heap.size w w' := by
  have hb0 : Below w.heap.size w (w.alloc (.cells #[.string (bs nm)] 9)) := (Below.refl _ _).alloc (Nat.le_refl _) _
  have hc := (Row.new w #[.string (bs nm)] 9).cell (j := 0) rfl
  have h := contains_prot nm w.heap.size _ (hG.below hb0) hc
  obtain ⟨q, hq⟩ : ∃ q, protL nm = q := ⟨_, rfl⟩
  rw [hq] at h ⊢
  clear hq
  go_enter Tryz.func40, Tryz.ntmps40
  go_wp2_with fail
  refine h.mono ?_
  rintro e w2 ⟨rfl, hb2⟩
  go_wp2_with fail
  go_ret
  exact ⟨rfl, hb0.trans (hb2.mono hb0.size)⟩
end Go.Proofs.YtcagkoakbdbbaaaGreatDoor

namespace Go.Proofs.YtcagkoakbdbbaaaGreatDoor
set_option linter.unusedVariables false
set_option linter.unusedSimpArgs false
open Go.Lib

theorem cStr : Tryz.prog.cellsOf 9 = 1 := by kernel_rfl
theorem g_names : Tryz.prog.globalNamed "despatch/rewrite.names" = some 1 := by kernel_rfl
theorem y_names : (Tryz.prog.globals[1]?).map (·.type) = some 100 := by kernel_rfl
set_option maxRecDepth 100000 in
theorem laid_names {w : World} {l : List (String × DataW Unit)} (h : laidMet Tryz.prog l w) (hm : ("despatch/rewrite.names", Rows.laid_despatch_rewrite_names) ∈ l) :
    ∀ (j : Nat) (s : List UInt8), nmL[j]? = some s → w.cell? ⟨1, j, none⟩ = some (.string (bs s)) := by
  intro j x hj
  have hlt : j < 7 := by simpa [nmL] using lt_of_get hj
  obtain ⟨g, t, cs, fuel, p, hg, hty, hvar, hd⟩ := laidMet.reads h hm
  obtain rfl := Option.some.inj (g_names.symm.trans hg)
  obtain rfl := Option.some.inj (y_names.symm.trans hty)
  obtain ⟨fuel', d, q, hdi, he⟩ := array_elem Tryz.underlying100 hd j hlt
  obtain rfl : DataW.lit (.string x) = d := by
    match j, hlt with
    | 0, _ => cases hj; exact Option.some.inj hdi
    | 1, _ => cases hj; exact Option.some.inj hdi
    | 2, _ => cases hj; exact Option.some.inj hdi
    | 3, _ => cases hj; exact Option.some.inj hdi
    | 4, _ => cases hj; exact Option.some.inj hdi
    | 5, _ => cases hj; exact Option.some.inj hdi
    | 6, _ => cases hj; exact Option.some.inj hdi
  rw [cStr] at he
  obtain ⟨s, e1, e2, _⟩ := DataW.trod_string Tryz.underlying9 he
  have e3 : s = bs x := by
    have h1 : x = s.data.toList := by
      have h2 : x = s.data.toList ∧ q = [] := by simpa using e2
      exact h2.1
    rw [h1, bs_of]
  have e4 := congrArg (·[0]?) e1
  simp only [List.getElem?_take, List.getElem?_drop] at e4
  rw [World.var?_cell hg hvar j, ← Array.getElem?_toList, ← e3]
  simpa using e4
theorem g_traces : Tryz.prog.globalNamed "despatch/rewrite.traces" = some 0 := by kernel_rfl
theorem y_traces : (Tryz.prog.globals[0]?).map (·.type) = some 54 := by kernel_rfl
set_option maxRecDepth 100000 in
theorem laid_traces {w : World} {l : List (String × DataW Unit)} (h : laidMet Tryz.prog l w) (hm : ("despatch/rewrite.traces", Rows.laid_despatch_rewrite_traces) ∈ l) :
    ∀ (j : Nat) (s : List UInt8), trL[j]? = some s → w.cell? ⟨0, j, none⟩ = some (.string (bs s)) := by
  intro j x hj
  have hlt : j < 3 := by simpa [trL] using lt_of_get hj
  obtain ⟨g, t, cs, fuel, p, hg, hty, hvar, hd⟩ := laidMet.reads h hm
  obtain rfl := Option.some.inj (g_traces.symm.trans hg)
  obtain rfl := Option.some.inj (y_traces.symm.trans hty)
  obtain ⟨fuel', d, q, hdi, he⟩ := array_elem Tryz.underlying54 hd j hlt
  obtain rfl : DataW.lit (.string x) = d := by
    match j, hlt with
    | 0, _ => cases hj; exact Option.some.inj hdi
    | 1, _ => cases hj; exact Option.some.inj hdi
    | 2, _ => cases hj; exact Option.some.inj hdi
  rw [cStr] at he
  obtain ⟨s, e1, e2, _⟩ := DataW.trod_string Tryz.underlying9 he
  have e3 : s = bs x := by
    have h1 : x = s.data.toList := by
      have h2 : x = s.data.toList ∧ q = [] := by simpa using e2
      exact h2.1
    rw [h1, bs_of]
  have e4 := congrArg (·[0]?) e1
  simp only [List.getElem?_take, List.getElem?_drop] at e4
  rw [World.var?_cell hg hvar j, ← Array.getElem?_toList, ← e3]
  simpa using e4
theorem gl_laid {w : World} {l : List (String × DataW Unit)} (h : laidMet Tryz.prog l w) (hmx : MxR w) (h1 : ("despatch/rewrite.names", Rows.laid_despatch_rewrite_names) ∈ l) (h2 : ("despatch/rewrite.traces", Rows.laid_despatch_rewrite_traces) ∈ l) (h3 : ("unicode/utf8.first", Rows.laid_unicode_utf8_first) ∈ l) (h4 : ("unicode/utf8.acceptRanges", Rows.laid_unicode_utf8_acceptRanges) ∈ l) : Gl w :=
  ⟨tabs_laid h h3 h4, hmx, laid_names h h1, laid_traces h h2⟩
end Go.Proofs.YtcagkoakbdbbaaaGreatDoor
