/- Whether a field has a name, as a test that is handed on; where the first one stands. -/
import Derived.Test.YtgohdohkikkeeaaDoorN4
import Derived.Test.YtgohdohkikkeeaaDoorN11
import Derived.Test.YtgohdohkikkeeaaDoorR1
namespace Go.Proofs.YtgohdohkikkeeaaDoor
set_option linter.unusedVariables false
set_option linter.unusedSimpArgs false
open Go.RowKit

theorem fsame2_any (a b : List UInt8) (w : World) (hT : Lib.Utf8Tabs 1 2 w) (hb : b.length ≤ 1000000000) :
    Calls Tryd.prog 28 #[.string (bs a), .string (bs b)] w fun e w' => e = .returned (.bool (sameN a b)) ∧ Below w.heap.size w w' := by
  by_cases hl : a.length = b.length
  · exact fsame_any a b w hT (by omega) hb
  · have hno := Lib.hid (sameN_len hl)
    have hbb : ((a.length : Int) != (b.length : Int)) = true := by rw [bne_iff_ne]; omega
    go_enter Tryd.func28, Tryd.ntmps28
    go_wp2_with fail
    go_ret
    exact ⟨ret_bool hno.out.symm, Below.refl _ _⟩
theorem rsame2_any (a b : List UInt8) (w : World) (hb : b.length ≤ 1000000000) :
    Calls Tryd.prog 27 #[.string (bs a), .string (bs b)] w fun e w' => e = .returned (.bool (sameN a b)) ∧ Dn w w' := by
  by_cases hl : a.length = b.length
  · exact rsame_any a b w (by omega) hb
  · have hno := Lib.hid (sameN_len hl)
    have hbb : ((a.length : Int) != (b.length : Int)) = true := by rw [bne_iff_ne]; omega
    go_enter Tryd.func27, Tryd.ntmps27
    go_wp2_with fail
    go_ret
    exact ⟨ret_bool hno.out.symm, Dn.refl _⟩

/-- the test of a name, whose box is block B -/
def hasV (B : Nat) : Value := .func (.func 52) #[] #[.pointer (some ⟨B, 0, none⟩)]
theorem named_any (nm : List UInt8) (w : World) :
    Calls Tryd.prog 40 #[.string (bs nm)] w fun e w' => e = .returned (hasV w.heap.size) ∧ w' = w.alloc (.cells #[.string (bs nm)] 9) := by
  go_enter Tryd.func40, Tryd.ntmps40
  go_wp2_with fail
  go_ret
  exact ⟨rfl, rfl⟩
theorem eg_named : ∀ args w, (callFunc 52 args).run Tryd.prog w = .ok (.enter 52 args) w := enters_of Tryd.func52 (by kernel_rfl) rfl
theorem named1_any (p : List UInt8 × List UInt8) (nm : List UInt8) (B : Nat) (w : World) (hT : Lib.Utf8Tabs 1 2 w) (hc : w.cell? ⟨B, 0, none⟩ = some (.string (bs nm))) (hn : nm.length ≤ 1000000000) :
    Calls Tryd.prog 52 #[.agg #[.string (bs p.1), .string (bs p.2)], .pointer (some ⟨B, 0, none⟩)] w fun e w' => e = .returned (.bool (sameN p.1 nm)) ∧ Below w.heap.size w w' := by
  have hA0 : Below w.heap.size w (w.alloc (.cells #[.string (bs p.1), .string (bs p.2)] 28)) := (Below.refl _ _).alloc (Nat.le_refl _) _
  have hc2 : (w.alloc (.cells #[.string (bs p.1), .string (bs p.2)] 28)).cell? ⟨B, 0, none⟩ = some (.string (bs nm)) := (hA0.cell (p := ⟨B, 0, none⟩) (cell_lt hc)).trans hc
  have hT2 := tabs_below hT hA0
  go_enter Tryd.func52, Tryd.ntmps52
  go_wp2_with fail
  refine (fsame2_any p.1 nm _ hT2 hn).mono ?_
  rintro e w2 ⟨rfl, hb2⟩
  go_wp2_with fail
  go_ret
  exact ⟨rfl, hA0.trans (hb2.mono hA0.size)⟩

/-- how many stand ahead of the first one of a name -/
def ahead (nm : List UInt8) (fs : List (List UInt8 × List UInt8)) : Nat := (fs.takeWhile fun p => !sameN p.1 nm).length
theorem ahead_hit {nm : List UInt8} {p : List UInt8 × List UInt8} : ∀ {fs : List (List UInt8 × List UInt8)} {k : Nat}, (∀ q ∈ fs.take k, sameN q.1 nm = false) → fs[k]? = some p → sameN p.1 nm = true → ahead nm fs = k
  | [], k, _, h, _ => by simp at h
  | q :: fs, 0, _, h, hs => by
    simp at h
    subst h
    simp [ahead, hs]
  | q :: fs, k + 1, ha, h, hs => by
    have h1 : sameN q.1 nm = false := ha q (by simp)
    have ih := ahead_hit (fs := fs) (k := k) (fun x hx => ha x (by simp [hx])) (by simpa using h) hs
    unfold ahead at ih ⊢
    simp [List.takeWhile_cons, h1, ih]
theorem ahead_none {nm : List UInt8} {fs : List (List UInt8 × List UInt8)} (h : ∀ q ∈ fs, sameN q.1 nm = false) : ahead nm fs = fs.length := by
  unfold ahead
  induction fs with
  | nil => rfl
  | cons q fs ih =>
    have h1 := h q (by simp)
    simp [List.takeWhile_cons, h1, ih (fun x hx => h x (by simp [hx]))]
theorem ahead_le (nm : List UInt8) (fs : List (List UInt8 × List UInt8)) : ahead nm fs ≤ fs.length := (List.takeWhile_sublist _).length_le
/-- the place, or -1 -/
def placeZ (nm : List UInt8) (fs : List (List UInt8 × List UInt8)) : Int := if ahead nm fs < fs.length then (ahead nm fs : Int) else -1

set_option maxRecDepth 100000 in
set_option maxHeartbeats 1000000 in
theorem index_any (A : Option Addr) (fs : List (List UInt8 × List UInt8)) (n c B : Nat) (nm : List UInt8) (w : World) (hn : fs.length = n) (hA : Rf w A fs) (hT : Lib.Utf8Tabs 1 2 w) (hc : w.cell? ⟨B, 0, none⟩ = some (.string (bs nm))) (hnm : nm.length ≤ 1000000000) (hb : n ≤ 1000000) :
    Calls Tryd.prog 41 #[.slice A n c, hasV B] w fun e w' => e = .returned (.int .i64 (placeZ nm fs)) ∧ Below w.heap.size w w' := by
  have HN := Lib.hid hn
  have eg := eg_named
  unfold hasV
  clear hn
  go_enter Tryd.func41, Tryd.ntmps41
  go_wp2_with fail
  go_loopw [8] (fun i wr => ∃ k : Nat, i = .int .i64 k ∧ k ≤ n ∧ Hid (∀ q ∈ fs.take k, sameN q.1 nm = false) ∧ Below w.heap.size w wr) (fun i _ => n - (intOf i).toNat)
  case atStart => exact ⟨0, rfl, by omega, Lib.hid (by simp), Below.refl _ _⟩
  case round =>
    obtain ⟨k, rfl, hk, ha, hB⟩ := hrel
    by_cases hlt : k < n
    · obtain ⟨b, o, p, rfl, hp, h0, h1⟩ := (hA.below hB).one (k := k) (by rw [HN.out]; exact hlt)
      have hcr : wr.cell? ⟨B, 0, none⟩ = some (.string (bs nm)) := (hB.cell (p := ⟨B, 0, none⟩) (cell_lt hc)).trans hc
      have hcall := named1_any p nm B wr (tabs_below hT hB) hcr hnm
      have hHit : sameN p.1 nm = true → Hid (placeZ nm fs = (k : Int)) := fun h => Lib.hid (by
        unfold placeZ
        rw [ahead_hit ha.out hp.out h, if_pos (lt_of_get hp.out)])
      have hMiss : sameN p.1 nm = false → Hid (∀ q ∈ fs.take (k + 1), sameN q.1 nm = false) := fun h => Lib.hid (by
        rw [take_succ_of hp.out]
        intro q hq
        rcases List.mem_append.1 hq with hq | hq
        · exact ha.out q hq
        · simp at hq
          rw [hq]
          exact h)
      cases hs : sameN p.1 nm with
      | true =>
        rw [hs] at hcall
        have HH := hHit hs
        clear hHit hMiss hs
        go_wp2_with fail
        refine hcall.mono ?_
        rintro e w2 ⟨rfl, hb2⟩
        go_wp2_with fail
        go_ret
        exact ⟨ret_int HH.out.symm, hB.trans (hb2.mono hB.size)⟩
      | false =>
        rw [hs] at hcall
        have HH := hMiss hs
        clear hHit hMiss hs
        go_wp2_with fail
        refine hcall.mono ?_
        rintro e w2 ⟨rfl, hb2⟩
        go_wp2_with fail
        go_roundw
        case rel => exact ⟨k + 1, by go_num, by omega, HH, hB.trans (hb2.mono hB.size)⟩
        case measure => simp [intOf]; omega
    · obtain rfl : k = n := by omega
      have hno : placeZ nm fs = -1 := by
        have h := ha.out
        rw [List.take_of_length_le (by rw [HN.out]; omega)] at h
        unfold placeZ
        rw [ahead_none h, if_neg (by omega)]
      have HNO := Lib.hid hno
      clear hno
      go_wp2_with fail
      go_ret
      exact ⟨ret_int HNO.out.symm, hB⟩
end Go.Proofs.YtgohdohkikkeeaaDoor
