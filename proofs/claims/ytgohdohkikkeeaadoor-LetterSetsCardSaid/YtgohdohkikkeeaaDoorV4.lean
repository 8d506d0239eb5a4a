/- letter's Get and All. -/
import Derived.Test.YtgohdohkikkeeaaDoorV3
namespace Go.Proofs.YtgohdohkikkeeaaDoor
set_option linter.unusedVariables false
set_option linter.unusedSimpArgs false
open Go.RowKit

/-- the values of a name's fields -/
def valsN (nm : List UInt8) (fs : List (List UInt8 × List UInt8)) : List (List UInt8) := (fs.filter fun p => sameN p.1 nm).map Prod.snd
theorem valsN_snoc (nm : List UInt8) (fs : List (List UInt8 × List UInt8)) (p : List UInt8 × List UInt8) : valsN nm (fs ++ [p]) = valsN nm fs ++ (if sameN p.1 nm then [p.2] else []) := by
  unfold valsN
  rw [List.filter_append]
  cases h : sameN p.1 nm <;> simp [h]
theorem valsN_len (nm : List UInt8) (fs : List (List UInt8 × List UInt8)) : (valsN nm fs).length ≤ fs.length := by
  unfold valsN
  rw [List.length_map]
  exact List.length_filter_le _ _
theorem valsN_none {nm : List UInt8} {fs : List (List UInt8 × List UInt8)} (h : ahead nm fs = fs.length) : valsN nm fs = [] := by
  have h1 := keepF_none h
  unfold valsN keepF at *
  rw [List.map_eq_nil_iff, List.filter_eq_nil_iff]
  intro p hp
  rw [List.filter_eq_self] at h1
  have := h1 p hp
  simpa using this
theorem valsN_head {nm : List UInt8} : ∀ {fs : List (List UInt8 × List UInt8)} {p : List UInt8 × List UInt8}, fs[ahead nm fs]? = some p → (valsN nm fs).head? = some p.2
  | [], _, h => by simp at h
  | q :: fs, p, h => by
    cases hq : sameN q.1 nm with
    | true =>
      have e : ahead nm (q :: fs) = 0 := by simp [ahead, hq]
      rw [e] at h
      simp at h
      subst h
      simp [valsN, hq]
    | false =>
      have e : ahead nm (q :: fs) = ahead nm fs + 1 := by simp [ahead, List.takeWhile_cons, hq]
      rw [e] at h
      have := valsN_head (fs := fs) (p := p) (by simpa using h)
      unfold valsN at *
      rw [List.filter_cons_of_neg (by simp [hq])]
      exact this

/-- what Get answers -/
def GetOut (nm : List UInt8) (fs : List (List UInt8 × List UInt8)) (e : Ending) : Prop :=
  match (valsN nm fs).head? with
  | some v => e = .returned (.tuple #[.string (bs v), .bool true])
  | none => e = .returned (.tuple #[.string (bs []), .bool false])

set_option maxRecDepth 100000 in
set_option maxHeartbeats 2000000 in
theorem get_any (A A2 : Option Addr) (fs : List (List UInt8 × List UInt8)) (nm : List UInt8) (n c n2 c2 : Nat) (w : World) (hn : fs.length = n) (hA : Rf w A fs)
    (hT : Lib.Utf8Tabs 1 2 w) (hnm : nm.length ≤ 1000000000) (hb : n ≤ 1000000) :
    Calls Tryd.prog 22 #[.agg #[.slice A n c, .slice A2 n2 c2], .string (bs nm)] w fun e w' => GetOut nm fs e ∧ Below w.heap.size w w' := by
  have HN := Lib.hid hn
  clear hn
  go_enter Tryd.func22, Tryd.ntmps22
  go_wp2_with fail
  have hB0 : Below w.heap.size w (w.alloc (.cells #[.slice A n c, .slice A2 n2 c2] 41)) := (Below.refl _ _).alloc (Nat.le_refl _) _
  have r0 : Row (w.alloc (.cells #[.slice A n c, .slice A2 n2 c2] 41)) w.heap.size 41 [.slice A n c, .slice A2 n2 c2] := Row.new w #[.slice A n c, .slice A2 n2 c2] 41
  have hs0 : w.heap.size + 1 ≤ (w.alloc (.cells #[.slice A n c, .slice A2 n2 c2] 41)).heap.size := by simp
  generalize w.alloc (.cells #[.slice A n c, .slice A2 n2 c2] 41) = W0 at *
  have c00 : W0.cell? ⟨w.heap.size, 0, none⟩ = some (.slice A n c) := r0.cell rfl
  have hD0 : Below W0.heap.size W0 (W0.drew.alloc (.cells #[.string (bs nm)] 9)) := ((Below.refl _ W0).drew).alloc (Nat.le_refl _) _
  have hB1 := hB0.trans (hD0.mono hB0.size)
  have hix := index_any A fs n c W0.heap.size nm (W0.drew.alloc (.cells #[.string (bs nm)] 9)) HN.out (hA.below hB1) (tabs_below hT hB1) ((Row.new W0.drew #[.string (bs nm)] 9).cell (j := 0) rfl) hnm hb
  have c10 := (hD0.cell (p := ⟨w.heap.size, 0, none⟩) (cell_lt c00)).trans c00
  go_region_held3 (fun w' => w'.cell? ⟨w.heap.size, 0, none⟩ = some (.slice A n c)) (assumption)
    (first
    | (go_at_call 40; refine (named_any nm _).mono ?_; rintro e w4 ⟨rfl, rfl⟩)
    | (go_at_call 41; refine hix.mono ?_; rintro e w5 ⟨rfl, hb5⟩; have c50 := (hb5.cell (p := ⟨w.heap.size, 0, none⟩) (cell_lt c10)).trans c10))
  have hB5 := hB1.trans (hb5.mono hB1.size)
  by_cases hlt : ahead nm fs < fs.length
  · have hpl : placeZ nm fs = (ahead nm fs : Int) := by unfold placeZ; rw [if_pos hlt]
    rw [hpl]
    obtain ⟨p, hp, _⟩ := keepF_at hlt
    have hh := Lib.hid (valsN_head hp)
    rw [HN.out] at hlt
    obtain ⟨b, o, q, rfl, hq, g0, g1⟩ := (hA.below hB5).one (k := ahead nm fs) (by rw [HN.out]; exact hlt)
    obtain rfl : q = p := Option.some.inj (hq.out.symm.trans hp)
    clear hpl hp hix hq
    generalize ahead nm fs = i0 at *
    go_wp2_with fail
    go_ret2
    exact ⟨by unfold GetOut; rw [hh.out]; rfl, hB5⟩
  · have hal : ahead nm fs = fs.length := by have := ahead_le nm fs; omega
    have hpl : placeZ nm fs = -1 := by unfold placeZ; rw [if_neg hlt]
    rw [hpl]
    have hh := Lib.hid (valsN_none hal)
    clear hpl hix hal hlt
    go_wp2_with fail
    go_ret2
    exact ⟨by unfold GetOut; rw [hh.out]; rfl, hB5⟩

/-- what All answers -/
def AllOut (nm : List UInt8) (fs : List (List UInt8 × List UInt8)) (w : World) (e : Ending) (w' : World) : Prop :=
  ∃ v, e = .returned v ∧ w'.ownsRow w.heap.size 9 1 v (valsN nm fs).length ((valsN nm fs).map strv) ∧ Below w.heap.size w w'

set_option maxRecDepth 100000 in
set_option maxHeartbeats 2000000 in
theorem all_any (A A2 : Option Addr) (fs : List (List UInt8 × List UInt8)) (nm : List UInt8) (n c n2 c2 : Nat) (w : World) (hn : fs.length = n) (hA : Rf w A fs)
    (hT : Lib.Utf8Tabs 1 2 w) (hnm : nm.length ≤ 1000000000) (hb : n ≤ 1000000) :
    Calls Tryd.prog 20 #[.agg #[.slice A n c, .slice A2 n2 c2], .string (bs nm)] w (AllOut nm fs w) := by
  have HN := Lib.hid hn
  clear hn
  go_enter Tryd.func20, Tryd.ntmps20
  go_wp2_with fail
  have hnd := fun w => named_any nm w
  unfold hasV at hnd
  refine (hnd _).mono ?_
  rintro e w1 ⟨rfl, rfl⟩
  have hB0 : Below w.heap.size w ((w.alloc (.cells #[.slice A n c, .slice A2 n2 c2] 41)).alloc (.cells #[.string (bs nm)] 9)) := ((Below.refl _ _).alloc (Nat.le_refl _) _).alloc (by simp) _
  have c10 : ((w.alloc (.cells #[.slice A n c, .slice A2 n2 c2] 41)).alloc (.cells #[.string (bs nm)] 9)).cell? ⟨w.heap.size + 1, 0, none⟩ = some (.string (bs nm)) := by
    simp
  have c00 : ((w.alloc (.cells #[.slice A n c, .slice A2 n2 c2] 41)).alloc (.cells #[.string (bs nm)] 9)).cell? ⟨w.heap.size, 0, none⟩ = some (.slice A n c) := by
    simp
  have eg := eg_named
  have hs0 := hB0.size
  clear hnd
  generalize (w.alloc (.cells #[.slice A n c, .slice A2 n2 c2] 41)).alloc (.cells #[.string (bs nm)] 9) = W0 at *
  go_wp2_with fail
  go_loopw [4, 13] (fun v i wr => ∃ k M : Nat, i = .int .i64 k ∧ k ≤ n ∧ M ≤ k ∧ Hid ((valsN nm (fs.take k)).length = M) ∧ wr.ownsRow W0.heap.size 9 1 v M ((valsN nm (fs.take k)).map strv) ∧ Below W0.heap.size W0 wr) (fun _ i _ => n - (intOf i).toNat)
  case atStart => exact ⟨0, 0, rfl, by omega, by omega, Lib.hid rfl, World.ownsRow_nil _ _ _ _, Below.refl _ _⟩
  case round =>
    obtain ⟨k, M, rfl, hk, hM, hml, hown, hC⟩ := hrel
    have hB := hB0.trans (hC.mono hs0)
    have hs1 := hB.size
    have hsC := hC.size
    have hcr := (hC.cell (p := ⟨w.heap.size + 1, 0, none⟩) (cell_lt c10)).trans c10
    by_cases hlt : k < n
    · obtain ⟨b, o, p, rfl, hp, g0, g1⟩ := (hA.below hB).one (k := k) (by rw [HN.out]; exact hlt)
      have hAl : Below wr.heap.size wr (wr.alloc (.cells #[.string (bs p.1), .string (bs p.2)] 28)) := (Below.refl _ _).alloc (Nat.le_refl _) _
      have hcall := named1_any p nm (w.heap.size + 1) (wr.alloc (.cells #[.string (bs p.1), .string (bs p.2)] 28)) (tabs_below hT (hB.trans (hAl.mono hs1))) ((hAl.cell (p := ⟨w.heap.size + 1, 0, none⟩) (cell_lt hcr)).trans hcr) hnm
      have hst := valsN_snoc nm (fs.take k) p
      rw [← take_succ_of hp.out] at hst
      cases hs : sameN p.1 nm with
      | false =>
        rw [hs] at hcall hst
        simp only [Bool.false_eq_true, if_false, List.append_nil] at hst
        have HST := Lib.hid hst
        clear hs hst
        go_wp2_with fail
        refine hcall.mono ?_
        rintro e w2 ⟨rfl, hb2⟩
        have hC2 : Below wr.heap.size wr w2 := hAl.trans (hb2.mono (by simp))
        have hown2 := own_below hown hC2
        have hB2 := hC.trans (hC2.mono hsC)
        go_wp2_with fail
        go_roundw
        case rel => exact ⟨k + 1, M, by go_num, by omega, by omega, Lib.hid (by rw [HST.out]; exact hml.out), by rw [HST.out]; exact hown2, hB2⟩
        case measure => simp [intOf]; omega
      | true =>
        rw [hs] at hcall hst
        simp only [if_true] at hst
        have HST := Lib.hid hst
        clear hs hst
        go_wp2_with fail
        refine hcall.mono ?_
        rintro e w2 ⟨rfl, hb2⟩
        have hC2 : Below wr.heap.size wr w2 := hAl.trans (hb2.mono (by simp))
        have v1 : w2.cell? ⟨wr.heap.size, 1, none⟩ = some (.string (bs p.2)) := (hb2.cell (p := ⟨wr.heap.size, 1, none⟩) (by simp)).trans (by simp)
        have hown2 := own_below hown hC2
        have hB2 := hC.trans (hC2.mono hsC)
        have hs2 := hB2.size
        go_wp2_with (at_builtin; refine wpList_app rfl (.tmp 20) (.tmp 23) _ _ rfl TStr (hown2.alloc (.cells #[strv p.2] 9)) rfl (Src_rv (news := [strv p.2]) Tryd.underlying43 rfl (Rv_new w2 _ _ _ rfl) (by simp [Value.oneCell', strv]) (by omega)) rfl (by omega) (by simp; omega) ?_; intro v6 w6 hown6 hgr6 hat6; have hB6 := below_app (hB2.alloc hs2 (.cells #[strv p.2] 9)) (hown2.alloc _) hgr6 (by simp; omega) (Nat.le_refl _))
        go_roundw
        case rel => exact ⟨k + 1, M + 1, by go_num, by omega, by omega, Lib.hid (by rw [HST.out, List.length_append, hml.out]; rfl), by rw [HST.out, List.map_append]; exact hown6, hB6⟩
        case measure => simp [intOf]; omega
    · obtain rfl : k = n := by omega
      have hfa : fs.take k = fs := List.take_of_length_le (by rw [HN.out]; omega)
      rw [hfa] at hown hml
      have HML := hml
      clear hfa
      go_wp2_with fail
      go_ret
      exact ⟨_, rfl, by rw [HML.out]; exact own_base hown hs0, hB⟩
end Go.Proofs.YtgohdohkikkeeaaDoor
