/- letter's Get and All. -/
import Derived.Test.YtfdkcgdanhlfkaaGreatDoorJ25
namespace Go.Proofs.YtfdkcgdanhlfkaaGreatDoor
namespace Fd
set_option linter.unusedVariables false
set_option linter.unusedSimpArgs false
open Go.RowKit

/-- the values of a name's fields -/
def valsN (nm : List UInt8) (fs : List (List UInt8 × List UInt8)) : List (List UInt8) := (fs.filter fun p => sameN p.1 nm).map Prod.snd
theorem valsN_snoc (nm : List UInt8) (fs : List (List UInt8 × List UInt8)) (p : List UInt8 × List UInt8) : valsN nm (fs ++ [p]) = valsN nm fs ++ (if sameN p.1 nm then [p.2] else []) := by
  unfold valsN
  rw [List.filter_append]
  cases h : sameN p.1 nm <;> simp [h]
theorem valsN_len (nm : List UInt8) (fs : List (List UInt8 × List UInt8)) : (valsN nm fs).length ≤ fs.length := by
  unfold valsN
  rw [List.length_map]
  exact List.length_filter_le _ _
theorem valsN_none {nm : List UInt8} {fs : List (List UInt8 × List UInt8)} (h : ahead nm fs = fs.length) : valsN nm fs = [] := by
  have h1 := keepF_none h
  unfold valsN keepF at *
  rw [List.map_eq_nil_iff, List.filter_eq_nil_iff]
  intro p hp
  rw [List.filter_eq_self] at h1
  have := h1 p hp
  simpa using this
theorem valsN_head {nm : List UInt8} : ∀ {fs : List (List UInt8 × List UInt8)} {p : List UInt8 × List UInt8}, fs[ahead nm fs]? = some p → (valsN nm fs).head? = some p.2
  | [], _, h => by simp at h
  | q :: fs, p, h => by
    cases hq : sameN q.1 nm with
    | true =>
      have e : ahead nm (q :: fs) = 0 := by simp [ahead, hq]
      rw [e] at h
      simp at h
      subst h
      simp [valsN, hq]
    | false =>
      have e : ahead nm (q :: fs) = ahead nm fs + 1 := by simp [ahead, List.takeWhile_cons, hq]
      rw [e] at h
      have := valsN_head (fs := fs) (p := p) (by simpa using h)
      unfold valsN at *
      rw [List.filter_cons_of_neg (by simp [hq])]
      exact this

/-- what Get answers -/
def GetOut (nm : List UInt8) (fs : List (List UInt8 × List UInt8)) (e : Ending) : Prop :=
  match (valsN nm fs).head? with
  | some v => e = .returned (.tuple #[.string (bs v), .bool true])
  | none => e = .returned (.tuple #[.string (bs []), .bool false])

set_option maxRecDepth 100000 in
set_option maxHeartbeats 2000000 in
theorem get_any (A A2 : Option Addr) (fs : List (List UInt8 × List UInt8)) (nm : List UInt8) (n c n2 c2 : Nat) (w : World) (hn : fs.length = n) (hA : Rf w A fs)
    (hT : Lib.Utf8Tabs 2 3 w) (hnm : nm.length ≤ 1000000000) (hb : n ≤ 1000000) :
    Calls Tryz.prog 35 #[.agg #[.slice A n c, .slice A2 n2 c2], .string (bs nm)] w fun e w' => GetOut nm fs e ∧ Below w.heap.size w w' := by
  have HN := Lib.hid hn
  clear hn
  go_enter Tryz.func35, Tryz.ntmps35
  go_wp2_with fail
  have hB0 : Below w.heap.size w (w.alloc (.cells #[.slice A n c, .slice A2 n2 c2] 38)) := (Below.refl _ _).alloc (Nat.le_refl _) _
  have r0 : Row (w.alloc (.cells #[.slice A n c, .slice A2 n2 c2] 38)) w.heap.size 38 [.slice A n c, .slice A2 n2 c2] := Row.new w #[.slice A n c, .slice A2 n2 c2] 38
  have hs0 : w.heap.size + 1 ≤ (w.alloc (.cells #[.slice A n c, .slice A2 n2 c2] 38)).heap.size := by simp
  generalize w.alloc (.cells #[.slice A n c, .slice A2 n2 c2] 38) = W0 at *
  have c00 : W0.cell? ⟨w.heap.size, 0, none⟩ = some (.slice A n c) := r0.cell rfl
  have hD0 : Below W0.heap.size W0 (W0.drew.alloc (.cells #[.string (bs nm)] 9)) := ((Below.refl _ W0).drew).alloc (Nat.le_refl _) _
  have hB1 := hB0.trans (hD0.mono hB0.size)
  have hix := index_any A fs n c W0.heap.size nm (W0.drew.alloc (.cells #[.string (bs nm)] 9)) HN.out (hA.below hB1) (tabs_below hT hB1) ((Row.new W0.drew #[.string (bs nm)] 9).cell (j := 0) rfl) hnm hb
  have c10 := (hD0.cell (p := ⟨w.heap.size, 0, none⟩) (cell_lt c00)).trans c00
  go_region_held3 (fun w' => w'.cell? ⟨w.heap.size, 0, none⟩ = some (.slice A n c)) (assumption)
    (first
    | (go_at_call 55; refine (named_any nm _).mono ?_; rintro e w4 ⟨rfl, rfl⟩)
    | (go_at_call 54; refine hix.mono ?_; rintro e w5 ⟨rfl, hb5⟩; have c50 := (hb5.cell (p := ⟨w.heap.size, 0, none⟩) (cell_lt c10)).trans c10))
  have hB5 := hB1.trans (hb5.mono hB1.size)
  by_cases hlt : ahead nm fs < fs.length
  · have hpl : placeZ nm fs = (ahead nm fs : Int) := by unfold placeZ; rw [if_pos hlt]
    rw [hpl]
    obtain ⟨p, hp, _⟩ := keepF_at hlt
    have hh := Lib.hid (valsN_head hp)
    rw [HN.out] at hlt
    obtain ⟨b, o, q, rfl, hq, g0, g1⟩ := (hA.below hB5).one (k := ahead nm fs) (by rw [HN.out]; exact hlt)
    obtain rfl : q = p := Option.some.inj (hq.out.symm.trans hp)
    clear hpl hp hix hq
    generalize ahead nm fs = i0 at *
    go_wp2_with fail
    go_ret2
    exact ⟨by unfold GetOut; rw [hh.out]; rfl, hB5⟩
  · have hal : ahead nm fs = fs.length := by have := ahead_le nm fs; omega
    have hpl : placeZ nm fs = -1 := by unfold placeZ; rw [if_neg hlt]
    rw [hpl]
    have hh := Lib.hid (valsN_none hal)
    clear hpl hix hal hlt
    go_wp2_with fail
    go_ret2
    exact ⟨by unfold GetOut; rw [hh.out]; rfl, hB5⟩

/-- what All answers -/
def AllOut (nm : List UInt8) (fs : List (List UInt8 × List UInt8)) (w : World) (e : Ending) (w' : World) : Prop :=
  ∃ v, e = .returned v ∧ w'.ownsRow w.heap.size 9 1 v (valsN nm fs).length ((valsN nm fs).map strv) ∧ Below w.heap.size w w'


end Fd
end Go.Proofs.YtfdkcgdanhlfkaaGreatDoor
