/- The document's examples hold; TokenBare's walk. -/
import Derived.Test.YtnmkapaphbaomaaDoorU9
import Derived.KernelRfl
namespace Go.Proofs.YtnmkapaphbaomaaDoor
set_option linter.unusedVariables false
set_option linter.unusedSimpArgs false
open Go.RowKit

theorem ex_addr : addrP [65, 110, 110, 32, 40, 120, 41, 32, 60, 97, 46, 98, 64, 67, 46, 100, 62] = .ok [97, 46, 98, 64, 99, 46, 100] := by kernel_rfl
theorem ex_parm : parmP [97, 47, 98, 59, 32, 99, 61, 34, 100, 32, 101, 34] = .ok ([97, 47, 98], [([99], [100, 32, 101])]) := by kernel_rfl

set_option maxRecDepth 100000 in
set_option maxHeartbeats 1000000 in
theorem speaks_any (w : World) (hw : Mx w) : Calls Tryd.prog 6 #[] w fun e w' => e = .returned (.bool true) ∧ Below w.heap.size w w' := by
  have ha : Calls Tryd.prog 11 #[.string ⟨#[65, 110, 110, 32, 40, 120, 41, 32, 60, 97, 46, 98, 64, 67, 46, 100, 62]⟩] w fun e w' => e = .returned (.tuple #[.string ⟨#[97, 46, 98, 64, 99, 46, 100]⟩, .int .i64 0]) ∧ Below w.heap.size w w' := by
    have h := addr_any [65, 110, 110, 32, 40, 120, 41, 32, 60, 97, 46, 98, 64, 67, 46, 100, 62] w hw (by decide)
    rw [ex_addr] at h
    exact h
  have hp : ∀ W, Mx W → Calls Tryd.prog 15 #[.string ⟨#[97, 47, 98, 59, 32, 99, 61, 34, 100, 32, 101, 34]⟩] W fun e w' => (∃ v, e = .returned (.tuple #[.string ⟨#[97, 47, 98]⟩, v, .int .i64 0]) ∧ w'.ownsRow W.heap.size 40 2 v 1 [.string ⟨#[99]⟩, .string ⟨#[100, 32, 101]⟩]) ∧ Below W.heap.size W w' := fun W hW => by
    refine (params_any [97, 47, 98, 59, 32, 99, 61, 34, 100, 32, 101, 34] W hW (by decide)).mono ?_
    rintro e w' ⟨h1, h2⟩
    unfold PrmOut at h1
    rw [ex_parm] at h1
    exact ⟨h1, h2⟩
  go_enter Tryd.func6, Tryd.ntmps6
  go_wp2_with fail
  refine ha.mono ?_
  rintro e w1 ⟨rfl, hb1⟩
  go_wp2_with fail
  refine (hp _ (hw.below hb1)).mono ?_
  rintro e w2 ⟨⟨v, rfl, hown⟩, hb2⟩
  obtain ⟨A, c, rfl, hnc, hcm, hR, _⟩ := own_form hown
  obtain ⟨b, o, hA, hcell⟩ := hR (by simp)
  subst hA
  have c0 : w2.cell? ⟨b, o, none⟩ = some (.string ⟨#[99]⟩) := hcell 0 _ rfl
  have c1 : w2.cell? ⟨b, o + 1, none⟩ = some (.string ⟨#[100, 32, 101]⟩) := hcell 1 _ rfl
  clear hown hR hcell ha hp
  go_wp2_with fail
  go_ret
  exact ⟨rfl, hb1.trans (hb2.mono hb1.size)⟩

/-- two that hand back the same -/
theorem bareOut_two (r : Except Nat (List UInt8)) : ∃ (o : List UInt8) (k : Nat), ∀ e, BareOut r e → e = .returned (.tuple #[.string (bs o), .int .i64 (k : Int)]) := by
  cases r with
  | ok o => exact ⟨o, 0, fun e h => h⟩
  | error k => exact ⟨[], k, fun e h => h⟩
set_option maxRecDepth 100000 in
set_option maxHeartbeats 1000000 in
theorem tokenBare_any (l : List UInt8) (w : World) (hw : Mx w) (hl : l.length ≤ 9223372036854775807) :
    Calls Tryd.prog 3 #[.string (bs l)] w fun e w' => e = .returned (.bool true) ∧ Below w.heap.size w w' := by
  go_enter Tryd.func3, Tryd.ntmps3
  go_wp2_with fail
  refine (speaks_any _ hw).mono ?_
  rintro e w1 ⟨rfl, hb1⟩
  by_cases h1 : 1000 < l.length
  · go_wp2_with fail
    go_ret
    exact ⟨rfl, hb1⟩
  · obtain ⟨o, k, hok⟩ := bareOut_two (bareP l)
    have hb := fun W => bare_any l W (by omega)
    have hr := fun W => rbare_any l W (by omega)
    have ha := fun W => atom_any l W (by omega)
    have hra := fun W => ratom_any l W (by omega)
    generalize bareP l = r at *
    generalize atomB l = z at *
    go_wp2_with fail
    refine (hb _).mono ?_
    rintro e w2 ⟨h2, hb2⟩
    rw [hok _ h2]
    have hB2 := hb1.trans (hb2.mono hb1.size)
    clear hb hb1 hb2 h2
    go_wp2_with fail
    refine (hr _).mono ?_
    rintro e w3 ⟨h3, hb3⟩
    rw [hok _ h3]
    have hB3 := hB2.trans (hb3.mono hB2.size)
    clear hr hB2 hb3 h3 hok
    go_wp2_with fail
    refine (ha _).mono ?_
    rintro e w4 ⟨rfl, hb4⟩
    have hB4 := hB3.trans (hb4.mono hB3.size)
    go_wp2_with fail
    refine (hra _).mono ?_
    rintro e w5 ⟨rfl, rfl⟩
    go_wp2_with fail
    go_ret
    exact ⟨ret_bool (by simp), hB4⟩
end Go.Proofs.YtnmkapaphbaomaaDoor
