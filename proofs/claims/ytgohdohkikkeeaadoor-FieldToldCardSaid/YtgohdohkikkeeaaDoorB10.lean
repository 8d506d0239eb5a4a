/- The statement FieldTold: the walk of the law. -/
import Derived.Test.YtgohdohkikkeeaaDoorL9
import Derived.Test.YtgohdohkikkeeaaDoorN4
import Derived.Test.YtgohdohkikkeeaaDoorN6
import Derived.Test.YtgohdohkikkeeaaDoorS1
namespace Go.Proofs.YtgohdohkikkeeaaDoor
open Go.RowKit

set_option maxRecDepth 100000 in
set_option maxHeartbeats 4000000 in
theorem told_any (a b n v : List UInt8) (w : World) (hT : Lib.Utf8Tabs 1 2 w) (hn : n.length ≤ 9223372036854775807) :
    Calls Tryd.prog 9 #[.string (bs a), .string (bs b), .agg #[strv n, strv v]] w fun e w' => e = .returned (.bool true) ∧ Below w.heap.size w w' := by
  have hA0 : Below w.heap.size w (w.alloc (.cells #[.string (bs n), .string (bs v)] 28)) := (Below.refl _ _).alloc (Nat.le_refl _) _
  have hfold := fun (W : World) (hv : v.length ≤ 9223372036854775807) => fold_any n v W hn hv
  have hrfold := fun (W : World) (hn : n.length ≤ 1000000) (hv : v.length ≤ 1000000) => rfold_any n v W hn hv
  unfold strv at *
  go_enter Tryd.func9, Tryd.ntmps9
  go_wp2_with fail
  refine (speaks9_any _).mono ?_
  rintro e w1 ⟨rfl, hb1⟩
  have hB1 := hA0.trans (hb1.mono hA0.size)
  have c0 : w1.cell? ⟨w.heap.size, 0, none⟩ = some (.string (bs n)) := (hb1.cell (p := ⟨w.heap.size, 0, none⟩) (by simp)).trans (by simp)
  have c1 : w1.cell? ⟨w.heap.size, 1, none⟩ = some (.string (bs v)) := (hb1.cell (p := ⟨w.heap.size, 1, none⟩) (by simp)).trans (by simp)
  by_cases ha : 300 < a.length
  · go_wp2_with fail
    go_ret
    exact ⟨rfl, hB1⟩
  by_cases hb : 300 < b.length
  · go_wp2_with fail
    go_ret
    exact ⟨rfl, hB1⟩
  by_cases hc : 9000 < v.length
  · go_wp2_with fail
    go_ret
    exact ⟨rfl, hB1⟩
  go_wp2_with fail
  refine (hfold _ (by omega)).mono ?_
  rintro e w2 ⟨hfo, hb2⟩
  have hB2 := hB1.trans (hb2.mono hB1.size)
  obtain ⟨xA, m, xc, k, rfl, hfo2⟩ : ∃ (xA : Option Addr) (m xc : Nat) (k : Int), e = .returned (.tuple #[.slice xA m xc, .int .i64 k]) ∧ ((nmOk n = true ∧ vlOk v = true ∧ k = 0 ∧ m = (foldF n v).length ∧ Rb w2 xA (foldF n v)) ∨ ((nmOk n && vlOk v) = false ∧ k = 3 ∧ m = 0)) := by
    rcases hfo with ⟨hnm, hvl, x, rfl, hx⟩ | ⟨hno, rfl⟩
    · obtain ⟨xA, xc, rfl, _, _, hxR, _⟩ := hx.form
      exact ⟨xA, _, xc, 0, rfl, .inl ⟨hnm, hvl, rfl, rfl, hxR⟩⟩
    · exact ⟨none, 0, 0, 3, rfl, .inr ⟨hno, rfl, rfl⟩⟩
  clear hfo
  have c20 : w2.cell? ⟨w.heap.size, 0, none⟩ = some (.string (bs n)) := (hb2.cell (p := ⟨w.heap.size, 0, none⟩) (cell_lt c0)).trans c0
  have c21 : w2.cell? ⟨w.heap.size, 1, none⟩ = some (.string (bs v)) := (hb2.cell (p := ⟨w.heap.size, 1, none⟩) (cell_lt c1)).trans c1
  have hsame : ∀ (W : World) (x y : List UInt8), Below w.heap.size w W → x.length ≤ 1000000000 → y.length ≤ 1000000000 → Calls Tryd.prog 28 #[.string (bs x), .string (bs y)] W fun e w' => e = .returned (.bool (sameN x y)) ∧ Below w.heap.size w w' ∧ Below W.heap.size W w' :=
    fun W x y hb hx hy => (fsame_any x y W (tabs_below hT hb) hx hy).mono fun e w' h => ⟨h.1, hb.trans (h.2.mono hb.size), h.2⟩
  have la : a.length ≤ 9223372036854775807 := by omega
  have lb : b.length ≤ 9223372036854775807 := by omega
  have lc : v.length ≤ 9223372036854775807 := by omega
  -- the six answers, one behind the other
  go_wp2_with fail
  refine (fname_any a _ la).mono ?_
  rintro e w3 ⟨rfl, hb3⟩
  have hb3' := hb2.trans (hb3.mono hb2.size)
  go_wp2_with fail
  refine (rname_any a _ la).mono ?_
  rintro e w4 ⟨rfl, hd4⟩
  have hb4 := hb3.trans ((hd4.below _).mono hb3.size)
  go_wp2_with fail
  refine (value_any b _ lb).mono ?_
  rintro e w5 ⟨rfl, hb5⟩
  have hb5' := hb4.trans (hb5.mono hb4.size)
  go_wp2_with fail
  refine (rvalue_any b _ lb).mono ?_
  rintro e w6 ⟨rfl, hd6⟩
  have hb6 := hb5'.trans ((hd6.below _).mono hb5'.size)
  have hB6 := hB2.trans (hb6.mono hB2.size)
  go_wp2_with fail
  refine (hsame _ a b hB6 (by omega) (by omega)).mono ?_
  rintro e w7 ⟨rfl, hB7, hb7⟩
  have hb7' := hb6.trans (hb7.mono hb6.size)
  go_wp2_with fail
  refine (rsame_any a b _ (by omega) (by omega)).mono ?_
  rintro e w8 ⟨rfl, hd8⟩
  have hb8 := hb7'.trans ((hd8.below _).mono hb7'.size)
  have hB8 := hB2.trans (hb8.mono hB2.size)
  have c80 : w8.cell? ⟨w.heap.size, 0, none⟩ = some (.string (bs n)) := (hb8.cell (p := ⟨w.heap.size, 0, none⟩) (cell_lt c20)).trans c20
  have c81 : w8.cell? ⟨w.heap.size, 1, none⟩ = some (.string (bs v)) := (hb8.cell (p := ⟨w.heap.size, 1, none⟩) (cell_lt c21)).trans c21
  rcases hfo2 with ⟨hnm, hvl, rfl, rfl, hxR⟩ | ⟨hno, rfl, rfl⟩
  · have hnl := nmOk_len hnm
    go_wp2_with fail
    refine (rname_any n _ hn).mono ?_
    rintro e w9 ⟨rfl, hd9⟩
    rw [hnm]
    have c90 : w9.cell? ⟨w.heap.size, 0, none⟩ = some (.string (bs n)) := ((hd9.below w8.heap.size).cell (p := ⟨w.heap.size, 0, none⟩) (cell_lt c80)).trans c80
    have c91 : w9.cell? ⟨w.heap.size, 1, none⟩ = some (.string (bs v)) := ((hd9.below w8.heap.size).cell (p := ⟨w.heap.size, 1, none⟩) (cell_lt c81)).trans c81
    go_wp2_with fail
    refine (rvalue_any v _ lc).mono ?_
    rintro e w10 ⟨rfl, hd10⟩
    rw [hvl]
    have c100 : w10.cell? ⟨w.heap.size, 0, none⟩ = some (.string (bs n)) := ((hd10.below w9.heap.size).cell (p := ⟨w.heap.size, 0, none⟩) (cell_lt c90)).trans c90
    have c101 : w10.cell? ⟨w.heap.size, 1, none⟩ = some (.string (bs v)) := ((hd10.below w9.heap.size).cell (p := ⟨w.heap.size, 1, none⟩) (cell_lt c91)).trans c91
    have hb10 := hb8.trans ((((hd9.below w8.heap.size).trans ((hd10.below w9.heap.size).mono (hd9.below w8.heap.size).size))).mono hb8.size)
    have hB10 := hB2.trans (hb10.mono hB2.size)
    go_wp2_with fail
    refine (hrfold _ (by omega) (by omega)).mono ?_
    rintro e w11 ⟨⟨y, rfl, hy⟩, hb11⟩
    obtain ⟨yA, yc, rfl, hyc, _, hyR, hyl⟩ := hy.form
    have hB11 := hB10.trans (hb11.mono hB10.size)
    have hfl := foldF_len n v
    have hxR2 : Rb w11 xA (foldF n v) := (Rb.below (l := foldF n v) hxR hb10).below hb11
    generalize foldF n v = z at *
    go_wp2_with fail
    refine (same_any xA yA z z z.length z.length xc yc w11 rfl rfl hxR2 hyR (by omega)).mono ?_
    rintro e w12 ⟨rfl, hd12⟩
    rw [decide_eq_true rfl]
    go_wp2_with fail
    go_ret
    exact ⟨rfl, hB11.trans ((hd12.below _).mono hB11.size)⟩
  · go_wp2_with fail
    refine (rname_any n _ hn).mono ?_
    rintro e w9 ⟨rfl, hd9⟩
    have hB9 := hB8.trans ((hd9.below w8.heap.size).mono hB8.size)
    have c91 : w9.cell? ⟨w.heap.size, 1, none⟩ = some (.string (bs v)) := ((hd9.below w8.heap.size).cell (p := ⟨w.heap.size, 1, none⟩) (cell_lt c81)).trans c81
    cases hnm : nmOk n with
    | false =>
      go_wp2_with fail
      go_ret
      exact ⟨rfl, hB9⟩
    | true =>
      rw [hnm, Bool.true_and] at hno
      go_wp2_with fail
      refine (rvalue_any v _ lc).mono ?_
      rintro e w10 ⟨rfl, hd10⟩
      rw [hno]
      go_wp2_with fail
      go_ret
      exact ⟨rfl, hB9.trans ((hd10.below w9.heap.size).mono hB9.size)⟩
end Go.Proofs.YtgohdohkikkeeaaDoor
