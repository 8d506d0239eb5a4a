/- The document's bytes of signs, with blanks: the walk of Read. -/
import Derived.Test.YtdnlelmajepleaaDoorG2
import Derived.Test.YtdnlelmajepleaaDoorF3
namespace Go.Proofs.YtdnlelmajepleaaDoor
open Go.RowKit

theorem isb_cases (y : UInt8) : (isb y.toNat = true ∧ ((((y.toNat : Int) != 32) = false) ∨ (((y.toNat : Int) != 32) = true ∧ ((y.toNat : Int) != 9) = false) ∨ (((y.toNat : Int) != 32) = true ∧ ((y.toNat : Int) != 9) = true ∧ ((y.toNat : Int) != 13) = false) ∨ (((y.toNat : Int) != 32) = true ∧ ((y.toNat : Int) != 9) = true ∧ ((y.toNat : Int) != 13) = true ∧ ((y.toNat : Int) != 10) = false))) ∨
    (isb y.toNat = false ∧ ((y.toNat : Int) != 32) = true ∧ ((y.toNat : Int) != 9) = true ∧ ((y.toNat : Int) != 13) = true ∧ ((y.toNat : Int) != 10) = true) := by
  have key : ∀ n : Fin 256, (isb n.1 = true ∧ ((((n.1 : Int) != 32) = false) ∨ (((n.1 : Int) != 32) = true ∧ ((n.1 : Int) != 9) = false) ∨ (((n.1 : Int) != 32) = true ∧ ((n.1 : Int) != 9) = true ∧ ((n.1 : Int) != 13) = false) ∨ (((n.1 : Int) != 32) = true ∧ ((n.1 : Int) != 9) = true ∧ ((n.1 : Int) != 13) = true ∧ ((n.1 : Int) != 10) = false))) ∨
    (isb n.1 = false ∧ ((n.1 : Int) != 32) = true ∧ ((n.1 : Int) != 9) = true ∧ ((n.1 : Int) != 13) = true ∧ ((n.1 : Int) != 10) = true) := by decide +kernel
  exact key ⟨y.toNat, y.toNat_lt⟩
theorem nob_keep {c : UInt8} (h : isb c.toNat = false) : nob [c] = [c] := by simp [nob, h]

set_option maxRecDepth 100000 in
set_option maxHeartbeats 2000000 in
theorem refR_any (A : Option Addr) (l : List UInt8) (n c : Nat) (w : World) (hn : l.length = n) (hA : Rb w A l) (hnc : n ≤ c) (hb : n ≤ 1000000) :
    Calls Tryd.prog 9 #[.slice A n c] w (DecOut (nob l) w) := by
  have HN := Lib.hid hn
  clear hn
  have hpu : ∀ W, Sem.run Tryd.prog (pure #[] : Sem (Array Value)) W = .ok #[] W := fun _ => rfl
  have hst : ∀ a W, Sem.run Tryd.prog (storeCells a []) W = .ok () W := fun _ _ => rfl
  have hown0 := World.ownsRow_made (base := w.heap.size) (e := 5) (size := 1) w #[] 0 (Nat.le_refl _) (by unfold maxLen; omega) rfl
  go_enter Tryd.func9, Tryd.ntmps9
  go_wp2_with fail
  go_loopw [4, 5] (fun v i wr => ∃ q k : Nat, i = .int .i64 q ∧ q ≤ n ∧ k ≤ q ∧ wr.ownsRow w.heap.size 5 1 v k ((nob (l.take q)).map bv) ∧ Below w.heap.size w wr) (fun _ i _ => n - (intOf i).toNat)
  case atStart => exact ⟨0, 0, rfl, by omega, by omega, hown0, (Below.refl _ _).alloc (Nat.le_refl _) _⟩
  case round =>
    obtain ⟨q, k, rfl, hq, hk, hown, hB⟩ := hrel
    obtain ⟨wo, rfl⟩ : ∃ wo : World, wo = wr := ⟨_, rfl⟩
    by_cases hlt : q < n
    · obtain ⟨b, o, y, rfl, hy, hc⟩ := hA.one (k := q) (by rw [HN.out]; exact hlt)
      have hc0 := cell_lt hc
      have hc2 := (hB.cell (p := ⟨b, o + q, none⟩) hc0).trans hc
      have hs1 := hB.size
      have hown1 := hown
      clear hc hown0 hown
      have hstep : nob (l.take (q + 1)) = nob (l.take q) ++ nob [y] := by rw [take_succ_of hy.out, nob_append]
      have HST := Lib.hid hstep
      clear hstep
      rcases isb_cases y with ⟨hbl, h1⟩ | ⟨hbl, h1, h2, h3, h4⟩
      · rw [nob_one hbl, List.append_nil] at HST
        clear hbl
        rcases h1 with h1 | ⟨h1, h2⟩ | ⟨h1, h2, h3⟩ | ⟨h1, h2, h3, h4⟩
        all_goals
          go_wp2_with fail
          go_roundw
          case rel => exact ⟨q + 1, k, by go_num, by omega, by omega, by rw [HST.out]; exact hown1, hB⟩
          case measure => simp [intOf]; omega
      · rw [nob_keep hbl] at HST
        clear hbl
        go_wp2_with (at_builtin; refine wpList_app rfl (.tmp 39) (.tmp 44) _ _ rfl TU8 (hown1.alloc (.cells #[bv y] 5)) rfl (Src_rv (news := [bv y]) Tryd.underlying22 rfl (Rv_new wo _ _ _ rfl) (by simp [Value.oneCell', bv]) (by omega)) rfl (by omega) (by simp; omega) ?_; intro v2 w2 hown2 hgr2 hat2; have hB2 := below_app (hB.alloc hs1 (.cells #[bv y] 5)) (hown1.alloc _) hgr2 (by simp; omega) (Nat.le_refl _))
        go_roundw
        case rel =>
          refine ⟨q + 1, k + 1, by go_num, by omega, by omega, ?_, hB2⟩
          rw [HST.out, List.map_append]
          exact hown2
        case measure => simp [intOf]; omega
    · obtain rfl : q = n := by omega
      rw [take_all l (by rw [HN.out]; omega)] at hown
      obtain ⟨A3, c3, rfl, hc3, hc3m, hR3, hl3⟩ := own_form hown
      have hl4 : (nob l).length = k := by simpa using hl3
      have hcv := conv_str (P := Tryd.prog) (src := 22) (dst := 9) (e := 5) Tryd.underlying22 Tryd.underlying5 Tryd.underlying9 (n := k) (c := c3) (show Rb wo A3 (nob l) from hR3) hl4
      have HL4 := Lib.hid hl4
      clear hl3 hl4 hown hown0 hlt
      generalize nob l = m at *
      go_wp2_with fail
      refine (refD_any m _ (by rw [HL4.out]; omega)).mono ?_
      intro e w3 hd
      obtain ⟨hd1, hb3⟩ := hd
      rcases hd1 with ⟨A5, n5, c5, a5, rfl, h1, h2, h3, h4, h5⟩ | ⟨rfl, h1⟩
      · have H1 := Lib.hid h1
        have H5 := Lib.hid h5
        clear h1 h5
        go_wp2
        go_ret2
        exact ⟨.inl ⟨_, _, _, _, rfl, H1.out, h2, h3, h4, H5.out⟩, hB.trans (hb3.mono hB.size)⟩
      · have H1 := Lib.hid h1
        clear h1
        go_wp2
        go_ret2
        exact ⟨.inr ⟨rfl, H1.out⟩, hB.trans (hb3.mono hB.size)⟩
end Go.Proofs.YtdnlelmajepleaaDoor
