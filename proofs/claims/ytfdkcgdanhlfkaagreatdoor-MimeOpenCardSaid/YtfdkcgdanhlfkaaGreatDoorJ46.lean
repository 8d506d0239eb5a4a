/- The part of a mail of kind text/x whose body is told as base64. · Plain: fields that are kept have none of the two names; the two that come behind are found. -/
import Derived.Test.YtfdkcgdanhlfkaaGreatDoorJ45
import Derived.KernelRfl
import Derived.Test.YtfdkcgdanhlfkaaGreatDoorJ26
import Derived.Test.YtfdkcgdanhlfkaaGreatDoorJ37
namespace Go.Proofs.YtfdkcgdanhlfkaaGreatDoor
set_option linter.unusedVariables false
set_option linter.unusedSimpArgs false
open Go.RowKit

theorem parm_ex : Tk.parmP [84, 101, 120, 116, 47, 88, 59, 32, 97, 61, 98] = .ok ([116, 101, 120, 116, 47, 120], [([97], [98])]) := by kernel_rfl
theorem cell_ne {w : World} {p : Addr} {b o : Nat} (v : Value) (h : b ≠ p.block) : (w.setCell p v).cell? ⟨b, o, none⟩ = w.cell? ⟨b, o, none⟩ := World.cell?_of_block (w := w) (Below.heap_setCell w p v b h)

set_option maxRecDepth 100000 in
set_option maxHeartbeats 4000000 in
theorem readB_any (d : Int) (A A2 : Option Addr) (fs : List (List UInt8 × List UInt8)) (l : List UInt8) (n c n2 c2 : Nat) (w : World) (hn : fs.length = n) (hA : Fd.Rf w A fs) (hn2 : l.length = n2) (hA2 : Rb w A2 l) (h2c : n2 ≤ c2)
    (hT : Lib.Utf8Tabs 2 3 w) (hM : Tk.Mx w) (hC : w.cell? ⟨0, 1, none⟩ = some (.string (bs [98, 97, 115, 101, 54, 52]))) (hb : n ≤ 1000000) (hb2 : n2 ≤ 1000000)
    (hv : (Fd.valsN cteN fs).head? = some [32, 66, 97, 115, 101, 54, 52]) (hv2 : (Fd.valsN ctN fs).head? = some [84, 101, 120, 116, 47, 88, 59, 32, 97, 61, 98]) (hlb : Ar.nob l = [90, 109, 56, 61]) :
    Calls Tryz.prog 24 #[.agg #[.slice A n c, .slice A2 n2 c2], .int .i64 d] w fun e w' => (∃ A5 c5 A3 c3, e = .returned (.tuple #[.agg #[.string (bs [116, 101, 120, 116, 47, 120]), .slice A5 1 c5, .int .i64 1, .slice A3 2 c3, .slice none 0 0], .int .i64 0]) ∧ 2 ≤ c3 ∧ Rb w' A3 [102, 111]) ∧ Below w.heap.size w w' := by
  have HN := Lib.hid hn
  have HN2 := Lib.hid hn2
  have HV := Lib.hid hv
  have HV2 := Lib.hid hv2
  have HLB := Lib.hid hlb
  clear hn hn2 hv hv2 hlb
  have hB0 : Below w.heap.size w (w.alloc (.cells #[.slice A n c, .slice A2 n2 c2] 38)) := (Below.refl _ _).alloc (Nat.le_refl _) _
  go_enter Tryz.func24, Tryz.ntmps24
  go_wp2_with fail
  have hB1 : Below w.heap.size w ((w.alloc (.cells #[.slice A n c, .slice A2 n2 c2] 38)).alloc (.cells #[.string (bs [116, 101, 120, 116, 47, 112, 108, 97, 105, 110]), .slice none 0 0, .int .i64 0, .slice none 0 0, .slice none 0 0] 44)) := hB0.trans (((Below.refl _ _).alloc (Nat.le_refl _) _).mono hB0.size)
  have r1 := Row.new (w.alloc (.cells #[.slice A n c, .slice A2 n2 c2] 38)) #[.string (bs [116, 101, 120, 116, 47, 112, 108, 97, 105, 110]), .slice none 0 0, .int .i64 0, .slice none 0 0, .slice none 0 0] 44
  have r0 := (Row.new w #[.slice A n c, .slice A2 n2 c2] 38).below ((Below.refl (w.alloc (.cells #[.slice A n c, .slice A2 n2 c2] 38)).heap.size (w.alloc (.cells #[.slice A n c, .slice A2 n2 c2] 38))).alloc (Nat.le_refl _) (.cells #[.string (bs [116, 101, 120, 116, 47, 112, 108, 97, 105, 110]), .slice none 0 0, .int .i64 0, .slice none 0 0, .slice none 0 0] 44))
  rw [World.size_alloc] at r1
  have hg := Fd.get_any A A2 fs [67, 111, 110, 116, 101, 110, 116, 45, 84, 121, 112, 101] n c n2 c2 ((w.alloc (.cells #[.slice A n c, .slice A2 n2 c2] 38)).alloc (.cells #[.string (bs [116, 101, 120, 116, 47, 112, 108, 97, 105, 110]), .slice none 0 0, .int .i64 0, .slice none 0 0, .slice none 0 0] 44)) HN.out (hA.below hB1) (tabs_below hT hB1) (by simp) hb
  refine hg.mono ?_
  rintro e w2 ⟨hgo, hbb⟩
  obtain rfl := get_some HV2.out hgo
  clear hgo
  have hB2 := hB1.trans (hbb.mono hB1.size)
  have r12 := r1.below hbb
  have r02 := r0.below hbb
  go_wp2_with fail
  refine (Tk.params_any [84, 101, 120, 116, 47, 88, 59, 32, 97, 61, 98] w2 (hM.below hB2) (by simp)).mono ?_
  rintro e w3 ⟨hpo, hb3⟩
  unfold Tk.PrmOut at hpo
  rw [parm_ex] at hpo
  obtain ⟨v, rfl, hown⟩ := hpo
  obtain ⟨A5, c5, hv5, _⟩ := own_form hown
  obtain rfl : v = .slice A5 1 c5 := hv5
  have hB3 := hB2.trans (hb3.mono hB2.size)
  have r13 := r12.below hb3
  have r03 := r02.below hb3
  clear hg r0 r1 r02 r12 hown hbb hb3
  have l0 := r03.cell (j := 0) rfl
  have l1 := r03.cell (j := 1) rfl
  have k0 := r13.cell (j := 0) rfl
  have k1 := r13.cell (j := 1) rfl
  have k2 := r13.cell (j := 2) rfl
  have k3 := r13.cell (j := 3) rfl
  have k4 := r13.cell (j := 4) rfl
  have f0 := r13.frozen 0
  have f1 := r13.frozen 1
  have f2 := r13.frozen 2
  have f3 := r13.frozen 3
  have f4 := r13.frozen 4
  go_upto_region 7 with fail
  have rG := ((r13.set 0 (.string (bs [116, 101, 120, 116, 47, 120]))).set 1 (.slice A5 1 c5))
  have hBG := ((hB3.setCell (p := ⟨w.heap.size + 1, 0, none⟩) (by simp) (.string (bs [116, 101, 120, 116, 47, 120]))).setCell (p := ⟨w.heap.size + 1, 1, none⟩) (by simp) (.slice A5 1 c5))
  have m0 : ((w3.setCell ⟨w.heap.size + 1, 0, none⟩ (.string (bs [116, 101, 120, 116, 47, 120]))).setCell ⟨w.heap.size + 1, 1, none⟩ (.slice A5 1 c5)).cell? ⟨w.heap.size, 0, none⟩ = some (.slice A n c) := by rw [cell_ne _ (by simp), cell_ne _ (by simp)]; exact l0
  have m1 : ((w3.setCell ⟨w.heap.size + 1, 0, none⟩ (.string (bs [116, 101, 120, 116, 47, 120]))).setCell ⟨w.heap.size + 1, 1, none⟩ (.slice A5 1 c5)).cell? ⟨w.heap.size, 1, none⟩ = some (.slice A2 n2 c2) := by rw [cell_ne _ (by simp), cell_ne _ (by simp)]; exact l1
  obtain ⟨WG, hWG⟩ : ∃ WG, ((w3.setCell ⟨w.heap.size + 1, 0, none⟩ (.string (bs [116, 101, 120, 116, 47, 120]))).setCell ⟨w.heap.size + 1, 1, none⟩ (.slice A5 1 c5)) = WG := ⟨_, rfl⟩
  rw [hWG] at rG hBG m0 m1 ⊢
  clear hWG r13 r03 l0 l1 k0 k1 k2 k3 k4 f0 f1 f2 f3 f4
  have k0 := rG.cell (j := 0) rfl
  have hpx : Lib.hasPrefix (bs [116, 101, 120, 116, 47, 120]).data.toList (⟨#[109, 117, 108, 116, 105, 112, 97, 114, 116, 47]⟩ : ByteArray).data.toList = false := by decide
  go_wp2_with fail
  refine (Tryz.strings_HasPrefix _ _ _).mono ?_
  rintro e w' ⟨rfl, hw⟩
  rw [hw, hpx]
  clear hw hpx
  go_wp2_with fail
  refine (leafB_any A A2 fs l n c n2 c2 WG HN.out (hA.below hBG) HN2.out (hA2.below hBG) h2c (tabs_below hT hBG) ((hBG.cell (p := ⟨0, 1, none⟩) (cell_lt hC)).trans hC) hb hb2 HV.out HLB.out).mono ?_
  rintro e w4 ⟨⟨A3, c3, rfl, h3c, hR3⟩, hb4⟩
  have hB4 := hBG.trans (hb4.mono hBG.size)
  have r4 := rG.below hb4
  have hne : ∀ b o, A3 = some ⟨b, o, none⟩ → b ≠ w.heap.size + 1 := Rb_not r4 hR3 (by simp) (by
    intro v hv x e
    simp [bv] at hv
    rcases hv with rfl | rfl | rfl | rfl <;> cases e)
  clear rG k0 m0 m1 hb4 hBG
  have k0 := r4.cell (j := 0) rfl
  have k1 := r4.cell (j := 1) rfl
  have k2 := r4.cell (j := 2) rfl
  have k3 := r4.cell (j := 3) rfl
  have k4 := r4.cell (j := 4) rfl
  have f0 := r4.frozen 0
  have f1 := r4.frozen 1
  have f2 := r4.frozen 2
  have f3 := r4.frozen 3
  have f4 := r4.frozen 4
  go_wp2_with fail
  have rF := (((((((r4.set 2 (.int .i64 1)).set 3 (.slice A3 2 c3)).set 0 (.string (bs [116, 101, 120, 116, 47, 120]))).set 1 (.slice A5 1 c5)).set 2 (.int .i64 1)).set 3 (.slice A3 2 c3)).set 4 (.slice none 0 0))
  have hBF := (((((((hB4.setCell (p := ⟨w.heap.size + 1, 2, none⟩) (by simp) (.int .i64 1)).setCell (p := ⟨w.heap.size + 1, 3, none⟩) (by simp) (.slice A3 2 c3)).setCell (p := ⟨w.heap.size + 1, 0, none⟩) (by simp) (.string (bs [116, 101, 120, 116, 47, 120]))).setCell (p := ⟨w.heap.size + 1, 1, none⟩) (by simp) (.slice A5 1 c5)).setCell (p := ⟨w.heap.size + 1, 2, none⟩) (by simp) (.int .i64 1)).setCell (p := ⟨w.heap.size + 1, 3, none⟩) (by simp) (.slice A3 2 c3)).setCell (p := ⟨w.heap.size + 1, 4, none⟩) (by simp) (.slice none 0 0))
  have hRF := (Rb_set (p := ⟨w.heap.size + 1, 4, none⟩) (Rb_set (p := ⟨w.heap.size + 1, 3, none⟩) (Rb_set (p := ⟨w.heap.size + 1, 2, none⟩) (Rb_set (p := ⟨w.heap.size + 1, 1, none⟩) (Rb_set (p := ⟨w.heap.size + 1, 0, none⟩) (Rb_set (p := ⟨w.heap.size + 1, 3, none⟩) (Rb_set (p := ⟨w.heap.size + 1, 2, none⟩) hR3 (.int .i64 1) hne) (.slice A3 2 c3) hne) (.string (bs [116, 101, 120, 116, 47, 120])) hne) (.slice A5 1 c5) hne) (.int .i64 1) hne) (.slice A3 2 c3) hne) (.slice none 0 0) hne)
  obtain ⟨WF, hWF⟩ : ∃ WF, (((((((w4.setCell ⟨w.heap.size + 1, 2, none⟩ (.int .i64 1)).setCell ⟨w.heap.size + 1, 3, none⟩ (.slice A3 2 c3)).setCell ⟨w.heap.size + 1, 0, none⟩ (.string (bs [116, 101, 120, 116, 47, 120]))).setCell ⟨w.heap.size + 1, 1, none⟩ (.slice A5 1 c5)).setCell ⟨w.heap.size + 1, 2, none⟩ (.int .i64 1)).setCell ⟨w.heap.size + 1, 3, none⟩ (.slice A3 2 c3)).setCell ⟨w.heap.size + 1, 4, none⟩ (.slice none 0 0)) = WF := ⟨_, rfl⟩
  rw [hWF] at rF hBF hRF ⊢
  have e0 := rF.cell (j := 0) rfl
  have e1 := rF.cell (j := 1) rfl
  have e2 := rF.cell (j := 2) rfl
  have e3 := rF.cell (j := 3) rfl
  have e4 := rF.cell (j := 4) rfl
  exact bodyPost_ret (v := .tuple #[.agg #[.string (bs [116, 101, 120, 116, 47, 120]), .slice A5 1 c5, .int .i64 1, .slice A3 2 c3, .slice none 0 0], .int .i64 0]) (by simp [results, Tryz.results24, go_sem, e0, e1, e2, e3, e4]) rfl ⟨⟨A5, c5, A3, c3, rfl, h3c, hRF⟩, hBF⟩

set_option maxRecDepth 100000 in
set_option maxHeartbeats 4000000 in
theorem mreadB_any (A A2 : Option Addr) (fs : List (List UInt8 × List UInt8)) (l : List UInt8) (n c n2 c2 : Nat) (w : World) (hn : fs.length = n) (hA : Fd.Rf w A fs) (hn2 : l.length = n2) (hA2 : Rb w A2 l) (h2c : n2 ≤ c2)
    (hT : Lib.Utf8Tabs 2 3 w) (hM : Tk.Mx w) (hC : w.cell? ⟨0, 1, none⟩ = some (.string (bs [98, 97, 115, 101, 54, 52]))) (hb : n ≤ 1000000) (hb2 : n2 ≤ 1000000)
    (hv : (Fd.valsN cteN fs).head? = some [32, 66, 97, 115, 101, 54, 52]) (hv2 : (Fd.valsN ctN fs).head? = some [84, 101, 120, 116, 47, 88, 59, 32, 97, 61, 98]) (hlb : Ar.nob l = [90, 109, 56, 61]) :
    Calls Tryz.prog 14 #[.agg #[.slice A n c, .slice A2 n2 c2]] w fun e w' => (∃ A5 c5 A3 c3, e = .returned (.tuple #[.agg #[.string (bs [116, 101, 120, 116, 47, 120]), .slice A5 1 c5, .int .i64 1, .slice A3 2 c3, .slice none 0 0], .int .i64 0]) ∧ 2 ≤ c3 ∧ Rb w' A3 [102, 111]) ∧ Below w.heap.size w w' := by
  have hB0 : Below w.heap.size w (w.alloc (.cells #[.slice A n c, .slice A2 n2 c2] 38)) := (Below.refl _ _).alloc (Nat.le_refl _) _
  have hB1 : Below w.heap.size w ((w.alloc (.cells #[.slice A n c, .slice A2 n2 c2] 38)).alloc (.cells #[.string ⟨#[]⟩, .slice none 0 0, .int .i64 0, .slice none 0 0, .slice none 0 0] 44)) := hB0.trans (((Below.refl _ _).alloc (Nat.le_refl _) _).mono hB0.size)
  have r1 := Row.new (w.alloc (.cells #[.slice A n c, .slice A2 n2 c2] 38)) #[.string ⟨#[]⟩, .slice none 0 0, .int .i64 0, .slice none 0 0, .slice none 0 0] 44
  rw [World.size_alloc] at r1
  have r0 := (Row.new w #[.slice A n c, .slice A2 n2 c2] 38).below ((Below.refl (w.alloc (.cells #[.slice A n c, .slice A2 n2 c2] 38)).heap.size (w.alloc (.cells #[.slice A n c, .slice A2 n2 c2] 38))).alloc (Nat.le_refl _) (.cells #[.string ⟨#[]⟩, .slice none 0 0, .int .i64 0, .slice none 0 0, .slice none 0 0] 44))
  have l0 := r0.cell (j := 0) rfl
  have l1 := r0.cell (j := 1) rfl
  have hrd := readB_any 0 A A2 fs l n c n2 c2 ((w.alloc (.cells #[.slice A n c, .slice A2 n2 c2] 38)).alloc (.cells #[.string ⟨#[]⟩, .slice none 0 0, .int .i64 0, .slice none 0 0, .slice none 0 0] 44)) hn (hA.below hB1) hn2 (hA2.below hB1) h2c (tabs_below hT hB1) (hM.below hB1) ((hB1.cell (p := ⟨0, 1, none⟩) (cell_lt hC)).trans hC) hb hb2 hv hv2 hlb
  clear hn hn2 hv hv2 hlb
  go_enter Tryz.func14, Tryz.ntmps14
  go_wp2_with fail
  refine hrd.mono ?_
  rintro e w3 ⟨⟨A5, c5, A3, c3, rfl, h3, hR3⟩, hb3⟩
  have hB3 := hB1.trans (hb3.mono hB1.size)
  have r3 := r1.below hb3
  have hne : ∀ b o, A3 = some ⟨b, o, none⟩ → b ≠ w.heap.size + 1 := Rb_not r3 hR3 (by simp) (by
    intro v hv x e
    simp [bv] at hv
    rcases hv with rfl | rfl | rfl | rfl <;> cases e)
  clear r1 hb3 hB0 hB1 hrd r0 l0 l1
  have k0 := r3.cell (j := 0) rfl
  have k1 := r3.cell (j := 1) rfl
  have k2 := r3.cell (j := 2) rfl
  have k3 := r3.cell (j := 3) rfl
  have k4 := r3.cell (j := 4) rfl
  have f0 := r3.frozen 0
  have f1 := r3.frozen 1
  have f2 := r3.frozen 2
  have f3 := r3.frozen 3
  have f4 := r3.frozen 4
  go_wp2_with fail
  have rF := (((((r3.set 0 (.string (bs [116, 101, 120, 116, 47, 120]))).set 1 (.slice A5 1 c5)).set 2 (.int .i64 1)).set 3 (.slice A3 2 c3)).set 4 (.slice none 0 0))
  have hBF := (((((hB3.setCell (p := ⟨w.heap.size + 1, 0, none⟩) (by simp) (.string (bs [116, 101, 120, 116, 47, 120]))).setCell (p := ⟨w.heap.size + 1, 1, none⟩) (by simp) (.slice A5 1 c5)).setCell (p := ⟨w.heap.size + 1, 2, none⟩) (by simp) (.int .i64 1)).setCell (p := ⟨w.heap.size + 1, 3, none⟩) (by simp) (.slice A3 2 c3)).setCell (p := ⟨w.heap.size + 1, 4, none⟩) (by simp) (.slice none 0 0))
  have hRF := (Rb_set (p := ⟨w.heap.size + 1, 4, none⟩) (Rb_set (p := ⟨w.heap.size + 1, 3, none⟩) (Rb_set (p := ⟨w.heap.size + 1, 2, none⟩) (Rb_set (p := ⟨w.heap.size + 1, 1, none⟩) (Rb_set (p := ⟨w.heap.size + 1, 0, none⟩) hR3 (.string (bs [116, 101, 120, 116, 47, 120])) hne) (.slice A5 1 c5) hne) (.int .i64 1) hne) (.slice A3 2 c3) hne) (.slice none 0 0) hne)
  obtain ⟨WF, hWF⟩ : ∃ WF, (((((w3.setCell ⟨w.heap.size + 1, 0, none⟩ (.string (bs [116, 101, 120, 116, 47, 120]))).setCell ⟨w.heap.size + 1, 1, none⟩ (.slice A5 1 c5)).setCell ⟨w.heap.size + 1, 2, none⟩ (.int .i64 1)).setCell ⟨w.heap.size + 1, 3, none⟩ (.slice A3 2 c3)).setCell ⟨w.heap.size + 1, 4, none⟩ (.slice none 0 0)) = WF := ⟨_, rfl⟩
  rw [hWF] at rF hBF hRF ⊢
  have e0 := rF.cell (j := 0) rfl
  have e1 := rF.cell (j := 1) rfl
  have e2 := rF.cell (j := 2) rfl
  have e3 := rF.cell (j := 3) rfl
  have e4 := rF.cell (j := 4) rfl
  exact bodyPost_ret (v := .tuple #[.agg #[.string (bs [116, 101, 120, 116, 47, 120]), .slice A5 1 c5, .int .i64 1, .slice A3 2 c3, .slice none 0 0], .int .i64 0]) (by simp [results, Tryz.results14, go_sem, e0, e1, e2, e3, e4]) rfl ⟨⟨A5, c5, A3, c3, rfl, h3, hRF⟩, hBF⟩
end Go.Proofs.YtfdkcgdanhlfkaaGreatDoor

namespace Go.Proofs.YtfdkcgdanhlfkaaGreatDoor
set_option linter.unusedVariables false
set_option linter.unusedSimpArgs false

/-- a field that is kept -/
def okF (p : List UInt8 × List UInt8) : Bool := decide (p.1.length < 8) || (p.1[0]? != some 67 && p.1[0]? != some 99)
theorem small_c (c : UInt8) (h : small c = 99) : c = 67 ∨ c = 99 := by
  have h1 := congrArg UInt8.toNat h
  rw [small_nat] at h1
  split at h1
  · exact .inl (UInt8.toNat_inj.1 (by show c.toNat = 67; have : (99 : UInt8).toNat = 99 := rfl; omega))
  · exact .inr (UInt8.toNat_inj.1 h1)
theorem same_not {p : List UInt8 × List UInt8} {nm : List UInt8} (h : okF p = true) (h8 : 8 ≤ nm.length) (hc : nm[0]? = some 67) : sameN p.1 nm = false := by
  unfold sameN
  rw [decide_eq_false_iff_not]
  intro e
  have hl := congrArg List.length e
  rw [List.length_map, List.length_map] at hl
  have h0 := congrArg (·[0]?) e
  simp only [List.getElem?_map, hc, Option.map_some] at h0
  unfold okF at h
  simp only [Bool.or_eq_true, decide_eq_true_eq, Bool.and_eq_true, bne_iff_ne] at h
  rcases h with h | ⟨ha, hb⟩
  · omega
  · cases hp : p.1[0]? with
    | none => rw [hp] at h0; cases h0
    | some x =>
      rw [hp] at h0 ha hb
      have h1 : small x = small 67 := Option.some.inj h0
      rcases small_c x (h1.trans (by decide)) with rfl | rfl
      · exact ha rfl
      · exact hb rfl
theorem vals_none {fs : List (List UInt8 × List UInt8)} {nm : List UInt8} (h : ∀ p ∈ fs, okF p = true) (h8 : 8 ≤ nm.length) (hc : nm[0]? = some 67) : Fd.valsN nm fs = [] := by
  unfold Fd.valsN
  rw [List.filter_eq_nil_iff.2 fun p hp => by rw [same_not (h p hp) h8 hc]; simp]
  rfl
/-- the two that come behind -/
abbrev fA : List UInt8 × List UInt8 := ([99, 79, 78, 84, 69, 78, 84, 45, 116, 89, 80, 69], [84, 101, 120, 116, 47, 88, 59, 32, 97, 61, 98])
abbrev fB : List UInt8 × List UInt8 := ([67, 79, 78, 84, 69, 78, 84, 45, 116, 114, 97, 110, 115, 102, 101, 114, 45, 69, 78, 67, 79, 68, 73, 78, 71], [32, 66, 97, 115, 101, 54, 52])
theorem vals_kind {fs : List (List UInt8 × List UInt8)} (h : ∀ p ∈ fs, okF p = true) : (Fd.valsN [67, 111, 110, 116, 101, 110, 116, 45, 84, 121, 112, 101] (fs ++ [fA] ++ [fB])).head? = some [84, 101, 120, 116, 47, 88, 59, 32, 97, 61, 98] := by
  rw [Fd.valsN_snoc, Fd.valsN_snoc, vals_none h (by decide) rfl, if_pos (by decide), if_neg (by decide)]
  rfl
theorem vals_code {fs : List (List UInt8 × List UInt8)} (h : ∀ p ∈ fs, okF p = true) : (Fd.valsN [67, 111, 110, 116, 101, 110, 116, 45, 84, 114, 97, 110, 115, 102, 101, 114, 45, 69, 110, 99, 111, 100, 105, 110, 103] (fs ++ [fA] ++ [fB])).head? = some [32, 66, 97, 115, 101, 54, 52] := by
  rw [Fd.valsN_snoc, Fd.valsN_snoc, vals_none h (by decide) rfl, if_neg (by decide), if_pos (by decide)]
  rfl
theorem nob_ex : Ar.nob [90, 109, 56, 32, 61, 10] = [90, 109, 56, 61] := by decide +kernel
end Go.Proofs.YtfdkcgdanhlfkaaGreatDoor
