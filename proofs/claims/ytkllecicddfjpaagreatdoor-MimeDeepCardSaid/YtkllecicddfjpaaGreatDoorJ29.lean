/- The part of a mail that has none of the two fields: a text, its body as it is. · Plain: the mail of a part: what mime's Write gives, told by what its parts give. · Rows of bytes compared by slices.EqualFunc and bytes.Equal; a part's bytes as they are written: mime's encode. -/
import Derived.Test.YtkllecicddfjpaaGreatDoorJ27
import Derived.Test.YtkllecicddfjpaaGreatDoorJ28
import Derived.Test.YtkllecicddfjpaaGreatDoorJ15
import Derived.Test.YtkllecicddfjpaaGreatDoorJ23
import Derived.Test.YtkllecicddfjpaaGreatDoorJ26
import Derived.Test.YtkllecicddfjpaaGreatDoorJ04
namespace Go.Proofs.YtkllecicddfjpaaGreatDoor
set_option linter.unusedVariables false
set_option linter.unusedSimpArgs false
open Go.RowKit

/-- the fields' names -/
abbrev ctN : List UInt8 := [67, 111, 110, 116, 101, 110, 116, 45, 84, 121, 112, 101]
abbrev cteN : List UInt8 := [67, 111, 110, 116, 101, 110, 116, 45, 84, 114, 97, 110, 115, 102, 101, 114, 45, 69, 110, 99, 111, 100, 105, 110, 103]
theorem Rb_kept {w w' : World} {A : Option Addr} {l : List UInt8} {lo hi : Nat} (h : Rb w A l) (hk : Kept lo hi w w') (hA : ∀ b o, A = some ⟨b, o, none⟩ → lo ≤ b ∧ b < hi) : Rb w' A l := fun hp => by
  obtain ⟨b, o, e, hc⟩ := h hp
  obtain ⟨h1, h2⟩ := hA b o e
  exact ⟨b, o, e, fun j v hj => (hk.cell h1 h2).trans (hc j v hj)⟩
theorem get_none {nm : List UInt8} {fs : List (List UInt8 × List UInt8)} {e : Ending} (hv : (Fd.valsN nm fs).head? = none) (h : Fd.GetOut nm fs e) : e = .returned (.tuple #[.string (bs []), .bool false]) := by
  unfold Fd.GetOut at h
  rw [hv] at h
  exact h
theorem own_in {w : World} {base : Nat} {e : TypeId} {A : Option Addr} {n c : Nat} {xs : List Value} (h : w.ownsRow base e 1 (.slice A n c) n xs) : ∀ b o, A = some ⟨b, o, none⟩ → base ≤ b ∧ b < w.heap.size := by
  rintro b o rfl
  have := (OwnM.of h).lt b (by simp [Value.ownBlock])
  exact this

set_option maxRecDepth 100000 in
set_option maxHeartbeats 2000000 in
theorem leafP_any (A A2 : Option Addr) (fs : List (List UInt8 × List UInt8)) (l : List UInt8) (n c n2 c2 : Nat) (w : World) (hn : fs.length = n) (hA : Fd.Rf w A fs) (hn2 : l.length = n2) (hA2 : Rb w A2 l) (h2c : n2 ≤ c2) (hpl : Pl A2 c2)
    (hT : Lib.Utf8Tabs 2 3 w) (hb : n ≤ 1000000) (hb2 : n2 ≤ 1000000) (hv : (Fd.valsN cteN fs).head? = none) :
    Calls Tryz.prog 71 #[.agg #[.slice A n c, .slice A2 n2 c2]] w fun e w' => (∃ A' c', e = .returned (.tuple #[.int .i64 0, .slice A' n2 c', .int .i64 0]) ∧ n2 ≤ c' ∧ Rb w' A' l ∧ ∀ b o, A' = some ⟨b, o, none⟩ → w.heap.size ≤ b ∧ b < w'.heap.size) ∧ Below w.heap.size w w' := by
  have HN := Lib.hid hn
  have HN2 := Lib.hid hn2
  have HV := Lib.hid hv
  clear hn hn2 hv
  have hB0 : Below w.heap.size w (w.alloc (.cells #[.slice A n c, .slice A2 n2 c2] 39)) := (Below.refl _ _).alloc (Nat.le_refl _) _
  have c00 : (w.alloc (.cells #[.slice A n c, .slice A2 n2 c2] 39)).cell? ⟨w.heap.size, 0, none⟩ = some (.slice A n c) := by simp
  have c01 : (w.alloc (.cells #[.slice A n c, .slice A2 n2 c2] 39)).cell? ⟨w.heap.size, 1, none⟩ = some (.slice A2 n2 c2) := by simp
  go_enter Tryz.func71, Tryz.ntmps71
  go_wp2_with fail
  generalize (w.alloc (.cells #[.slice A n c, .slice A2 n2 c2] 39)) = W0 at *
  have hg := Fd.get_any A A2 fs [67, 111, 110, 116, 101, 110, 116, 45, 84, 114, 97, 110, 115, 102, 101, 114, 45, 69, 110, 99, 111, 100, 105, 110, 103] n c n2 c2 W0 HN.out (hA.below hB0) (tabs_below hT hB0) (by simp) hb
  refine hg.mono ?_
  rintro e w1 ⟨hgo, hb1⟩
  obtain rfl := get_none HV.out hgo
  clear hgo hg
  have hB1 := hB0.trans (hb1.mono hB0.size)
  have c11 := (hb1.cell (p := ⟨w.heap.size, 1, none⟩) (cell_lt c01)).trans c01
  go_wp2_with fail
  refine (trim_any [] w1 (by simp)).mono ?_
  rintro e w2 ⟨rfl, hb2⟩
  have hB2 := hB1.trans (hb2.mono hB1.size)
  have c21 := (hb2.cell (p := ⟨w.heap.size, 1, none⟩) (cell_lt c11)).trans c11
  go_wp2_with fail
  refine (small0_any w2).mono ?_
  rintro e w3 ⟨rfl, hb3⟩
  have hB3 := hB2.trans (hb3.mono hB2.size)
  have c31 := (hb3.cell (p := ⟨w.heap.size, 1, none⟩) (cell_lt c21)).trans c21
  go_wp2_with fail
  refine (clone_any A2 l n2 c2 w3 HN2.out (hA2.below hB3) h2c hpl (by omega)).mono ?_
  rintro e w4 ⟨⟨v, rfl, hown⟩, hb4⟩
  obtain ⟨A4, c4, rfl, h4, _, hR4, _⟩ := own_slice hown
  have hin := own_in hown
  have hs3 := hB3.size
  go_wp2_with fail
  go_ret3
  exact ⟨⟨A4, c4, rfl, h4, hR4, fun b o e => ⟨by have := (hin b o e).1; omega, (hin b o e).2⟩⟩, hB3.trans (hb4.mono hB3.size)⟩

set_option maxRecDepth 100000 in
set_option maxHeartbeats 2000000 in
theorem readP_any (d : Int) (A A2 : Option Addr) (fs : List (List UInt8 × List UInt8)) (l : List UInt8) (n c n2 c2 : Nat) (w : World) (hn : fs.length = n) (hA : Fd.Rf w A fs) (hn2 : l.length = n2) (hA2 : Rb w A2 l) (h2c : n2 ≤ c2) (hpl : Pl A2 c2)
    (hT : Lib.Utf8Tabs 2 3 w) (hb : n ≤ 1000000) (hb2 : n2 ≤ 1000000) (hv : (Fd.valsN cteN fs).head? = none) (hv2 : (Fd.valsN ctN fs).head? = none) :
    Calls Tryz.prog 32 #[.agg #[.slice A n c, .slice A2 n2 c2], .int .i64 d] w fun e w' => (∃ A3 c3, e = .returned (.tuple #[.agg #[.string (bs [116, 101, 120, 116, 47, 112, 108, 97, 105, 110]), .slice none 0 0, .int .i64 0, .slice A3 n2 c3, .slice none 0 0], .int .i64 0]) ∧ n2 ≤ c3 ∧ Rb w' A3 l ∧ ∀ b o, A3 = some ⟨b, o, none⟩ → w.heap.size + 2 ≤ b ∧ b < w'.heap.size) ∧ Below w.heap.size w w' := by
  have HN := Lib.hid hn
  have HN2 := Lib.hid hn2
  have HV := Lib.hid hv
  have HV2 := Lib.hid hv2
  clear hn hn2 hv hv2
  have hB0 : Below w.heap.size w (w.alloc (.cells #[.slice A n c, .slice A2 n2 c2] 39)) := (Below.refl _ _).alloc (Nat.le_refl _) _
  go_enter Tryz.func32, Tryz.ntmps32
  go_wp2_with fail
  have hB1 : Below w.heap.size w ((w.alloc (.cells #[.slice A n c, .slice A2 n2 c2] 39)).alloc (.cells #[.string (bs [116, 101, 120, 116, 47, 112, 108, 97, 105, 110]), .slice none 0 0, .int .i64 0, .slice none 0 0, .slice none 0 0] 34)) := hB0.trans (((Below.refl _ _).alloc (Nat.le_refl _) _).mono hB0.size)
  have r1 := Row.new (w.alloc (.cells #[.slice A n c, .slice A2 n2 c2] 39)) #[.string (bs [116, 101, 120, 116, 47, 112, 108, 97, 105, 110]), .slice none 0 0, .int .i64 0, .slice none 0 0, .slice none 0 0] 34
  have r0 := (Row.new w #[.slice A n c, .slice A2 n2 c2] 39).below ((Below.refl (w.alloc (.cells #[.slice A n c, .slice A2 n2 c2] 39)).heap.size (w.alloc (.cells #[.slice A n c, .slice A2 n2 c2] 39))).alloc (Nat.le_refl _) (.cells #[.string (bs [116, 101, 120, 116, 47, 112, 108, 97, 105, 110]), .slice none 0 0, .int .i64 0, .slice none 0 0, .slice none 0 0] 34))
  rw [World.size_alloc] at r1
  have hg := Fd.get_any A A2 fs [67, 111, 110, 116, 101, 110, 116, 45, 84, 121, 112, 101] n c n2 c2 ((w.alloc (.cells #[.slice A n c, .slice A2 n2 c2] 39)).alloc (.cells #[.string (bs [116, 101, 120, 116, 47, 112, 108, 97, 105, 110]), .slice none 0 0, .int .i64 0, .slice none 0 0, .slice none 0 0] 34)) HN.out (hA.below hB1) (tabs_below hT hB1) (by simp) hb
  have hs1 : w.heap.size + 2 ≤ ((w.alloc (.cells #[.slice A n c, .slice A2 n2 c2] 39)).alloc (.cells #[.string (bs [116, 101, 120, 116, 47, 112, 108, 97, 105, 110]), .slice none 0 0, .int .i64 0, .slice none 0 0, .slice none 0 0] 34)).heap.size := by simp
  refine hg.mono ?_
  rintro e w2 ⟨hgo, hbb⟩
  obtain rfl := get_none HV2.out hgo
  clear hgo
  have hB2 := hB1.trans (hbb.mono hB1.size)
  have r12 := r1.below hbb
  have r02 := r0.below hbb
  have hs2 := hbb.size
  have c20 := r12.cell (j := 0) rfl
  have l0 := r02.cell (j := 0) rfl
  have l1 := r02.cell (j := 1) rfl
  have hpx : Lib.hasPrefix (bs [116, 101, 120, 116, 47, 112, 108, 97, 105, 110]).data.toList (⟨#[109, 117, 108, 116, 105, 112, 97, 114, 116, 47]⟩ : ByteArray).data.toList = false := by decide
  go_wp2_with fail
  refine (Tryz.strings_HasPrefix _ _ _).mono ?_
  rintro e w' ⟨rfl, hw⟩
  rw [hw, hpx]
  clear hw hpx
  go_wp2_with fail
  refine (leafP_any A A2 fs l n c n2 c2 w2 HN.out (hA.below hB2) HN2.out (hA2.below hB2) h2c hpl (tabs_below hT hB2) hb hb2 HV.out).mono ?_
  rintro e w3 ⟨⟨A3, c3, rfl, h3c, hR3, hin⟩, hb3⟩
  have hB3 := hB2.trans (hb3.mono hB2.size)
  have r3 := r12.below hb3
  have hs3 := hb3.size
  clear r02 r12 c20 l0 l1 hg r0 r1 hbb hb3 hB0 hB1 hB2
  have k0 := r3.cell (j := 0) rfl
  have k1 := r3.cell (j := 1) rfl
  have k2 := r3.cell (j := 2) rfl
  have k3 := r3.cell (j := 3) rfl
  have k4 := r3.cell (j := 4) rfl
  have f0 := r3.frozen 0
  have f1 := r3.frozen 1
  have f2 := r3.frozen 2
  have f3 := r3.frozen 3
  have f4 := r3.frozen 4
  go_wp2_with fail
  have rF := (((((((r3.set 2 (.int .i64 0)).set 3 (.slice A3 n2 c3)).set 0 (.string (bs [116, 101, 120, 116, 47, 112, 108, 97, 105, 110]))).set 1 (.slice none 0 0)).set 2 (.int .i64 0)).set 3 (.slice A3 n2 c3)).set 4 (.slice none 0 0))
  have hBF := (((((((hB3.setCell (p := ⟨w.heap.size + 1, 2, none⟩) (by simp) (.int .i64 0)).setCell (p := ⟨w.heap.size + 1, 3, none⟩) (by simp) (.slice A3 n2 c3)).setCell (p := ⟨w.heap.size + 1, 0, none⟩) (by simp) (.string (bs [116, 101, 120, 116, 47, 112, 108, 97, 105, 110]))).setCell (p := ⟨w.heap.size + 1, 1, none⟩) (by simp) (.slice none 0 0)).setCell (p := ⟨w.heap.size + 1, 2, none⟩) (by simp) (.int .i64 0)).setCell (p := ⟨w.heap.size + 1, 3, none⟩) (by simp) (.slice A3 n2 c3)).setCell (p := ⟨w.heap.size + 1, 4, none⟩) (by simp) (.slice none 0 0))
  have hRF := Rb_kept hR3 ((((((((Kept.refl (w.heap.size + 2) w3.heap.size w3).trans (Kept.setCell _ (p := ⟨w.heap.size + 1, 2, none⟩) (.inl (by show w.heap.size + 1 < w.heap.size + 2; omega)) (.int .i64 0))).trans (Kept.setCell _ (p := ⟨w.heap.size + 1, 3, none⟩) (.inl (by show w.heap.size + 1 < w.heap.size + 2; omega)) (.slice A3 n2 c3))).trans (Kept.setCell _ (p := ⟨w.heap.size + 1, 0, none⟩) (.inl (by show w.heap.size + 1 < w.heap.size + 2; omega)) (.string (bs [116, 101, 120, 116, 47, 112, 108, 97, 105, 110])))).trans (Kept.setCell _ (p := ⟨w.heap.size + 1, 1, none⟩) (.inl (by show w.heap.size + 1 < w.heap.size + 2; omega)) (.slice none 0 0))).trans (Kept.setCell _ (p := ⟨w.heap.size + 1, 2, none⟩) (.inl (by show w.heap.size + 1 < w.heap.size + 2; omega)) (.int .i64 0))).trans (Kept.setCell _ (p := ⟨w.heap.size + 1, 3, none⟩) (.inl (by show w.heap.size + 1 < w.heap.size + 2; omega)) (.slice A3 n2 c3))).trans (Kept.setCell _ (p := ⟨w.heap.size + 1, 4, none⟩) (.inl (by show w.heap.size + 1 < w.heap.size + 2; omega)) (.slice none 0 0))) (fun b o e => ⟨by have := (hin b o e).1; omega, (hin b o e).2⟩)
  have hSF : w3.heap.size ≤ (((((((w3.setCell ⟨w.heap.size + 1, 2, none⟩ (.int .i64 0)).setCell ⟨w.heap.size + 1, 3, none⟩ (.slice A3 n2 c3)).setCell ⟨w.heap.size + 1, 0, none⟩ (.string (bs [116, 101, 120, 116, 47, 112, 108, 97, 105, 110]))).setCell ⟨w.heap.size + 1, 1, none⟩ (.slice none 0 0)).setCell ⟨w.heap.size + 1, 2, none⟩ (.int .i64 0)).setCell ⟨w.heap.size + 1, 3, none⟩ (.slice A3 n2 c3)).setCell ⟨w.heap.size + 1, 4, none⟩ (.slice none 0 0)).heap.size := by simp
  obtain ⟨WF, hWF⟩ : ∃ WF, (((((((w3.setCell ⟨w.heap.size + 1, 2, none⟩ (.int .i64 0)).setCell ⟨w.heap.size + 1, 3, none⟩ (.slice A3 n2 c3)).setCell ⟨w.heap.size + 1, 0, none⟩ (.string (bs [116, 101, 120, 116, 47, 112, 108, 97, 105, 110]))).setCell ⟨w.heap.size + 1, 1, none⟩ (.slice none 0 0)).setCell ⟨w.heap.size + 1, 2, none⟩ (.int .i64 0)).setCell ⟨w.heap.size + 1, 3, none⟩ (.slice A3 n2 c3)).setCell ⟨w.heap.size + 1, 4, none⟩ (.slice none 0 0)) = WF := ⟨_, rfl⟩
  rw [hWF] at rF hBF hRF hSF ⊢
  have e0 := rF.cell (j := 0) rfl
  have e1 := rF.cell (j := 1) rfl
  have e2 := rF.cell (j := 2) rfl
  have e3 := rF.cell (j := 3) rfl
  have e4 := rF.cell (j := 4) rfl
  exact bodyPost_ret (v := .tuple #[.agg #[.string (bs [116, 101, 120, 116, 47, 112, 108, 97, 105, 110]), .slice none 0 0, .int .i64 0, .slice A3 n2 c3, .slice none 0 0], .int .i64 0]) (by simp [results, Tryz.results32, go_sem, e0, e1, e2, e3, e4]) rfl ⟨⟨A3, c3, rfl, h3c, hRF, fun b o e => ⟨by have := (hin b o e).1; omega, Nat.lt_of_lt_of_le (hin b o e).2 hSF⟩⟩, hBF⟩

set_option maxRecDepth 100000 in
set_option maxHeartbeats 2000000 in
theorem mreadP_any (A A2 : Option Addr) (fs : List (List UInt8 × List UInt8)) (l : List UInt8) (n c n2 c2 : Nat) (w : World) (hn : fs.length = n) (hA : Fd.Rf w A fs) (hn2 : l.length = n2) (hA2 : Rb w A2 l) (h2c : n2 ≤ c2) (hpl : Pl A2 c2)
    (hT : Lib.Utf8Tabs 2 3 w) (hb : n ≤ 1000000) (hb2 : n2 ≤ 1000000) (hv : (Fd.valsN cteN fs).head? = none) (hv2 : (Fd.valsN ctN fs).head? = none) :
    Calls Tryz.prog 15 #[.agg #[.slice A n c, .slice A2 n2 c2]] w fun e w' => (∃ A3 c3, e = .returned (.tuple #[.agg #[.string (bs [116, 101, 120, 116, 47, 112, 108, 97, 105, 110]), .slice none 0 0, .int .i64 0, .slice A3 n2 c3, .slice none 0 0], .int .i64 0]) ∧ n2 ≤ c3 ∧ Rb w' A3 l) ∧ Below w.heap.size w w' := by
  have hB0 : Below w.heap.size w (w.alloc (.cells #[.slice A n c, .slice A2 n2 c2] 39)) := (Below.refl _ _).alloc (Nat.le_refl _) _
  have hB1 : Below w.heap.size w ((w.alloc (.cells #[.slice A n c, .slice A2 n2 c2] 39)).alloc (.cells #[.string ⟨#[]⟩, .slice none 0 0, .int .i64 0, .slice none 0 0, .slice none 0 0] 34)) := hB0.trans (((Below.refl _ _).alloc (Nat.le_refl _) _).mono hB0.size)
  have r1 := Row.new (w.alloc (.cells #[.slice A n c, .slice A2 n2 c2] 39)) #[.string ⟨#[]⟩, .slice none 0 0, .int .i64 0, .slice none 0 0, .slice none 0 0] 34
  rw [World.size_alloc] at r1
  have r0 := (Row.new w #[.slice A n c, .slice A2 n2 c2] 39).below ((Below.refl (w.alloc (.cells #[.slice A n c, .slice A2 n2 c2] 39)).heap.size (w.alloc (.cells #[.slice A n c, .slice A2 n2 c2] 39))).alloc (Nat.le_refl _) (.cells #[.string ⟨#[]⟩, .slice none 0 0, .int .i64 0, .slice none 0 0, .slice none 0 0] 34))
  have l0 := r0.cell (j := 0) rfl
  have l1 := r0.cell (j := 1) rfl
  have hrd := readP_any 0 A A2 fs l n c n2 c2 ((w.alloc (.cells #[.slice A n c, .slice A2 n2 c2] 39)).alloc (.cells #[.string ⟨#[]⟩, .slice none 0 0, .int .i64 0, .slice none 0 0, .slice none 0 0] 34)) hn (hA.below hB1) hn2 (hA2.below hB1) h2c hpl (tabs_below hT hB1) hb hb2 hv hv2
  have hs1 : w.heap.size + 2 ≤ ((w.alloc (.cells #[.slice A n c, .slice A2 n2 c2] 39)).alloc (.cells #[.string ⟨#[]⟩, .slice none 0 0, .int .i64 0, .slice none 0 0, .slice none 0 0] 34)).heap.size := by simp
  clear hn hn2 hv hv2
  go_enter Tryz.func15, Tryz.ntmps15
  go_wp2_with fail
  refine hrd.mono ?_
  rintro e w3 ⟨⟨A3, c3, rfl, h3, hR3, hin⟩, hb3⟩
  have hB3 := hB1.trans (hb3.mono hB1.size)
  have r3 := r1.below hb3
  clear r1 hb3 hB0 hB1 hrd r0 l0 l1
  have k0 := r3.cell (j := 0) rfl
  have k1 := r3.cell (j := 1) rfl
  have k2 := r3.cell (j := 2) rfl
  have k3 := r3.cell (j := 3) rfl
  have k4 := r3.cell (j := 4) rfl
  have f0 := r3.frozen 0
  have f1 := r3.frozen 1
  have f2 := r3.frozen 2
  have f3 := r3.frozen 3
  have f4 := r3.frozen 4
  go_wp2_with fail
  have rF := (((((r3.set 0 (.string (bs [116, 101, 120, 116, 47, 112, 108, 97, 105, 110]))).set 1 (.slice none 0 0)).set 2 (.int .i64 0)).set 3 (.slice A3 n2 c3)).set 4 (.slice none 0 0))
  have hBF := (((((hB3.setCell (p := ⟨w.heap.size + 1, 0, none⟩) (by simp) (.string (bs [116, 101, 120, 116, 47, 112, 108, 97, 105, 110]))).setCell (p := ⟨w.heap.size + 1, 1, none⟩) (by simp) (.slice none 0 0)).setCell (p := ⟨w.heap.size + 1, 2, none⟩) (by simp) (.int .i64 0)).setCell (p := ⟨w.heap.size + 1, 3, none⟩) (by simp) (.slice A3 n2 c3)).setCell (p := ⟨w.heap.size + 1, 4, none⟩) (by simp) (.slice none 0 0))
  have hRF := Rb_kept hR3 ((((((Kept.refl (w.heap.size + 2) w3.heap.size w3).trans (Kept.setCell _ (p := ⟨w.heap.size + 1, 0, none⟩) (.inl (by show w.heap.size + 1 < w.heap.size + 2; omega)) (.string (bs [116, 101, 120, 116, 47, 112, 108, 97, 105, 110])))).trans (Kept.setCell _ (p := ⟨w.heap.size + 1, 1, none⟩) (.inl (by show w.heap.size + 1 < w.heap.size + 2; omega)) (.slice none 0 0))).trans (Kept.setCell _ (p := ⟨w.heap.size + 1, 2, none⟩) (.inl (by show w.heap.size + 1 < w.heap.size + 2; omega)) (.int .i64 0))).trans (Kept.setCell _ (p := ⟨w.heap.size + 1, 3, none⟩) (.inl (by show w.heap.size + 1 < w.heap.size + 2; omega)) (.slice A3 n2 c3))).trans (Kept.setCell _ (p := ⟨w.heap.size + 1, 4, none⟩) (.inl (by show w.heap.size + 1 < w.heap.size + 2; omega)) (.slice none 0 0))) (fun b o e => ⟨by have := (hin b o e).1; omega, (hin b o e).2⟩)
  obtain ⟨WF, hWF⟩ : ∃ WF, (((((w3.setCell ⟨w.heap.size + 1, 0, none⟩ (.string (bs [116, 101, 120, 116, 47, 112, 108, 97, 105, 110]))).setCell ⟨w.heap.size + 1, 1, none⟩ (.slice none 0 0)).setCell ⟨w.heap.size + 1, 2, none⟩ (.int .i64 0)).setCell ⟨w.heap.size + 1, 3, none⟩ (.slice A3 n2 c3)).setCell ⟨w.heap.size + 1, 4, none⟩ (.slice none 0 0)) = WF := ⟨_, rfl⟩
  rw [hWF] at rF hBF hRF ⊢
  have e0 := rF.cell (j := 0) rfl
  have e1 := rF.cell (j := 1) rfl
  have e2 := rF.cell (j := 2) rfl
  have e3 := rF.cell (j := 3) rfl
  have e4 := rF.cell (j := 4) rfl
  exact bodyPost_ret (v := .tuple #[.agg #[.string (bs [116, 101, 120, 116, 47, 112, 108, 97, 105, 110]), .slice none 0 0, .int .i64 0, .slice A3 n2 c3, .slice none 0 0], .int .i64 0]) (by simp [results, Tryz.results15, go_sem, e0, e1, e2, e3, e4]) rfl ⟨⟨A3, c3, rfl, h3, hRF⟩, hBF⟩
end Go.Proofs.YtkllecicddfjpaaGreatDoor

namespace Go.Proofs.YtkllecicddfjpaaGreatDoor
set_option linter.unusedVariables false
set_option linter.unusedSimpArgs false
open Go.RowKit

/-- the name of the parameter that tells a boundary -/
abbrev bdN : List UInt8 := [98, 111, 117, 110, 100, 97, 114, 121]
/-- the encodings' names -/
def codeN (k : Int) : List UInt8 := if k = 1 then [98, 97, 115, 101, 54, 52] else [56, 98, 105, 116]
/-- a mail: fields, body -/
abbrev Mail := List (List UInt8 × List UInt8) × List UInt8
/-- a mail, if it may be written -/
def chkM (m : Mail) : Except Nat Mail := match Fd.writeP m.1 m.2 with | .ok _ => .ok m | .error k => .error k
/-- a mail's bytes -/
def mb (m : Mail) : List UInt8 := match Fd.writeP m.1 m.2 with | .ok b => b | .error _ => []
/-- bytes as they are written -/
def encB (code : Int) (b : List UInt8) : List UInt8 := if code = 1 then Ar.lin (Ar.enc b) else b
/-- a part that is no multipart, its bytes as they are or as base64 -/
def leafW (kind : List UInt8) (ms : List (List UInt8 × List UInt8)) (code : Int) (body : List UInt8) : Except Nat Mail :=
  if Tk.rightB kind ms then chkM ([(ctN, Tk.writeB kind ms), (cteN, codeN code)], encB code body) else .error 3
/-- the mails' bytes, or the first error -/
def mailsOf : List (Except Nat Mail) → Except Nat (List (List UInt8))
  | [] => .ok []
  | .error k :: _ => .error k
  | .ok m :: r => match mailsOf r with | .ok l => .ok (mb m :: l) | .error k => .error k
/-- a multipart's body -/
def bodyJ (bd : List UInt8) (ls : List (List UInt8)) : List UInt8 := bld bd ls ++ ([45, 45] ++ bd ++ [45, 45, 13, 10])
def joinG (bd : List UInt8) : Except Nat (List (List UInt8)) → Except Nat (List UInt8)
  | .error k => .error k
  | .ok l => if (splitS (bodyJ bd l) bd).1 = l then .ok (bodyJ bd l) else .error 3
def joinW (bd : List UInt8) (outs : List (Except Nat Mail)) (deep : Nat) : Except Nat (List UInt8) :=
  if outs = [] ∨ bdOk bd = false then .error 3 else if 8 ≤ deep then .error 5 else joinG bd (mailsOf outs)
/-- a multipart -/
def multiW (kind : List UInt8) (ms : List (List UInt8 × List UInt8)) (outs : List (Except Nat Mail)) (deep : Nat) : Except Nat Mail :=
  if Tk.rightB kind ms then match joinW (paramP ms bdN) outs deep with
    | .ok b => chkM ([(ctN, Tk.writeB kind ms)], b)
    | .error k => .error k
  else .error 3

theorem chkM_ok {m x : Mail} (h : chkM m = .ok x) : x = m ∧ Fd.writeP m.1 m.2 = .ok (mb m) := by
  unfold chkM at h
  cases hw : Fd.writeP m.1 m.2 with
  | error k => rw [hw] at h; cases h
  | ok b =>
    rw [hw] at h
    cases h
    exact ⟨rfl, by unfold mb; rw [hw]⟩
theorem mailsOf_step {outs : List (Except Nat Mail)} {k : Nat} {l : List (List UInt8)} (h : mailsOf (outs.take k) = .ok l) {m : Mail} (hm : outs[k]? = some (.ok m)) : mailsOf (outs.take (k + 1)) = .ok (l ++ [mb m]) := by
  induction outs generalizing k l with
  | nil => simp at hm
  | cons o r ih =>
    cases k with
    | zero =>
      simp at hm
      subst hm
      simp [mailsOf] at h
      subst h
      simp [mailsOf]
    | succ k =>
      cases o with
      | error e => simp [mailsOf] at h
      | ok x =>
        rw [List.take_succ_cons, mailsOf] at h ⊢
        cases hr : mailsOf (r.take k) with
        | error e => rw [hr] at h; cases h
        | ok l' =>
          rw [hr] at h
          cases h
          rw [ih hr (by simpa using hm)]
          rfl
theorem mailsOf_stop {outs : List (Except Nat Mail)} {k : Nat} {l : List (List UInt8)} (h : mailsOf (outs.take k) = .ok l) {e : Nat} (hm : outs[k]? = some (.error e)) : mailsOf outs = .error e := by
  induction outs generalizing k l with
  | nil => simp at hm
  | cons o r ih =>
    cases k with
    | zero =>
      simp at hm
      subst hm
      rfl
    | succ k =>
      cases o with
      | error e' => simp [mailsOf] at h
      | ok x =>
        rw [List.take_succ_cons, mailsOf] at h
        cases hr : mailsOf (r.take k) with
        | error e' => rw [hr] at h; cases h
        | ok l' => rw [mailsOf, ih hr (by simpa using hm)]
theorem mailsOf_len {outs : List (Except Nat Mail)} {l : List (List UInt8)} (h : mailsOf outs = .ok l) : l.length = outs.length := by
  induction outs generalizing l with
  | nil => cases h; rfl
  | cons o r ih =>
    cases o with
    | error e => cases h
    | ok x =>
      rw [mailsOf] at h
      cases hr : mailsOf r with
      | error e => rw [hr] at h; cases h
      | ok l' =>
        rw [hr] at h
        cases h
        simp [ih hr]
theorem mailsOf_mem {outs : List (Except Nat Mail)} {l : List (List UInt8)} (h : mailsOf outs = .ok l) : ∀ b ∈ l, ∃ m, .ok m ∈ outs ∧ b = mb m := by
  induction outs generalizing l with
  | nil => cases h; simp
  | cons o r ih =>
    cases o with
    | error e => cases h
    | ok x =>
      rw [mailsOf] at h
      cases hr : mailsOf r with
      | error e => rw [hr] at h; cases h
      | ok l' =>
        rw [hr] at h
        cases h
        intro b hb
        rcases List.mem_cons.1 hb with rfl | hb
        · exact ⟨x, by simp, rfl⟩
        · obtain ⟨m, h1, h2⟩ := ih hr b hb
          exact ⟨m, by simp [h1], h2⟩
theorem bldJ_snoc (bd : List UInt8) (ps : List (List UInt8)) (p : List UInt8) : bld bd (ps ++ [p]) = bld bd ps ++ ([45, 45] ++ bd ++ [13, 10]) ++ p ++ [13, 10] := bld_snoc bd ps p
theorem bldJ_len (bd : List UInt8) (N : Nat) : ∀ (ps : List (List UInt8)), (∀ p ∈ ps, p.length ≤ N) → (bld bd ps).length ≤ ps.length * (bd.length + (N + 6))
  | [], _ => by simp [bld]
  | q :: r, h => by
    have := bldJ_len bd N r fun p hp => h p (by simp [hp])
    have := h q (by simp)
    rw [bld]
    simp only [List.length_append, List.length_cons, List.length_nil, Nat.add_mul]
    omega
end Go.Proofs.YtkllecicddfjpaaGreatDoor

namespace Go.Proofs.YtkllecicddfjpaaGreatDoor
set_option linter.unusedVariables false
set_option linter.unusedSimpArgs false
open Go.RowKit

theorem eg_equal : ∀ args w, (callFunc 127 args).run Tryz.prog w = .ok (.enter 127 args) w := enters_of Tryz.func127 (by kernel_rfl) rfl
theorem list_get_ne {α : Type} {l m : List α} {k : Nat} {x y : α} (h : l[k]? = some x) (h2 : m[k]? = some y) (hne : x ≠ y) : l ≠ m := by
  rintro rfl
  exact hne (Option.some.inj (h.symm.trans h2))
set_option maxRecDepth 100000 in
set_option maxHeartbeats 2000000 in
theorem eqf_any (A B : Option Addr) (ls ms : List (List UInt8)) (n m c d : Nat) (w : World) (hn : ls.length = n) (hm : ms.length = m) (hA : RR w A ls) (hB : RR w B ms) (hn2 : n ≤ 1000000) (hm2 : m ≤ 1000000) :
    Calls Tryz.prog 126 #[.slice A n c, .slice B m d, .func (.func 127) #[] #[]] w fun e w' => e = .returned (.bool (decide (ls = ms))) ∧ Below w.heap.size w w' := by
  have HN := Lib.hid hn
  have HM := Lib.hid hm
  clear hn hm
  have eg := eg_equal
  by_cases hl : n = m
  · subst hl
    have hbb : ((n : Int) != (n : Int)) = false := by simp
    go_enter Tryz.func126, Tryz.ntmps126
    go_wp2_with fail
    go_loopw [7, 8, 9, 17] (fun _ _ _ s17 wr => ∃ k : Nat, s17 = .int .i64 (k : Int) ∧ k ≤ n ∧ Hid (ls.take k = ms.take k) ∧ Below w.heap.size w wr) (fun _ _ _ i _ => n - (intOf i).toNat)
    case atStart => exact ⟨0, rfl, Nat.zero_le _, Lib.hid (by simp), Below.refl _ _⟩
    case round =>
      obtain ⟨k, rfl, hk, ht, hW⟩ := hrel
      by_cases hlt : k < n
      · obtain ⟨b, o, X, cx, l, rfl, hl, h0, hcx, _, _, _, hX⟩ := (hA.below hW).one (k := k) (by rw [HN.out]; exact hlt)
        obtain ⟨b', o', Y, cy, l', rfl, hl', h0', hcy, _, _, _, hY⟩ := (hB.below hW).one (k := k) (by rw [HM.out]; exact hlt)
        have hcall := Tryz.bytes_Equal_all X Y l.length cx l'.length cy (nums l) (nums l') wr (nums_len l) (nums_len l') (bytesIn_of hX) (bytesIn_of hY)
        rw [bytesOf_nums, bytesOf_nums] at hcall
        by_cases heq : l = l'
        · have hb : (l == l') = true := by simpa using heq
          rw [hb] at hcall
          have HT := Lib.hid (show ls.take (k + 1) = ms.take (k + 1) by rw [take_succ_of hl.out, take_succ_of hl'.out, ht.out, heq])
          clear ht hl hl' heq hb
          go_wp2_with fail
          refine hcall.mono ?_
          rintro e w2 ⟨rfl, rfl⟩
          go_wp2_with fail
          go_roundw
          case rel => exact ⟨k + 1, by go_num, by omega, HT, hW⟩
          case measure => simp [intOf]; omega
        · have hb : (l == l') = false := by simpa using heq
          rw [hb] at hcall
          have HT := Lib.hid (show decide (ls = ms) = false from decide_eq_false (list_get_ne hl.out hl'.out heq))
          clear ht hl hl' heq hb
          go_wp2_with fail
          refine hcall.mono ?_
          rintro e w2 ⟨rfl, rfl⟩
          go_wp2_with fail
          go_ret
          exact ⟨ret_bool HT.out.symm, hW⟩
      · obtain rfl : k = n := by omega
        have HT := Lib.hid (show decide (ls = ms) = true from decide_eq_true (by
          have := ht.out
          rwa [List.take_of_length_le (by rw [HN.out]; omega), List.take_of_length_le (by rw [HM.out]; omega)] at this))
        go_wp2_with fail
        go_ret
        exact ⟨ret_bool HT.out.symm, hW⟩
  · have hbb : ((n : Int) != (m : Int)) = true := by rw [bne_iff_ne]; omega
    have HT := Lib.hid (show decide (ls = ms) = false from decide_eq_false (by rintro rfl; exact hl (HN.out.symm.trans HM.out)))
    go_enter Tryz.func126, Tryz.ntmps126
    go_wp2_with fail
    go_ret
    exact ⟨ret_bool HT.out.symm, Below.refl _ _⟩

set_option maxRecDepth 100000 in
set_option maxHeartbeats 2000000 in
theorem encode_any (k : Value) (v1 v4 : Value) (code : Int) (B : Option Addr) (l : List UInt8) (n c : Nat) (w : World) (hcode : code = 0 ∨ code = 1) (hn : l.length = n) (hB : Rb w B l) (hnc : n ≤ c) (hpl : code = 0 → Pl B c) (hb : n ≤ 100000000) :
    Calls Tryz.prog 67 #[.agg #[k, v1, .int .i64 code, .slice B n c, v4]] w fun e w' => (∃ v, e = .returned v ∧ w'.ownsRow w.heap.size 5 1 v (encB code l).length ((encB code l).map bv)) ∧ Below w.heap.size w w' := by
  have HN := Lib.hid hn
  have hB0 : Below w.heap.size w (w.alloc (.cells #[k, v1, .int .i64 code, .slice B n c, v4] 34)) := (Below.refl _ _).alloc (Nat.le_refl _) _
  rcases hcode with rfl | rfl
  · have hE : encB 0 l = l := rfl
    rw [hE, hn]
    have hcl := clone_any B l n c (w.alloc (.cells #[k, v1, .int .i64 0, .slice B n c, v4] 34)) hn (hB.below hB0) hnc (hpl rfl) (by omega)
    clear hn hE
    go_enter Tryz.func67, Tryz.ntmps67
    go_wp2_with fail
    refine hcl.mono ?_
    rintro e w1 ⟨⟨v, rfl, hv⟩, hb1⟩
    go_wp2_with fail
    go_ret
    exact ⟨⟨v, rfl, own_base hv hB0.size⟩, hB0.trans (hb1.mono hB0.size)⟩
  · have hE : encB 1 l = Ar.lin (Ar.enc l) := rfl
    rw [hE]
    have hcl := Ar.lines_any B l n c (w.alloc (.cells #[k, v1, .int .i64 1, .slice B n c, v4] 34)) hn (hB.below hB0) hnc (by omega)
    generalize Ar.lin (Ar.enc l) = el at *
    clear hn hE
    go_enter Tryz.func67, Tryz.ntmps67
    go_wp2_with fail
    refine hcl.mono ?_
    rintro e w1 ⟨⟨v, rfl, hv⟩, hb1⟩
    go_wp2_with fail
    go_ret
    exact ⟨⟨v, rfl, own_base hv hB0.size⟩, hB0.trans (hb1.mono hB0.size)⟩
end Go.Proofs.YtkllecicddfjpaaGreatDoor
