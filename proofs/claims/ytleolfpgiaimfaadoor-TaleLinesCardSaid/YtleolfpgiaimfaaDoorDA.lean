/- The forms: how their eight variables come to lie in memory. -/
import Derived.Test.YtleolfpgiaimfaaDoorDF
import Derived.Deep.RegionHeld3
namespace Go.Proofs.YtleolfpgiaimfaaDoor
set_option linter.unusedVariables false
set_option linter.unusedSimpArgs false
open Go.RowKit Go.Shelf

theorem rep_false (j : Nat) : ¬ (Array.replicate 50 false).getD j false = true := by
  rw [Array.getD_eq_getD_getElem?, Array.getElem?_replicate]
  split <;> simp
theorem cell_al {w : World} {a : Addr} {v : Value} (o : Obj) (h : w.cell? a = some v) : (w.alloc o).cell? a = some v := (World.cell?_alloc_some w a o (by rw [h]; rfl)).trans h
set_option maxRecDepth 100000 in
set_option maxHeartbeats 2000000 in
theorem forms_any (w : World) : Calls Tryd.prog 11 #[] w (FormsOut w) := by

  have n1 := number_any 18
  have n2 := number_any 19
  have n3 := number_any 20
  have n4 := number_any 21
  have n5 := text_any 23
  have n12 := number_any 34
  have n13 := number_any 35
  have n14 := number_any 36
  have n15 := text_any 37
  unfold fnV fnB at n1 n2 n3 n4 n5 n12 n13 n14 n15
  have hB0 := Below.refl w.heap.size w
  go_enter Tryd.func11, Tryd.ntmps11
  go_upto_region 2 with (first
    | (go_at_call 17; refine (n1 w).mono ?_; rintro e wa1 ⟨b1, rfl, _, hR1, hB1⟩)
    | (go_at_call 17; refine (n2 wa1).mono ?_; rintro e wb1 ⟨b2, rfl, _, hR2, hB2⟩; refine Hid.out ?_))
  refine Lib.hid ?_
  obtain ⟨z1, z2⟩ := two_new wb1
  have k10 := z1.cell (j := 0) rfl
  have k11 := z1.cell (j := 1) rfl
  have k20 := z2.cell (j := 0) rfl
  have k21 := z2.cell (j := 1) rfl
  have f10 := z1.frozen 0
  have f11 := z1.frozen 1
  have f20 := z2.frozen 0
  have f21 := z2.frozen 1
  unfold nil2 at k10 k11 k20 k21 f10 f11 f20 f21
  go_upto_region 2 with fail
  clear z1 z2 k10 k11 k20 k21 f10 f11 f20 f21
  obtain ⟨q1, q2⟩ : Pt ((wb1.alloc (.cells #[.func (.func 46) #[] #[.pointer (some ⟨b1, 0, none⟩)], .func (.func 47) #[] #[.pointer (some ⟨b1, 0, none⟩)]] 48)).alloc (.cells #[.func (.func 46) #[] #[.pointer (some ⟨b2, 0, none⟩)], .func (.func 47) #[] #[.pointer (some ⟨b2, 0, none⟩)]] 48)) wb1.heap.size .who ∧ Pt ((wb1.alloc (.cells #[.func (.func 46) #[] #[.pointer (some ⟨b1, 0, none⟩)], .func (.func 47) #[] #[.pointer (some ⟨b1, 0, none⟩)]] 48)).alloc (.cells #[.func (.func 46) #[] #[.pointer (some ⟨b2, 0, none⟩)], .func (.func 47) #[] #[.pointer (some ⟨b2, 0, none⟩)]] 48)) (wb1.heap.size + 1) .dst := two_pts wb1 .who .dst b1 b2 (box_of rfl (hR1.below hB2)) (box_of rfl hR2)
  have g1 : Below w.heap.size w ((wb1.alloc (.cells #[.func (.func 46) #[] #[.pointer (some ⟨b1, 0, none⟩)], .func (.func 47) #[] #[.pointer (some ⟨b1, 0, none⟩)]] 48)).alloc (.cells #[.func (.func 46) #[] #[.pointer (some ⟨b2, 0, none⟩)], .func (.func 47) #[] #[.pointer (some ⟨b2, 0, none⟩)]] 48)) := ((hB1.trans (hB2.mono hB1.size)).alloc (by have := hB1.size; have := hB2.size; omega) _).alloc (by have := hB1.size; have := hB2.size; simp; omega) _
  obtain ⟨W1, hW1⟩ : ∃ W1, ((wb1.alloc (.cells #[.func (.func 46) #[] #[.pointer (some ⟨b1, 0, none⟩)], .func (.func 47) #[] #[.pointer (some ⟨b1, 0, none⟩)]] 48)).alloc (.cells #[.func (.func 46) #[] #[.pointer (some ⟨b2, 0, none⟩)], .func (.func 47) #[] #[.pointer (some ⟨b2, 0, none⟩)]] 48)) = W1 := ⟨_, rfl⟩
  rw [hW1] at q1 q2 g1 ⊢
  obtain ⟨p1, hp1⟩ : ∃ p, wb1.heap.size = p := ⟨_, rfl⟩
  rw [hp1] at q1 q2 ⊢
  obtain ⟨p2, hp2⟩ : ∃ p, p1 + 1 = p := ⟨_, rfl⟩
  rw [hp2] at q2 ⊢
  clear hW1 hp1 hp2 hR1 hR2 hB1 hB2 n1 n2
  replace hB0 := hB0.trans (g1.mono hB0.size)
  clear g1
  go_upto_region 3 with (first
    | (go_at_call 17; refine (n3 W1).mono ?_; rintro e wa2 ⟨b3, rfl, _, hR3, hB3⟩)
    | (go_at_call 17; refine (n4 wa2).mono ?_; rintro e wb2 ⟨b4, rfl, _, hR4, hB4⟩; refine Hid.out ?_))
  refine Lib.hid ?_
  obtain ⟨z1, z2⟩ := two_new wb2
  have k10 := z1.cell (j := 0) rfl
  have k11 := z1.cell (j := 1) rfl
  have k20 := z2.cell (j := 0) rfl
  have k21 := z2.cell (j := 1) rfl
  have f10 := z1.frozen 0
  have f11 := z1.frozen 1
  have f20 := z2.frozen 0
  have f21 := z2.frozen 1
  unfold nil2 at k10 k11 k20 k21 f10 f11 f20 f21
  go_upto_region 3 with fail
  clear z1 z2 k10 k11 k20 k21 f10 f11 f20 f21
  obtain ⟨q3, q4⟩ : Pt ((wb2.alloc (.cells #[.func (.func 46) #[] #[.pointer (some ⟨b3, 0, none⟩)], .func (.func 47) #[] #[.pointer (some ⟨b3, 0, none⟩)]] 48)).alloc (.cells #[.func (.func 46) #[] #[.pointer (some ⟨b4, 0, none⟩)], .func (.func 47) #[] #[.pointer (some ⟨b4, 0, none⟩)]] 48)) wb2.heap.size .n ∧ Pt ((wb2.alloc (.cells #[.func (.func 46) #[] #[.pointer (some ⟨b3, 0, none⟩)], .func (.func 47) #[] #[.pointer (some ⟨b3, 0, none⟩)]] 48)).alloc (.cells #[.func (.func 46) #[] #[.pointer (some ⟨b4, 0, none⟩)], .func (.func 47) #[] #[.pointer (some ⟨b4, 0, none⟩)]] 48)) (wb2.heap.size + 1) .m := two_pts wb2 .n .m b3 b4 (box_of rfl (hR3.below hB4)) (box_of rfl hR4)
  have g2 : Below W1.heap.size W1 ((wb2.alloc (.cells #[.func (.func 46) #[] #[.pointer (some ⟨b3, 0, none⟩)], .func (.func 47) #[] #[.pointer (some ⟨b3, 0, none⟩)]] 48)).alloc (.cells #[.func (.func 46) #[] #[.pointer (some ⟨b4, 0, none⟩)], .func (.func 47) #[] #[.pointer (some ⟨b4, 0, none⟩)]] 48)) := ((hB3.trans (hB4.mono hB3.size)).alloc (by have := hB3.size; have := hB4.size; omega) _).alloc (by have := hB3.size; have := hB4.size; simp; omega) _
  obtain ⟨W2, hW2⟩ : ∃ W2, ((wb2.alloc (.cells #[.func (.func 46) #[] #[.pointer (some ⟨b3, 0, none⟩)], .func (.func 47) #[] #[.pointer (some ⟨b3, 0, none⟩)]] 48)).alloc (.cells #[.func (.func 46) #[] #[.pointer (some ⟨b4, 0, none⟩)], .func (.func 47) #[] #[.pointer (some ⟨b4, 0, none⟩)]] 48)) = W2 := ⟨_, rfl⟩
  rw [hW2] at q3 q4 g2 ⊢
  obtain ⟨p3, hp3⟩ : ∃ p, wb2.heap.size = p := ⟨_, rfl⟩
  rw [hp3] at q3 q4 ⊢
  obtain ⟨p4, hp4⟩ : ∃ p, p3 + 1 = p := ⟨_, rfl⟩
  rw [hp4] at q4 ⊢
  clear hW2 hp3 hp4 hR3 hR4 hB3 hB4 n3 n4
  replace q1 := q1.keep (KeepC.below g2)
  replace q2 := q2.keep (KeepC.below g2)
  replace hB0 := hB0.trans (g2.mono hB0.size)
  clear g2
  go_upto_region 4 with (go_at_call 22; refine (n5 W2).mono ?_; rintro e wa3 ⟨b5, rfl, _, hR5, hB5⟩; refine Hid.out ?_)
  refine Lib.hid ?_
  have z1 := one_new wa3
  have k10 := z1.cell (j := 0) rfl
  have k11 := z1.cell (j := 1) rfl
  have f10 := z1.frozen 0
  have f11 := z1.frozen 1
  unfold nil2 at k10 k11 f10 f11
  go_upto_region 4 with fail
  clear z1 k10 k11 f10 f11
  have q5 : Pt (wa3.alloc (.cells #[.func (.func 48) #[] #[.pointer (some ⟨b5, 0, none⟩)], .func (.func 49) #[] #[.pointer (some ⟨b5, 0, none⟩)]] 48)) wa3.heap.size .thread := one_pt wa3 .thread b5 (box_of rfl hR5)
  have g3 : Below W2.heap.size W2 (wa3.alloc (.cells #[.func (.func 48) #[] #[.pointer (some ⟨b5, 0, none⟩)], .func (.func 49) #[] #[.pointer (some ⟨b5, 0, none⟩)]] 48)) := hB5.alloc (by have := hB5.size; omega) _
  obtain ⟨W3, hW3⟩ : ∃ W3, (wa3.alloc (.cells #[.func (.func 48) #[] #[.pointer (some ⟨b5, 0, none⟩)], .func (.func 49) #[] #[.pointer (some ⟨b5, 0, none⟩)]] 48)) = W3 := ⟨_, rfl⟩
  rw [hW3] at q5 g3 ⊢
  obtain ⟨p5, hp5⟩ : ∃ p, wa3.heap.size = p := ⟨_, rfl⟩
  rw [hp5] at q5 ⊢
  clear hW3 hp5
  clear hR5 hB5 n5
  replace q1 := q1.keep (KeepC.below g3)
  replace q2 := q2.keep (KeepC.below g3)
  replace q3 := q3.keep (KeepC.below g3)
  replace q4 := q4.keep (KeepC.below g3)
  replace hB0 := hB0.trans (g3.mono hB0.size)
  clear g3
  have z1 := one_new W3
  have k10 := z1.cell (j := 0) rfl
  have k11 := z1.cell (j := 1) rfl
  have f10 := z1.frozen 0
  have f11 := z1.frozen 1
  unfold nil2 at k10 k11 f10 f11
  go_upto_region 5 with fail
  clear z1 k10 k11 f10 f11
  have q6 : Pt (W3.alloc (.cells #[.func (.func 24) #[] #[], .func (.func 26) #[] #[]] 48)) W3.heap.size .body := one_pt W3 .body 0 (box_none rfl)
  have g4 : Below W3.heap.size W3 (W3.alloc (.cells #[.func (.func 24) #[] #[], .func (.func 26) #[] #[]] 48)) := (Below.refl W3.heap.size W3).alloc (by have := (Below.refl W3.heap.size W3).size; omega) _
  obtain ⟨W4, hW4⟩ : ∃ W4, (W3.alloc (.cells #[.func (.func 24) #[] #[], .func (.func 26) #[] #[]] 48)) = W4 := ⟨_, rfl⟩
  rw [hW4] at q6 g4 ⊢
  obtain ⟨p6, hp6⟩ : ∃ p, W3.heap.size = p := ⟨_, rfl⟩
  rw [hp6] at q6 ⊢
  clear hW4 hp6
  replace q1 := q1.keep (KeepC.below g4)
  replace q2 := q2.keep (KeepC.below g4)
  replace q3 := q3.keep (KeepC.below g4)
  replace q4 := q4.keep (KeepC.below g4)
  replace q5 := q5.keep (KeepC.below g4)
  replace hB0 := hB0.trans (g4.mono hB0.size)
  clear g4
  have z1 := one_new W4
  have k10 := z1.cell (j := 0) rfl
  have k11 := z1.cell (j := 1) rfl
  have f10 := z1.frozen 0
  have f11 := z1.frozen 1
  unfold nil2 at k10 k11 f10 f11
  go_upto_region 6 with fail
  clear z1 k10 k11 f10 f11
  have q7 : Pt (W4.alloc (.cells #[.func (.func 28) #[] #[], .func (.func 29) #[] #[]] 48)) W4.heap.size .fresh := one_pt W4 .fresh 0 (box_none rfl)
  have g5 : Below W4.heap.size W4 (W4.alloc (.cells #[.func (.func 28) #[] #[], .func (.func 29) #[] #[]] 48)) := (Below.refl W4.heap.size W4).alloc (by have := (Below.refl W4.heap.size W4).size; omega) _
  obtain ⟨W5, hW5⟩ : ∃ W5, (W4.alloc (.cells #[.func (.func 28) #[] #[], .func (.func 29) #[] #[]] 48)) = W5 := ⟨_, rfl⟩
  rw [hW5] at q7 g5 ⊢
  obtain ⟨p7, hp7⟩ : ∃ p, W4.heap.size = p := ⟨_, rfl⟩
  rw [hp7] at q7 ⊢
  clear hW5 hp7
  replace q1 := q1.keep (KeepC.below g5)
  replace q2 := q2.keep (KeepC.below g5)
  replace q3 := q3.keep (KeepC.below g5)
  replace q4 := q4.keep (KeepC.below g5)
  replace q5 := q5.keep (KeepC.below g5)
  replace q6 := q6.keep (KeepC.below g5)
  replace hB0 := hB0.trans (g5.mono hB0.size)
  clear g5
  have z1 := one_new W5
  have k10 := z1.cell (j := 0) rfl
  have k11 := z1.cell (j := 1) rfl
  have f10 := z1.frozen 0
  have f11 := z1.frozen 1
  unfold nil2 at k10 k11 f10 f11
  go_upto_region 7 with fail
  clear z1 k10 k11 f10 f11
  have q8 : Pt (W5.alloc (.cells #[.func (.func 30) #[] #[], .func (.func 32) #[] #[]] 48)) W5.heap.size .turn := one_pt W5 .turn 0 (box_none rfl)
  have g6 : Below W5.heap.size W5 (W5.alloc (.cells #[.func (.func 30) #[] #[], .func (.func 32) #[] #[]] 48)) := (Below.refl W5.heap.size W5).alloc (by have := (Below.refl W5.heap.size W5).size; omega) _
  obtain ⟨W6, hW6⟩ : ∃ W6, (W5.alloc (.cells #[.func (.func 30) #[] #[], .func (.func 32) #[] #[]] 48)) = W6 := ⟨_, rfl⟩
  rw [hW6] at q8 g6 ⊢
  obtain ⟨p8, hp8⟩ : ∃ p, W5.heap.size = p := ⟨_, rfl⟩
  rw [hp8] at q8 ⊢
  clear hW6 hp8
  replace q1 := q1.keep (KeepC.below g6)
  replace q2 := q2.keep (KeepC.below g6)
  replace q3 := q3.keep (KeepC.below g6)
  replace q4 := q4.keep (KeepC.below g6)
  replace q5 := q5.keep (KeepC.below g6)
  replace q6 := q6.keep (KeepC.below g6)
  replace q7 := q7.keep (KeepC.below g6)
  replace hB0 := hB0.trans (g6.mono hB0.size)
  clear g6
  obtain ⟨b3', r3, h3⟩ := q3
  have k0 := r3.cell (j := 0) rfl
  have k1 := r3.cell (j := 1) rfl
  have lt3 := r3.lt
  have q3 : Pt W6 p3 .n := ⟨b3', r3, h3⟩
  simp only [fvs, fnB] at k0 k1
  have d0 : W6.drew.cell? ⟨p3, 0, none⟩ = _ := k0
  have d1 : W6.drew.cell? ⟨p3, 1, none⟩ = _ := k1
  have ltd : p3 < W6.drew.heap.size := lt3
  have hBd : Below W6.heap.size W6 W6.drew := (Below.refl _ W6).drew
  clear r3
  go_upto_region 7 with fail
  go_region_held3 (fun W => W.cell? ⟨p3, 0, none⟩ = some (.func (.func 46) #[] #[.pointer (some ⟨b3', 0, none⟩)]) ∧ W.cell? ⟨p3, 1, none⟩ = some (.func (.func 47) #[] #[.pointer (some ⟨b3', 0, none⟩)])) (first | exact ⟨by with_reducible assumption, by with_reducible assumption⟩ | exact ⟨cell_al _ (by with_reducible assumption), cell_al _ (by with_reducible assumption)⟩) (first
    | (go_at_call 17; refine (n12 W6.drew).mono ?_; rintro e wc1 ⟨c1, rfl, _, hC1, hD1⟩; have x10 := (hD1.cell (p := ⟨p3, 0, none⟩) ltd).trans d0; have x11 := (hD1.cell (p := ⟨p3, 1, none⟩) ltd).trans d1; have lt1 : p3 < wc1.heap.size := Nat.lt_of_lt_of_le ltd hD1.size)
    | (go_at_call 17; refine (n13 wc1).mono ?_; rintro e wc2 ⟨c2, rfl, _, hC2, hD2⟩; have x20 := (hD2.cell (p := ⟨p3, 0, none⟩) lt1).trans x10; have x21 := (hD2.cell (p := ⟨p3, 1, none⟩) lt1).trans x11; have lt2 : p3 < wc2.heap.size := Nat.lt_of_lt_of_le lt1 hD2.size)
    | (go_at_call 17; refine (n14 wc2).mono ?_; rintro e wc3 ⟨c3, rfl, _, hC3, hD3⟩; have x30 := (hD3.cell (p := ⟨p3, 0, none⟩) lt2).trans x20; have x31 := (hD3.cell (p := ⟨p3, 1, none⟩) lt2).trans x21; have lt3' : p3 < wc3.heap.size := Nat.lt_of_lt_of_le lt2 hD3.size)
    | (go_at_call 22; refine (n15 wc3).mono ?_; rintro e wc4 ⟨c4, rfl, _, hC4, hD4⟩; have x40 := (hD4.cell (p := ⟨p3, 0, none⟩) lt3').trans x30; have x41 := (hD4.cell (p := ⟨p3, 1, none⟩) lt3').trans x31))
  go_upto_region 8 with fail
  have hE1 := hBd.trans hD1
  have hE2 := hE1.trans (hD2.mono hE1.size)
  have hE3 := hE2.trans (hD3.mono hE2.size)
  have hE4 := hE3.trans (hD4.mono hE3.size)
  have hG2 := hD3.trans (hD4.mono hD3.size)
  have hG1 := hD2.trans (hG2.mono hD2.size)
  have s9 : SlcOk (wc4.alloc (.cells #[.func (.func 46) #[] #[.pointer (some ⟨b3', 0, none⟩)], .func (.func 47) #[] #[.pointer (some ⟨b3', 0, none⟩)], .func (.func 46) #[] #[.pointer (some ⟨c1, 0, none⟩)], .func (.func 47) #[] #[.pointer (some ⟨c1, 0, none⟩)], .func (.func 46) #[] #[.pointer (some ⟨c2, 0, none⟩)], .func (.func 47) #[] #[.pointer (some ⟨c2, 0, none⟩)], .func (.func 46) #[] #[.pointer (some ⟨c3, 0, none⟩)], .func (.func 47) #[] #[.pointer (some ⟨c3, 0, none⟩)], .func (.func 48) #[] #[.pointer (some ⟨c4, 0, none⟩)], .func (.func 49) #[] #[.pointer (some ⟨c4, 0, none⟩)]] 48)) (formFs 5) (.slice (some ⟨wc4.heap.size, 0, none⟩) 5 5) := slc_new wc4 [(.n, b3'), (.rk, c1), (.rn, c2), (.rm, c3), (.rt, c4)] _ rfl (by
    intro p hp
    simp only [List.mem_cons, List.not_mem_nil, or_false] at hp
    rcases hp with rfl | rfl | rfl | rfl | rfl
    · exact h3.keep (KeepC.below hE4)
    · exact box_of rfl (hC1.below hG1)
    · exact box_of rfl (hC2.below hG2)
    · exact box_of rfl (hC3.below hD4)
    · exact box_of rfl hC4)
  have hE5 : Below W6.heap.size W6 (wc4.alloc (.cells #[.func (.func 46) #[] #[.pointer (some ⟨b3', 0, none⟩)], .func (.func 47) #[] #[.pointer (some ⟨b3', 0, none⟩)], .func (.func 46) #[] #[.pointer (some ⟨c1, 0, none⟩)], .func (.func 47) #[] #[.pointer (some ⟨c1, 0, none⟩)], .func (.func 46) #[] #[.pointer (some ⟨c2, 0, none⟩)], .func (.func 47) #[] #[.pointer (some ⟨c2, 0, none⟩)], .func (.func 46) #[] #[.pointer (some ⟨c3, 0, none⟩)], .func (.func 47) #[] #[.pointer (some ⟨c3, 0, none⟩)], .func (.func 48) #[] #[.pointer (some ⟨c4, 0, none⟩)], .func (.func 49) #[] #[.pointer (some ⟨c4, 0, none⟩)]] 48)) := hE4.alloc hE4.size _
  obtain ⟨W7, hW7⟩ : ∃ W7, (wc4.alloc (.cells #[.func (.func 46) #[] #[.pointer (some ⟨b3', 0, none⟩)], .func (.func 47) #[] #[.pointer (some ⟨b3', 0, none⟩)], .func (.func 46) #[] #[.pointer (some ⟨c1, 0, none⟩)], .func (.func 47) #[] #[.pointer (some ⟨c1, 0, none⟩)], .func (.func 46) #[] #[.pointer (some ⟨c2, 0, none⟩)], .func (.func 47) #[] #[.pointer (some ⟨c2, 0, none⟩)], .func (.func 46) #[] #[.pointer (some ⟨c3, 0, none⟩)], .func (.func 47) #[] #[.pointer (some ⟨c3, 0, none⟩)], .func (.func 48) #[] #[.pointer (some ⟨c4, 0, none⟩)], .func (.func 49) #[] #[.pointer (some ⟨c4, 0, none⟩)]] 48)) = W7 := ⟨_, rfl⟩
  rw [hW7] at s9 hE5 ⊢
  have hk7 : KeepC W6 W7.drew := KeepC.below hE5.drew
  have hk8 : KeepC W7 W7.drew := fun _ _ _ _ h => h
  have hB7 := hB0.trans (hE5.drew.mono hB0.size)
  clear hW7 hE1 hE2 hE3 hE4 hE5 hG1 hG2 hC1 hC2 hC3 hC4 hD1 hD2 hD3 hD4 d0 d1 k0 k1 lt3 ltd n12 n13 n14 n15
  refine region8 (W0 := w) ⟨by simp, rfl, rfl, fun s x hs => ?_, s9.keep hk8, hB7, fun _ j d _ hl => ?_, 0, #[], 0, fun j d q _ hl _ => ?_, fun hl => ?_⟩ ?_
  · simp only [srcs, List.mem_cons, Prod.mk.injEq, List.not_mem_nil, or_false] at hs
    rcases hs with ⟨rfl, rfl⟩ | ⟨rfl, rfl⟩ | ⟨rfl, rfl⟩ | ⟨rfl, rfl⟩ | ⟨rfl, rfl⟩ | ⟨rfl, rfl⟩ | ⟨rfl, rfl⟩ | ⟨rfl, rfl⟩
    · exact ⟨p1, rfl, q1.keep hk7⟩
    · exact ⟨p2, rfl, q2.keep hk7⟩
    · exact ⟨p3, rfl, q3.keep hk7⟩
    · exact ⟨p4, rfl, q4.keep hk7⟩
    · exact ⟨p5, rfl, q5.keep hk7⟩
    · exact ⟨p6, rfl, q6.keep hk7⟩
    · exact ⟨p7, rfl, q7.keep hk7⟩
    · exact ⟨p8, rfl, q8.keep hk7⟩
  · exact absurd hl (rep_false j)
  · exact absurd hl (rep_false j)
  · exact absurd hl (rep_false 0)
  · rintro a wz ⟨B, es, clock, hs0, hdf, hB, hF, hbl⟩
    go_wp2_with fail
    refine bodyPost_ret (v := .map (some B)) ?_ hdf ⟨B, es, clock, rfl, hB, hF, hbl⟩
    rw [results_tmp rfl, hs0]
end Go.Proofs.YtleolfpgiaimfaaDoor
