/- The statement PackBeside: the walk of the law. -/
import Derived.Test.YtkllecicddfjpaaGreatDoorJ49
import Derived.Test.YtkllecicddfjpaaGreatDoorJ25
import Derived.Deep.RegionHeld3
import Derived.Deep.RegionHeldLaw
import Derived.BigQuiet
namespace Go.Proofs.YtkllecicddfjpaaGreatDoor
set_option linter.unusedVariables false
set_option linter.unusedSimpArgs false
open Go.RowKit

theorem greatE_no {x : En} (h : greatE x = false) : x.fr.length ≤ 300 ∧ x.too.length ≤ 300 ∧ x.id.length ≤ 300 ∧ x.th.length ≤ 300 ∧ x.cip.length ≤ 3000 ∧ x.bun.length ≤ 4000 := by
  unfold greatE at h
  simp only [Bool.or_eq_false_iff, decide_eq_false_iff_not] at h
  omega
theorem besP_len {x : En} (h : x.fr.length ≤ 300 ∧ x.too.length ≤ 300 ∧ x.id.length ≤ 300 ∧ x.th.length ≤ 300) : (besP x).length ≤ 2000 := by
  unfold besP
  simp only [List.length_append, List.length_cons, List.length_nil]
  omega
theorem rid2_any (l : List UInt8) (w : World) (hl : l.length ≤ 1000000) :
    Calls Tryz.prog 10 #[.string (bs l)] w fun e w' => e = .returned (.bool (Pk.idOk l)) ∧ Below w.heap.size w w' :=
  (rid_any l w hl).mono fun e w' h => ⟨h.1, by rw [← h.2]; exact Below.refl _ _⟩

set_option maxRecDepth 100000 in
set_option maxHeartbeats 8000000 in
theorem packBeside_any (x y : En) (A : Option Addr) (ca : Nat) (B : Option Addr) (cb : Nat) (A' : Option Addr) (ca' : Nat) (B' : Option Addr) (cb' : Nat) (w : World) (hG : Gm w) :
    Calls Tryz.prog 3 #[env x A ca B cb, env y A' ca' B' cb'] w fun e w' => e = .returned (.bool true) ∧ Below w.heap.size w w' := by
  have hg1 := fun W => great13_any x A ca B cb W
  have hg2 := fun W => great13_any y A' ca' B' cb' W
  have hno1 := greatE_no (x := x)
  have hno2 := greatE_no (x := y)
  have hone := bes_one (x := x) (y := y)
  have hbl1 := besP_len (x := x)
  have hb1' := fun W h => beside_any x A ca B cb W h
  have hb2' := fun W h => beside_any y A' ca' B' cb' W h
  have hex : enB x = (adB x.fr && adB x.too && Pk.idOk x.id && Pk.idOk x.th) := rfl
  have hey : enB y = (adB y.fr && adB y.too && Pk.idOk y.id && Pk.idOk y.th) := rfl
  have hL1 : ∀ s ∈ L4 x, s = x.fr ∨ s = x.too ∨ s = x.id ∨ s = x.th := by intro s hs; simpa [L4] using hs
  have hL2 : ∀ s ∈ L4 y, s = y.fr ∨ s = y.too ∨ s = y.id ∨ s = y.th := by intro s hs; simpa [L4] using hs
  generalize greatE x = g1 at *
  generalize greatE y = g2 at *
  generalize enB x = E1 at *
  generalize enB y = E2 at *
  generalize besP x = b1 at *
  generalize besP y = b2 at *
  generalize L4 x = l1 at *
  generalize L4 y = l2 at *
  obtain ⟨fr, too, id, th, pl, bun, cip⟩ := x
  obtain ⟨fr', too', id', th', pl', bun', cip'⟩ := y
  unfold env at *
  simp only at *
  generalize bun.length = nb at *
  generalize cip.length = nc at *
  generalize bun'.length = nb' at *
  generalize cip'.length = nc' at *
  have HONE := Lib.hid hone
  have HEX := Lib.hid hex
  have HEY := Lib.hid hey
  clear hone hex hey
  have hB00 : Below w.heap.size w (w.alloc (.cells #[.string (bs fr), .string (bs too), .string (bs id), .string (bs th), .bool pl, .slice A nb ca, .slice B nc cb] 24)) := (Below.refl _ _).alloc (Nat.le_refl _) _
  have hBa : Below w.heap.size w ((w.alloc (.cells #[.string (bs fr), .string (bs too), .string (bs id), .string (bs th), .bool pl, .slice A nb ca, .slice B nc cb] 24)).alloc (.cells #[.string (bs fr'), .string (bs too'), .string (bs id'), .string (bs th'), .bool pl', .slice A' nb' ca', .slice B' nc' cb'] 24)) := hB00.alloc hB00.size _
  have rXa := (Row.new w #[.string (bs fr), .string (bs too), .string (bs id), .string (bs th), .bool pl, .slice A nb ca, .slice B nc cb] 24).below ((Below.refl _ (w.alloc (.cells #[.string (bs fr), .string (bs too), .string (bs id), .string (bs th), .bool pl, .slice A nb ca, .slice B nc cb] 24))).alloc (Nat.le_refl _) (.cells #[.string (bs fr'), .string (bs too'), .string (bs id'), .string (bs th'), .bool pl', .slice A' nb' ca', .slice B' nc' cb'] 24))
  have rYa := Row.new (w.alloc (.cells #[.string (bs fr), .string (bs too), .string (bs id), .string (bs th), .bool pl, .slice A nb ca, .slice B nc cb] 24)) #[.string (bs fr'), .string (bs too'), .string (bs id'), .string (bs th'), .bool pl', .slice A' nb' ca', .slice B' nc' cb'] 24
  rw [World.size_alloc] at rYa
  go_enter Tryz.func3, Tryz.ntmps3
  go_wp2_with fail
  generalize ((w.alloc (.cells #[.string (bs fr), .string (bs too), .string (bs id), .string (bs th), .bool pl, .slice A nb ca, .slice B nc cb] 24)).alloc (.cells #[.string (bs fr'), .string (bs too'), .string (bs id'), .string (bs th'), .bool pl', .slice A' nb' ca', .slice B' nc' cb'] 24)) = Wa at *
  refine (speaks13_any Wa (hG.below hBa)).mono ?_
  rintro e w0 ⟨rfl, hb0⟩
  have hB0 := hBa.trans (hb0.mono hBa.size)
  have rX0 := rXa.below hb0
  have rY0 := rYa.below hb0
  clear rXa rYa hb0 hBa hB00
  have c0 := rX0.cell (j := 0) rfl
  have c1 := rX0.cell (j := 1) rfl
  have c2 := rX0.cell (j := 2) rfl
  have c3 := rX0.cell (j := 3) rfl
  have c4 := rX0.cell (j := 4) rfl
  have c5 := rX0.cell (j := 5) rfl
  have c6 := rX0.cell (j := 6) rfl
  go_wp2_with fail
  refine (hg1 w0).mono ?_
  rintro e w1 ⟨rfl, hb1⟩
  have hB1 := hB0.trans (hb1.mono hB0.size)
  have rX1 := rX0.below hb1
  have rY1 := rY0.below hb1
  clear rX0 rY0 hb1 c0 c1 c2 c3 c4 c5 c6
  have c0 := rY1.cell (j := 0) rfl
  have c1 := rY1.cell (j := 1) rfl
  have c2 := rY1.cell (j := 2) rfl
  have c3 := rY1.cell (j := 3) rfl
  have c4 := rY1.cell (j := 4) rfl
  have c5 := rY1.cell (j := 5) rfl
  have c6 := rY1.cell (j := 6) rfl
  cases g1 with
  | true =>
    go_wp2_with fail
    go_ret
    exact ⟨rfl, hB1⟩
  | false =>
    obtain ⟨p11, p12, p13, p14, _, _⟩ := hno1 rfl
    go_wp2_with fail
    refine (hg2 w1).mono ?_
    rintro e w2 ⟨rfl, hb2⟩
    have hB2 := hB1.trans (hb2.mono hB1.size)
    have rX2 := rX1.below hb2
    have rY2 := rY1.below hb2
    clear rX1 rY1 hb2 c0 c1 c2 c3 c4 c5 c6
    have cj := rX2.cell (j := 0) rfl
    cases g2 with
    | true =>
      go_wp2_with fail
      go_ret
      exact ⟨rfl, hB2⟩
    | false =>
      obtain ⟨p21, p22, p23, p24, _, _⟩ := hno2 rfl
      go_wp2_with fail
      refine (raddress_any fr w2 (by omega)).mono ?_
      rintro e w3 ⟨rfl, hb3⟩
      have hB3 := hB2.trans (hb3.mono hB2.size)
      have rX3 := rX2.below hb3
      have rY3 := rY2.below hb3
      clear rX2 rY2 hb3 cj
      have cj := rX3.cell (j := 1) rfl
      cases hq3 : adB fr with
      | false =>
        go_wp2_with fail
        go_ret
        exact ⟨rfl, hB3⟩
      | true =>
        go_wp2_with fail
        refine (raddress_any too w3 (by omega)).mono ?_
        rintro e w4 ⟨rfl, hb4⟩
        have hB4 := hB3.trans (hb4.mono hB3.size)
        have rX4 := rX3.below hb4
        have rY4 := rY3.below hb4
        clear rX3 rY3 hb4 cj
        have cj := rX4.cell (j := 2) rfl
        cases hq4 : adB too with
        | false =>
          go_wp2_with fail
          go_ret
          exact ⟨rfl, hB4⟩
        | true =>
          go_wp2_with fail
          refine (rid2_any id w4 (by omega)).mono ?_
          rintro e w5 ⟨rfl, hb5⟩
          have hB5 := hB4.trans (hb5.mono hB4.size)
          have rX5 := rX4.below hb5
          have rY5 := rY4.below hb5
          clear rX4 rY4 hb5 cj
          have cj := rX5.cell (j := 3) rfl
          cases hq5 : Pk.idOk id with
          | false =>
            go_wp2_with fail
            go_ret
            exact ⟨rfl, hB5⟩
          | true =>
            go_wp2_with fail
            refine (rid2_any th w5 (by omega)).mono ?_
            rintro e w6 ⟨rfl, hb6⟩
            have hB6 := hB5.trans (hb6.mono hB5.size)
            have rX6 := rX5.below hb6
            have rY6 := rY5.below hb6
            clear rX5 rY5 hb6 cj
            have cj := rY6.cell (j := 0) rfl
            cases hq6 : Pk.idOk th with
            | false =>
              go_wp2_with fail
              go_ret
              exact ⟨rfl, hB6⟩
            | true =>
              go_wp2_with fail
              refine (raddress_any fr' w6 (by omega)).mono ?_
              rintro e w7 ⟨rfl, hb7⟩
              have hB7 := hB6.trans (hb7.mono hB6.size)
              have rX7 := rX6.below hb7
              have rY7 := rY6.below hb7
              clear rX6 rY6 hb7 cj
              have cj := rY7.cell (j := 1) rfl
              cases hq7 : adB fr' with
              | false =>
                go_wp2_with fail
                go_ret
                exact ⟨rfl, hB7⟩
              | true =>
                go_wp2_with fail
                refine (raddress_any too' w7 (by omega)).mono ?_
                rintro e w8 ⟨rfl, hb8⟩
                have hB8 := hB7.trans (hb8.mono hB7.size)
                have rX8 := rX7.below hb8
                have rY8 := rY7.below hb8
                clear rX7 rY7 hb8 cj
                have cj := rY8.cell (j := 2) rfl
                cases hq8 : adB too' with
                | false =>
                  go_wp2_with fail
                  go_ret
                  exact ⟨rfl, hB8⟩
                | true =>
                  go_wp2_with fail
                  refine (rid2_any id' w8 (by omega)).mono ?_
                  rintro e w9 ⟨rfl, hb9⟩
                  have hB9 := hB8.trans (hb9.mono hB8.size)
                  have rX9 := rX8.below hb9
                  have rY9 := rY8.below hb9
                  clear rX8 rY8 hb9 cj
                  have cj := rY9.cell (j := 3) rfl
                  cases hq9 : Pk.idOk id' with
                  | false =>
                    go_wp2_with fail
                    go_ret
                    exact ⟨rfl, hB9⟩
                  | true =>
                    go_wp2_with fail
                    refine (rid2_any th' w9 (by omega)).mono ?_
                    rintro e w10 ⟨rfl, hb10⟩
                    have hB10 := hB9.trans (hb10.mono hB9.size)
                    have rX10 := rX9.below hb10
                    have rY10 := rY9.below hb10
                    clear rX9 rY9 hb10 cj
                    cases hq10 : Pk.idOk th' with
                    | false =>
                      go_wp2_with fail
                      go_ret
                      exact ⟨rfl, hB10⟩
                    | true =>
                      have h1 : E1 = true := by rw [HEX.out, hq3, hq4, hq5, hq6]; rfl
                      have h2 : E2 = true := by rw [HEY.out, hq7, hq8, hq9, hq10]; rfl
                      have HO := Lib.hid (HONE.out h1 h2)
                      have hbl := hbl1 ⟨p11, p12, p13, p14⟩
                      have hbe1 : ∀ W, Below w10.heap.size w10 W → Calls Tryz.prog 12 #[.agg #[.string (bs fr), .string (bs too), .string (bs id), .string (bs th), .bool pl, .slice A nb ca, .slice B nc cb]] W fun e w' => (∃ Ax c, e = .returned (.slice Ax b1.length c) ∧ Rb w' Ax b1) ∧ Below w10.heap.size w10 w' ∧ Below W.heap.size W w' := fun W hW =>
                        (hb1' W (fun s hs => by rcases hL1 s hs with rfl | rfl | rfl | rfl <;> assumption)).mono fun e w' ⟨⟨v, he, ho⟩, hb⟩ => by
                          obtain ⟨Ax, c, rfl, _, _, hr, _⟩ := own_slice ho
                          exact ⟨⟨Ax, c, he, hr⟩, hW.trans (hb.mono hW.size), hb⟩
                      have hbe2 : ∀ W, Below w10.heap.size w10 W → Calls Tryz.prog 12 #[.agg #[.string (bs fr'), .string (bs too'), .string (bs id'), .string (bs th'), .bool pl', .slice A' nb' ca', .slice B' nc' cb']] W fun e w' => (∃ Ax c, e = .returned (.slice Ax b2.length c) ∧ Rb w' Ax b2) ∧ Below w10.heap.size w10 w' ∧ Below W.heap.size W w' := fun W hW =>
                        (hb2' W (fun s hs => by rcases hL2 s hs with rfl | rfl | rfl | rfl <;> assumption)).mono fun e w' ⟨⟨v, he, ho⟩, hb⟩ => by
                          obtain ⟨Ax, c, rfl, _, _, hr, _⟩ := own_slice ho
                          exact ⟨⟨Ax, c, he, hr⟩, hW.trans (hb.mono hW.size), hb⟩
                      have HS : ∀ W, Below w10.heap.size w10 W → Below w10.heap.size w10 W ∧ W.cell? ⟨w.heap.size, 0, none⟩ = some (.string (bs fr)) ∧ W.cell? ⟨w.heap.size, 1, none⟩ = some (.string (bs too)) ∧ W.cell? ⟨w.heap.size, 2, none⟩ = some (.string (bs id)) ∧ W.cell? ⟨w.heap.size, 3, none⟩ = some (.string (bs th)) ∧ W.cell? ⟨w.heap.size, 4, none⟩ = some (.bool pl) ∧ W.cell? ⟨w.heap.size, 5, none⟩ = some (.slice A nb ca) ∧ W.cell? ⟨w.heap.size, 6, none⟩ = some (.slice B nc cb) ∧ W.cell? ⟨w.heap.size + 1, 0, none⟩ = some (.string (bs fr')) ∧ W.cell? ⟨w.heap.size + 1, 1, none⟩ = some (.string (bs too')) ∧ W.cell? ⟨w.heap.size + 1, 2, none⟩ = some (.string (bs id')) ∧ W.cell? ⟨w.heap.size + 1, 3, none⟩ = some (.string (bs th')) ∧ W.cell? ⟨w.heap.size + 1, 4, none⟩ = some (.bool pl') ∧ W.cell? ⟨w.heap.size + 1, 5, none⟩ = some (.slice A' nb' ca') ∧ W.cell? ⟨w.heap.size + 1, 6, none⟩ = some (.slice B' nc' cb') := fun W h => by
                        have rx := rX10.below h
                        have ry := rY10.below h
                        exact ⟨h, rx.cell rfl, rx.cell rfl, rx.cell rfl, rx.cell rfl, rx.cell rfl, rx.cell rfl, rx.cell rfl, ry.cell rfl, ry.cell rfl, ry.cell rfl, ry.cell rfl, ry.cell rfl, ry.cell rfl, ry.cell rfl⟩
                      obtain ⟨z, hz⟩ : ∃ z, (fr == fr' && too == too' && id == id' && th == th') = z := ⟨_, rfl⟩
                      have hz' := hz
                      rw [hz] at HO
                      clear HONE HEX HEY h1 h2 hg1 hg2 hno1 hno2 hb1' hb2' hL1 hL2 hbl1 hq3 hq4 hq5 hq6 hq7 hq8 hq9 hq10
                      obtain ⟨_, c0, c1, c2, c3, c4, c5, c6, d0, d1, d2, d3, d4, d5, d6⟩ := HS w10 (Below.refl _ _)
                      go_upto_region 5 with fail
                      go_cut [5] (fun s5 wx => s5 = .bool z ∧ wx = w10)
                      case first =>
                        clear hbe1 hbe2 HS c4 c5 c6 d4 d5 d6 HO
                        obtain ⟨z1, hz1⟩ : ∃ z, (fr == fr') = z := ⟨_, rfl⟩
                        obtain ⟨z2, hz2⟩ : ∃ z, (too == too') = z := ⟨_, rfl⟩
                        obtain ⟨z3, hz3⟩ : ∃ z, (id == id') = z := ⟨_, rfl⟩
                        obtain ⟨z4, hz4⟩ : ∃ z, (th == th') = z := ⟨_, rfl⟩
                        rw [hz1, hz2, hz3, hz4] at hz
                        clear hz'
                        have HZ := Lib.hid hz
                        clear hz
                        cases z1 with
                        | false =>
                          go_wp2_with fail
                          go_meet
                          exact ⟨by rw [← HZ.out]; rfl, rfl⟩
                        | true =>
                          cases z2 with
                          | false =>
                            go_wp2_with fail
                            go_meet
                            exact ⟨by rw [← HZ.out]; rfl, rfl⟩
                          | true =>
                            cases z3 with
                            | false =>
                              go_wp2_with fail
                              go_meet
                              exact ⟨by rw [← HZ.out]; rfl, rfl⟩
                            | true =>
                              go_wp2_with fail
                              go_meet
                              exact ⟨by rw [← HZ.out]; cases z4 <;> rfl, rfl⟩
                      case rest =>
                        obtain ⟨rfl, rfl⟩ := hcut
                        have hdec : decide (b1 = b2) = z := by rw [← HO.out, Bool.eq_iff_iff]; simp
                        have hsame : ∀ (W : World) (A1 A2 : Option Addr) (k1 k2 : Nat), Rb W A1 b1 → Rb W A2 b2 → Calls Tryz.prog 11 #[.slice A1 b1.length k1, .slice A2 b2.length k2] W fun e w' => e = .returned (.bool z) ∧ Below W.heap.size W w' := fun W A1 A2 k1 k2 r1 r2 =>
                          (same_any A1 A2 b1 b2 b1.length b2.length k1 k2 W rfl rfl r1 r2 (by omega)).mono fun e w' h => ⟨by rw [← hdec]; exact h.1, Dn.below h.2 _⟩
                        generalize b1.length = m1 at *
                        generalize b2.length = m2 at *
                        have HSM := Lib.hid hsame
                        clear hdec HO hz hz' hsame hbl
                        go_wp2_with fail
                        go_region_held3 (fun W => Below wc.heap.size wc W ∧ W.cell? ⟨w.heap.size, 0, none⟩ = some (.string (bs fr)) ∧ W.cell? ⟨w.heap.size, 1, none⟩ = some (.string (bs too)) ∧ W.cell? ⟨w.heap.size, 2, none⟩ = some (.string (bs id)) ∧ W.cell? ⟨w.heap.size, 3, none⟩ = some (.string (bs th)) ∧ W.cell? ⟨w.heap.size, 4, none⟩ = some (.bool pl) ∧ W.cell? ⟨w.heap.size, 5, none⟩ = some (.slice A nb ca) ∧ W.cell? ⟨w.heap.size, 6, none⟩ = some (.slice B nc cb) ∧ W.cell? ⟨w.heap.size + 1, 0, none⟩ = some (.string (bs fr')) ∧ W.cell? ⟨w.heap.size + 1, 1, none⟩ = some (.string (bs too')) ∧ W.cell? ⟨w.heap.size + 1, 2, none⟩ = some (.string (bs id')) ∧ W.cell? ⟨w.heap.size + 1, 3, none⟩ = some (.string (bs th')) ∧ W.cell? ⟨w.heap.size + 1, 4, none⟩ = some (.bool pl') ∧ W.cell? ⟨w.heap.size + 1, 5, none⟩ = some (.slice A' nb' ca') ∧ W.cell? ⟨w.heap.size + 1, 6, none⟩ = some (.slice B' nc' cb')) (exact HS _ (by repeat (first | with_reducible assumption | apply Below.drew | exact Below.refl _ _)))
                          (first
                          | (go_at_call 12; (with_reducible refine (hbe1 _ (And.left (by assumption))).mono ?_); rintro e x1 ⟨⟨A1, k1, rfl, hR1⟩, hx1, hbx1⟩; obtain ⟨_, e0, e1, e2, e3, e4, e5, e6, g0, g1, g2, g3, g4, g5, g6⟩ := HS x1 hx1)
                          | (go_at_call 12; (with_reducible refine (hbe2 _ (And.left (by assumption))).mono ?_); rintro e x2 ⟨⟨A2, k2, rfl, hR2⟩, hx2, hbx2⟩; obtain ⟨_, q0, q1, q2, q3, q4, q5, q6, u0, u1, u2, u3, u4, u5, u6⟩ := HS x2 hx2)
                          | (go_at_call 11; refine (HSM.out _ _ _ _ _ (by first | exact hR1 | exact hR1.below hbx2) (by first | exact hR2 | exact hR2.below hbx1)).mono ?_; rintro e x3 ⟨rfl, hx3⟩; have hc3 : Below wc.heap.size wc x3 := (by first | exact hx2.trans (hx3.mono hx2.size) | exact hx1.trans (hx3.mono hx1.size))))
                        all_goals
                          have hzz : (z == z) = true := by simp
                          go_wp2_with fail
                          go_ret
                          exact ⟨rfl, hB10.trans (hc3.mono hB10.size)⟩
end Go.Proofs.YtkllecicddfjpaaGreatDoor
