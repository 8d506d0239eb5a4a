/- Apply at a kind that changes a mail's fields or body. -/
import Derived.Test.YtcagkoakbdbbaaaGreatDoorJ42
namespace Go.Proofs.YtcagkoakbdbbaaaGreatDoor
set_option linter.unusedVariables false
set_option linter.unusedSimpArgs false
open Go.RowKit

def okF (fs : List (List UInt8)) : Bool := !fs.isEmpty && !blank1 (fs.headD [])
/-- what comes of bytes: where they are a mail with fields, what R tells of these and the body -/
def AppR (R : List (List UInt8) → List UInt8 → List (List UInt8) → List UInt8 → Prop) (b r : List UInt8) : Prop := match readG [] (fl b) with
  | none => r = b
  | some (fs, en, bd) => if okF fs then ∃ fs' bd', R fs bd fs' bd' ∧ r = fs'.flatten ++ en ++ bd' else r = b
def ChgOut (R : List (List UInt8) → List UInt8 → List (List UInt8) → List UInt8 → Prop) (fs : List (List UInt8)) (bd : List UInt8) (A0 A1 : Option Addr) (c0 n1 c1 B : Nat) (e : Ending) (w' : World) : Prop :=
  ∃ n' A' k' c' fs' bd', R fs bd fs' bd' ∧ e = .returned (.agg #[.slice A0 n' c0, .slice A1 n1 c1, .slice A' k' c']) ∧ FR w' B (.slice A0 n' c0) fs' ∧ Rb w' A' bd' ∧ bd'.length = k' ∧ fs'.flatten.length ≤ 1000000 ∧ k' ≤ 1000000 ∧ n' ≤ 1000000

set_option maxRecDepth 100000 in
set_option maxHeartbeats 1000000 in
theorem apply_gen (R : List (List UInt8) → List UInt8 → List (List UInt8) → List UInt8 → Prop) (A : Option Addr) (b : List UInt8) (n c : Nat) (z N M : Int) (T : ByteArray) (w : World) (hn : b.length = n) (hA : Rb w A b) (hpl : Pl A c) (hnc : n ≤ c) (hb : n ≤ 1000000)
    (z1 : z ≠ 1) (z2 : z ≠ 2) (z6 : z ≠ 6)
    (hch : ∀ (A0 A1 A2 : Option Addr) (fs : List (List UInt8)) (en bd : List UInt8) (B n0 c0 c1 c2 n1 n2 : Nat) (W : World), Below w.heap.size w W → readG [] (fl b) = some (fs, en, bd) → FR W B (.slice A0 n0 c0) fs → B ≤ W.heap.size → 0 < n0 → n0 ≤ 1000000 → fs.length = n0 → (∀ W', Below B W W' → Rb W' A2 bd) → bd.length = n2 → n2 ≤ c2 →
      Calls Tryz.prog 21 #[.agg #[.slice A0 n0 c0, .slice A1 n1 c1, .slice A2 n2 c2], .agg #[.int .i64 z, .int .i64 N, .int .i64 M, .string T]] W fun e w' => ChgOut R fs bd A0 A1 c0 n1 c1 B e w' ∧ Below B W w') :
    Calls Tryz.prog 7 #[.slice A n c, .agg #[.int .i64 z, .int .i64 N, .int .i64 M, .string T]] w fun e w' => (∃ r, AppR R b r ∧ BOut r e w') ∧ Below w.heap.size w w' := by
  have hB0 : Below w.heap.size w (w.alloc (.cells #[.int .i64 z, .int .i64 N, .int .i64 M, .string T] 26)) := (Below.refl _ _).alloc (Nat.le_refl _) _
  have r0 := Row.new w #[.int .i64 z, .int .i64 N, .int .i64 M, .string T] 26
  have hrd := read_any A b n c (w.alloc (.cells #[.int .i64 z, .int .i64 N, .int .i64 M, .string T] 26)) hn (hA.below hB0) hnc hb
  have HN := Lib.hid hn
  have q1 : (z == 1) = false := by rw [beq_eq_false_iff_ne]; exact z1
  have q2 : (z == 2) = false := by rw [beq_eq_false_iff_ne]; exact z2
  have q6 : (z == 6) = false := by rw [beq_eq_false_iff_ne]; exact z6
  have q6b : (z != 6) = true := by rw [bne, q6]; rfl
  have HCH := Lib.hid hch
  clear hn hch
  go_enter Tryz.func7, Tryz.ntmps7
  go_wp2_with fail
  refine hrd.mono ?_
  rintro e w1 ⟨hro, hb1⟩
  obtain ⟨A0, n0, c0, A1, n1, c1, A2, n2, c2, wh, ok, rfl⟩ := hro.form
  have HRO := Lib.hid hro
  have hB1 := hB0.trans (hb1.mono hB0.size)
  have r1 := r0.below hb1
  have r3 := r1.alloc (.cells #[.slice A0 n0 c0, .slice A1 n1 c1, .slice A2 n2 c2] 49)
  have t3 := Row.new w1 #[.slice A0 n0 c0, .slice A1 n1 c1, .slice A2 n2 c2] 49
  have hm3 := mark_below w1 #[.slice A0 n0 c0, .slice A1 n1 c1, .slice A2 n2 c2] 49 (0, 0)
  have hB3 := hB1.trans (hm3.mono hB1.size)
  clear hro hrd
  go_upto_region 2 with fail
  obtain ⟨w3, hw3⟩ : ∃ w3, w1.alloc (.cells #[.slice A0 n0 c0, .slice A1 n1 c1, .slice A2 n2 c2] 49) = w3 := ⟨_, rfl⟩
  rw [hw3] at r3 t3 hB3 hm3 ⊢
  clear hw3 r1 r0
  have x0 := r3.cell (j := 0) rfl
  have x1 := r3.cell (j := 1) rfl
  have x2 := r3.cell (j := 2) rfl
  have x3 := r3.cell (j := 3) rfl
  have m0 := t3.cell (j := 0) rfl
  have m1 := t3.cell (j := 1) rfl
  have m2 := t3.cell (j := 2) rfl
  cases ok with
  | false =>
    have HR : Hid (AppR R b b) := Lib.hid (by
      have hro := HRO.out
      unfold ReadOut at hro
      unfold AppR
      cases hr : readG [] (fl b) with
      | none => rfl
      | some p =>
        obtain ⟨fs, en, bd⟩ := p
        rw [hr] at hro
        obtain ⟨fv, Ae, ce, Ab, cb, he, _⟩ := hro
        injection he with he
        injection he with he
        simp only [Array.mk.injEq, List.cons.injEq, Value.bool.injEq] at he
        show if okF fs = true then _ else b = b
        rw [if_neg (by unfold okF; rw [← he.2.2.1]; simp)])
    have hcl := clone_any A b n c w3 HN.out (hA.below hB3) hnc hpl (by omega)
    go_wp2_with fail
    refine hcl.mono ?_
    rintro e w4 ⟨⟨v, rfl, hov⟩, hb4⟩
    obtain ⟨A5, c5, e5, g1, g2, g3, g4⟩ := BOut.own hov
    cases e5
    go_wp2_with fail
    go_ret
    exact ⟨⟨b, HR.out, A5, c5, rfl, g1, g2, g3, g4⟩, hB3.trans (hb4.mono hB3.size)⟩
  | true =>
    have hro := HRO.out
    unfold ReadOut at hro
    cases hr : readG [] (fl b) with
    | none => rw [hr] at hro; cases hro
    | some p =>
      obtain ⟨fs, en, bd⟩ := p
      rw [hr] at hro
      obtain ⟨fv, Ae, ce, Ab, cb, he, hF, hE, hce, hD, hcb⟩ := hro
      have hrb := read_bytes hr
      obtain ⟨Af, nf, cf, hfv, hfn⟩ : ∃ Af nf cf, fv = .slice Af nf cf ∧ fs.length = nf := by
        obtain ⟨vs, ho, _⟩ := hF
        obtain ⟨Af, cf, hv, _⟩ := own_form ho
        exact ⟨Af, _, cf, hv, rfl⟩
      subst hfv
      injection he with he
      injection he with he
      simp only [Array.mk.injEq, List.cons.injEq, Value.agg.injEq, Value.slice.injEq, Value.bool.injEq, and_true, true_and] at he
      obtain ⟨⟨⟨rfl, rfl, rfl⟩, ⟨rfl, e11, rfl⟩, ⟨rfl, e21, rfl⟩⟩, rfl, hok⟩ := he
      have hfl : fs.flatten.length ≤ 1000000 ∧ en.length ≤ 1000000 ∧ bd.length ≤ 1000000 := by
        have h := congrArg List.length hrb
        rw [List.length_append, List.length_append, HN.out] at h
        omega
      have hnf0 : 0 < n0 := by
        rw [← hfn]
        cases fs with
        | nil => simp at hok
        | cons a r => simp
      have hnf1 : n0 ≤ 1000000 := by
        have h1 := flat_ge (read_ne hr).1
        omega
      have F3 := hF.below hm3
      have hs0 : (w.alloc (.cells #[.int .i64 z, .int .i64 N, .int .i64 M, .string T] 26)).heap.size + 1 ≤ w3.heap.size := by
        have h1 := hB3.size
        have h2 := r3.lt
        have h3 := hm3.size
        have h4 := t3.lt
        rw [World.size_alloc]
        have h5 : w.heap.size < w1.heap.size := by
          have := hb1.size
          rw [World.size_alloc] at this
          omega
        omega
      have hB3' : Below (w.alloc (.cells #[.int .i64 z, .int .i64 N, .int .i64 M, .string T] 26)).heap.size (w.alloc (.cells #[.int .i64 z, .int .i64 N, .int .i64 M, .string T] 26)) w3 := hb1.trans (hm3.mono hb1.size)
      have hch := HCH.out A0 A1 A2 fs en bd _ n0 c0 c1 c2 n1 n2 w3 hB3 hr F3 (by omega) hnf0 hnf1 hfn (fun W' hW => hD W' (hB3'.trans (hW.mono (by omega)))) e21.symm (by rw [e21]; exact hcb)
      have HOK : Hid (okF fs = true) := Lib.hid hok.symm
      have HR := Lib.hid hr
      have HFL := Lib.hid hfl
      have HE1 := Lib.hid e11
      have HE2 := Lib.hid e21
      clear hok hr hrb hfl e11 e21 hfn HRO
      go_wp2_with fail
      refine hch.mono ?_
      rintro e w4 ⟨⟨n', A', k', c', fs', bd', hR', rfl, F4, hR4, hk4, hfl4, hk6, hn6⟩, hb4⟩
      have hs4 := hb4.size
      have hB4 := hB3.trans (hb4.mono (by rw [World.size_alloc]; omega))
      have hB4' := hB3'.trans (hb4.mono (by omega))
      have hbt := bytes_any A0 A1 A' fs' en bd' _ n' c0 c1 c' n1 k' w4 F4 (hE w4 hB4') hR4 HE1.out.symm hk4 (by omega) hn6 hfl4 (by rw [HE1.out]; exact HFL.out.2.1) hk6
      have HRR := Lib.hid hR'
      obtain ⟨L, hL⟩ : ∃ L, fs'.flatten ++ en ++ bd' = L := ⟨_, rfl⟩
      have HL := Lib.hid hL
      rw [hL] at hbt
      clear hL
      clear hR' hch F3 F4 hk4 hfl4
      go_wp2_with fail
      refine hbt.mono ?_
      rintro e w5 ⟨⟨A5, c5, rfl, g1, g2, g3, g4⟩, hb5⟩
      go_wp2_with fail
      go_ret
      refine ⟨⟨L, ?_, A5, c5, rfl, g1, g2, g3, g4⟩, hB4.trans (hb5.mono hB4.size)⟩
      unfold AppR
      rw [HR.out]
      show if okF fs = true then _ else _
      rw [if_pos HOK.out]
      exact ⟨fs', bd', HRR.out, HL.out.symm⟩
end Go.Proofs.YtcagkoakbdbbaaaGreatDoor
