/- Apply at a kind that changes a mail's fields or body. · Apply at each kind. -/
import Derived.Test.YtcagkoakbdbbaaaGreatDoorJ31
namespace Go.Proofs.YtcagkoakbdbbaaaGreatDoor
set_option linter.unusedVariables false
set_option linter.unusedSimpArgs false
open Go.RowKit

def okF (fs : List (List UInt8)) : Bool := !fs.isEmpty && !blank1 (fs.headD [])
/-- what comes of bytes: where they are a mail with fields, what R tells of these and the body -/
def AppR (R : List (List UInt8) → List UInt8 → List (List UInt8) → List UInt8 → Prop) (b r : List UInt8) : Prop := match readG [] (fl b) with
  | none => r = b
  | some (fs, en, bd) => if okF fs then ∃ fs' bd', R fs bd fs' bd' ∧ r = fs'.flatten ++ en ++ bd' else r = b
def ChgOut (R : List (List UInt8) → List UInt8 → List (List UInt8) → List UInt8 → Prop) (fs : List (List UInt8)) (bd : List UInt8) (A0 A1 : Option Addr) (c0 n1 c1 B : Nat) (e : Ending) (w' : World) : Prop :=
  ∃ n' A' k' c' fs' bd', R fs bd fs' bd' ∧ e = .returned (.agg #[.slice A0 n' c0, .slice A1 n1 c1, .slice A' k' c']) ∧ FR w' B (.slice A0 n' c0) fs' ∧ Rb w' A' bd' ∧ bd'.length = k' ∧ fs'.flatten.length ≤ 1000000 ∧ k' ≤ 1000000 ∧ n' ≤ 1000000

set_option maxRecDepth 100000 in
set_option maxHeartbeats 1000000 in
theorem apply_gen (R : List (List UInt8) → List UInt8 → List (List UInt8) → List UInt8 → Prop) (A : Option Addr) (b : List UInt8) (n c : Nat) (z N M : Int) (T : ByteArray) (w : World) (hn : b.length = n) (hA : Rb w A b) (hpl : Pl A c) (hnc : n ≤ c) (hb : n ≤ 1000000)
    (z1 : z ≠ 1) (z2 : z ≠ 2) (z6 : z ≠ 6)
    (hch : ∀ (A0 A1 A2 : Option Addr) (fs : List (List UInt8)) (en bd : List UInt8) (B n0 c0 c1 c2 n1 n2 : Nat) (W : World), Below w.heap.size w W → readG [] (fl b) = some (fs, en, bd) → FR W B (.slice A0 n0 c0) fs → B ≤ W.heap.size → 0 < n0 → n0 ≤ 1000000 → fs.length = n0 → (∀ W', Below B W W' → Rb W' A2 bd) → bd.length = n2 → n2 ≤ c2 →
      Calls Tryz.prog 21 #[.agg #[.slice A0 n0 c0, .slice A1 n1 c1, .slice A2 n2 c2], .agg #[.int .i64 z, .int .i64 N, .int .i64 M, .string T]] W fun e w' => ChgOut R fs bd A0 A1 c0 n1 c1 B e w' ∧ Below B W w') :
    Calls Tryz.prog 7 #[.slice A n c, .agg #[.int .i64 z, .int .i64 N, .int .i64 M, .string T]] w fun e w' => (∃ r, AppR R b r ∧ BOut r e w') ∧ Below w.heap.size w w' := by
  have hB0 : Below w.heap.size w (w.alloc (.cells #[.int .i64 z, .int .i64 N, .int .i64 M, .string T] 26)) := (Below.refl _ _).alloc (Nat.le_refl _) _
  have r0 := Row.new w #[.int .i64 z, .int .i64 N, .int .i64 M, .string T] 26
  have hrd := read_any A b n c (w.alloc (.cells #[.int .i64 z, .int .i64 N, .int .i64 M, .string T] 26)) hn (hA.below hB0) hnc hb
  have HN := Lib.hid hn
  have q1 : (z == 1) = false := by rw [beq_eq_false_iff_ne]; exact z1
  have q2 : (z == 2) = false := by rw [beq_eq_false_iff_ne]; exact z2
  have q6 : (z == 6) = false := by rw [beq_eq_false_iff_ne]; exact z6
  have q6b : (z != 6) = true := by rw [bne, q6]; rfl
  have HCH := Lib.hid hch
  clear hn hch
  go_enter Tryz.func7, Tryz.ntmps7
  go_wp2_with fail
  refine hrd.mono ?_
  rintro e w1 ⟨hro, hb1⟩
  obtain ⟨A0, n0, c0, A1, n1, c1, A2, n2, c2, wh, ok, rfl⟩ := hro.form
  have HRO := Lib.hid hro
  have hB1 := hB0.trans (hb1.mono hB0.size)
  have r1 := r0.below hb1
  have r3 := r1.alloc (.cells #[.slice A0 n0 c0, .slice A1 n1 c1, .slice A2 n2 c2] 49)
  have t3 := Row.new w1 #[.slice A0 n0 c0, .slice A1 n1 c1, .slice A2 n2 c2] 49
  have hm3 := mark_below w1 #[.slice A0 n0 c0, .slice A1 n1 c1, .slice A2 n2 c2] 49 (0, 0)
  have hB3 := hB1.trans (hm3.mono hB1.size)
  clear hro hrd
  go_upto_region 2 with fail
  obtain ⟨w3, hw3⟩ : ∃ w3, w1.alloc (.cells #[.slice A0 n0 c0, .slice A1 n1 c1, .slice A2 n2 c2] 49) = w3 := ⟨_, rfl⟩
  rw [hw3] at r3 t3 hB3 hm3 ⊢
  clear hw3 r1 r0
  have x0 := r3.cell (j := 0) rfl
  have x1 := r3.cell (j := 1) rfl
  have x2 := r3.cell (j := 2) rfl
  have x3 := r3.cell (j := 3) rfl
  have m0 := t3.cell (j := 0) rfl
  have m1 := t3.cell (j := 1) rfl
  have m2 := t3.cell (j := 2) rfl
  cases ok with
  | false =>
    have HR : Hid (AppR R b b) := Lib.hid (by
      have hro := HRO.out
      unfold ReadOut at hro
      unfold AppR
      cases hr : readG [] (fl b) with
      | none => rfl
      | some p =>
        obtain ⟨fs, en, bd⟩ := p
        rw [hr] at hro
        obtain ⟨fv, Ae, ce, Ab, cb, he, _⟩ := hro
        injection he with he
        injection he with he
        simp only [Array.mk.injEq, List.cons.injEq, Value.bool.injEq] at he
        show if okF fs = true then _ else b = b
        rw [if_neg (by unfold okF; rw [← he.2.2.1]; simp)])
    have hcl := clone_any A b n c w3 HN.out (hA.below hB3) hnc hpl (by omega)
    go_wp2_with fail
    refine hcl.mono ?_
    rintro e w4 ⟨⟨v, rfl, hov⟩, hb4⟩
    obtain ⟨A5, c5, e5, g1, g2, g3, g4⟩ := BOut.own hov
    cases e5
    go_wp2_with fail
    go_ret
    exact ⟨⟨b, HR.out, A5, c5, rfl, g1, g2, g3, g4⟩, hB3.trans (hb4.mono hB3.size)⟩
  | true =>
    have hro := HRO.out
    unfold ReadOut at hro
    cases hr : readG [] (fl b) with
    | none => rw [hr] at hro; cases hro
    | some p =>
      obtain ⟨fs, en, bd⟩ := p
      rw [hr] at hro
      obtain ⟨fv, Ae, ce, Ab, cb, he, hF, hE, hce, hD, hcb⟩ := hro
      have hrb := read_bytes hr
      obtain ⟨Af, nf, cf, hfv, hfn⟩ : ∃ Af nf cf, fv = .slice Af nf cf ∧ fs.length = nf := by
        obtain ⟨vs, ho, _⟩ := hF
        obtain ⟨Af, cf, hv, _⟩ := own_form ho
        exact ⟨Af, _, cf, hv, rfl⟩
      subst hfv
      injection he with he
      injection he with he
      simp only [Array.mk.injEq, List.cons.injEq, Value.agg.injEq, Value.slice.injEq, Value.bool.injEq, and_true, true_and] at he
      obtain ⟨⟨⟨rfl, rfl, rfl⟩, ⟨rfl, e11, rfl⟩, ⟨rfl, e21, rfl⟩⟩, rfl, hok⟩ := he
      have hfl : fs.flatten.length ≤ 1000000 ∧ en.length ≤ 1000000 ∧ bd.length ≤ 1000000 := by
        have h := congrArg List.length hrb
        rw [List.length_append, List.length_append, HN.out] at h
        omega
      have hnf0 : 0 < n0 := by
        rw [← hfn]
        cases fs with
        | nil => simp at hok
        | cons a r => simp
      have hnf1 : n0 ≤ 1000000 := by
        have h1 := flat_ge (read_ne hr).1
        omega
      have F3 := hF.below hm3
      have hs0 : (w.alloc (.cells #[.int .i64 z, .int .i64 N, .int .i64 M, .string T] 26)).heap.size + 1 ≤ w3.heap.size := by
        have h1 := hB3.size
        have h2 := r3.lt
        have h3 := hm3.size
        have h4 := t3.lt
        rw [World.size_alloc]
        have h5 : w.heap.size < w1.heap.size := by
          have := hb1.size
          rw [World.size_alloc] at this
          omega
        omega
      have hB3' : Below (w.alloc (.cells #[.int .i64 z, .int .i64 N, .int .i64 M, .string T] 26)).heap.size (w.alloc (.cells #[.int .i64 z, .int .i64 N, .int .i64 M, .string T] 26)) w3 := hb1.trans (hm3.mono hb1.size)
      have hch := HCH.out A0 A1 A2 fs en bd _ n0 c0 c1 c2 n1 n2 w3 hB3 hr F3 (by omega) hnf0 hnf1 hfn (fun W' hW => hD W' (hB3'.trans (hW.mono (by omega)))) e21.symm (by rw [e21]; exact hcb)
      have HOK : Hid (okF fs = true) := Lib.hid hok.symm
      have HR := Lib.hid hr
      have HFL := Lib.hid hfl
      have HE1 := Lib.hid e11
      have HE2 := Lib.hid e21
      clear hok hr hrb hfl e11 e21 hfn HRO
      go_wp2_with fail
      refine hch.mono ?_
      rintro e w4 ⟨⟨n', A', k', c', fs', bd', hR', rfl, F4, hR4, hk4, hfl4, hk6, hn6⟩, hb4⟩
      have hs4 := hb4.size
      have hB4 := hB3.trans (hb4.mono (by rw [World.size_alloc]; omega))
      have hB4' := hB3'.trans (hb4.mono (by omega))
      have hbt := bytes_any A0 A1 A' fs' en bd' _ n' c0 c1 c' n1 k' w4 F4 (hE w4 hB4') hR4 HE1.out.symm hk4 (by omega) hn6 hfl4 (by rw [HE1.out]; exact HFL.out.2.1) hk6
      have HRR := Lib.hid hR'
      obtain ⟨L, hL⟩ : ∃ L, fs'.flatten ++ en ++ bd' = L := ⟨_, rfl⟩
      have HL := Lib.hid hL
      rw [hL] at hbt
      clear hL
      clear hR' hch F3 F4 hk4 hfl4
      go_wp2_with fail
      refine hbt.mono ?_
      rintro e w5 ⟨⟨A5, c5, rfl, g1, g2, g3, g4⟩, hb5⟩
      go_wp2_with fail
      go_ret
      refine ⟨⟨L, ?_, A5, c5, rfl, g1, g2, g3, g4⟩, hB4.trans (hb5.mono hB4.size)⟩
      unfold AppR
      rw [HR.out]
      show if okF fs = true then _ else _
      rw [if_pos HOK.out]
      exact ⟨fs', bd', HRR.out, HL.out.symm⟩
end Go.Proofs.YtcagkoakbdbbaaaGreatDoor

namespace Go.Proofs.YtcagkoakbdbbaaaGreatDoor
set_option linter.unusedVariables false
set_option linter.unusedSimpArgs false
open Go.RowKit

/-- what is done to fields -/
def chgF (z N M : Int) (fs : List (List UInt8)) : List (List UInt8) :=
  if z = 3 then fs.set (N % (fs.length : Int)).toNat (foldL M (fs.getD (N % (fs.length : Int)).toNat []))
  else if z = 4 then fs.set (N % (fs.length : Int)).toNat (lettersL M (fs.getD (N % (fs.length : Int)).toNat []))
  else if z = 5 then dropL fs (N % (fs.length : Int)).toNat (fs.getD (N % (fs.length : Int)).toNat [])
  else swapL fs (N % (fs.length : Int)).toNat (fs.getD (N % (fs.length : Int)).toNat [])
theorem at_pick {fs : List (List UInt8)} {N : Int} {n a : Nat} {f : List UInt8} (hn : fs.length = n) (h1 : N % (n : Int) = (a : Int)) (h2 : fs[a]? = some f) : (N % (fs.length : Int)).toNat = a ∧ fs.getD (N % (fs.length : Int)).toNat [] = f := by
  subst hn
  rw [h1, Int.toNat_natCast, List.getD_eq_getElem?_getD, h2]
  exact ⟨rfl, rfl⟩
theorem set_flat {fs : List (List UInt8)} {a : Nat} {f : List UInt8} (h : fs[a]? = some f) (x : List UInt8) : (fs.set a x).flatten.length + f.length = fs.flatten.length + x.length := by
  induction fs generalizing a with
  | nil => simp at h
  | cons g r ih =>
    cases a with
    | zero =>
      obtain rfl : g = f := by simpa using h
      simp only [List.set_cons_zero, List.flatten_cons, List.length_append]
      omega
    | succ a =>
      have := ih (a := a) (by simpa using h)
      simp only [List.set_cons_succ, List.flatten_cons, List.length_append]
      omega
theorem foldL_len (m : Int) (f : List UInt8) : (foldL m f).length ≤ 3 * f.length := by
  unfold foldL
  rw [List.length_append]
  have h1 := (foldS_len m (Lib.indexByte (flatT (fl f)) 58) (flatT (fl f)) (flatT (fl f)).length).1
  have h2 : (flatT (fl f)).length + (lastT (fl f)).length ≤ f.length := by
    conv => rhs; rw [← fl_flat f]
    rcases List.eq_nil_or_concat (fl f) with h | ⟨a, l, h⟩
    · rw [h]; simp [flatT, lastT]
    · rw [h, List.concat_eq_append, flatT_snoc, lastT_snoc, List.flatten_append, List.flatten_singleton, List.length_append, List.length_append, List.length_drop]
      have h3 := flatT_len a
      have h4 := textL_len l
      omega
  omega
theorem erase_flat (fs : List (List UInt8)) (a : Nat) : (fs.eraseIdx a).flatten.length ≤ fs.flatten.length := by
  induction fs generalizing a with
  | nil => simp
  | cons g r ih =>
    cases a with
    | zero => simp
    | succ a => simp only [List.eraseIdx_cons_succ, List.flatten_cons, List.length_append]; have := ih a; omega
theorem swap_flat {fs : List (List UInt8)} {a : Nat} {f : List UInt8} (h : fs[a]? = some f) : (swapL fs a f).flatten.length = fs.flatten.length := by
  unfold swapL
  split
  · rfl
  · next g hg =>
    split
    · rfl
    · have h1 := set_flat h g
      have h2 := set_flat (fs := fs.set a g) (a := a + 1) (f := g) (by rw [List.getElem?_set_ne (by omega)]; exact hg) f
      omega
theorem flat_mem_le {fs : List (List UInt8)} {f : List UInt8} (h : f ∈ fs) : f.length ≤ fs.flatten.length := List.Sublist.length_le (List.sublist_flatten_of_mem h)
theorem read_len {b : List UInt8} {fs : List (List UInt8)} {en bd : List UInt8} (h : readG [] (fl b) = some (fs, en, bd)) : fs.flatten.length + en.length + bd.length = b.length := by
  have := congrArg List.length (read_bytes h)
  rw [List.length_append, List.length_append] at this
  exact this

def RF (z N M : Int) (fs : List (List UInt8)) (bd : List UInt8) (fs' : List (List UInt8)) (bd' : List UInt8) : Prop := fs' = chgF z N M fs ∧ bd' = bd
def RW (fs : List (List UInt8)) (bd : List UInt8) (fs' : List (List UInt8)) (bd' : List UInt8) : Prop := fs' = fs ∧ TB bd bd'

theorem apply_chg (A : Option Addr) (b : List UInt8) (n c : Nat) (z N M : Int) (T : ByteArray) (w : World) (hG : Gl w) (hn : b.length = n) (hA : Rb w A b) (hpl : Pl A c) (hnc : n ≤ c) (hb : n ≤ 200000) (hN : -9223372036854775808 ≤ N ∧ N ≤ 9223372036854775807)
    (hz : z = 3 ∨ z = 4 ∨ z = 5 ∨ z = 7) :
    Calls Tryz.prog 7 #[.slice A n c, .agg #[.int .i64 z, .int .i64 N, .int .i64 M, .string T]] w fun e w' => (∃ r, AppR (RF z N M) b r ∧ BOut r e w') ∧ Below w.heap.size w w' := by
  refine apply_gen (RF z N M) A b n c z N M T w hn hA hpl hnc (by omega) (by omega) (by omega) (by omega) ?_
  intro A0 A1 A2 fs en bd B n0 c0 c1 c2 n1 n2 W hW hrd hF hB h0 h1 hfl hD hbd hc
  have hlen := read_len hrd
  rw [hn] at hlen
  have hll : ∀ f ∈ fs, f.length ≤ 1000000 := fun f hf => by have := flat_mem_le hf; omega
  have hbl : bd.length ≤ 1000000 := by omega
  have hGW := hG.below hW
  rcases hz with rfl | rfl | rfl | rfl
  · refine (change_fold A0 A1 A2 fs B n0 c0 c1 c2 n1 n2 N M T W hF hB h0 h1 hN hll).mono ?_
    rintro e w' ⟨rfl, ⟨a, f, hNa, hfa, hFR⟩, hb⟩
    obtain ⟨p1, p2⟩ := at_pick hfl hNa hfa
    have e1 : chgF 3 N M fs = fs.set a (foldL M f) := by unfold chgF; rw [if_pos rfl, p2, p1]
    have h3 := set_flat hfa (foldL M f)
    have h4 := foldL_len M f
    have h5 := flat_mem_le (List.mem_of_getElem? hfa)
    exact ⟨⟨n0, A2, n2, c2, _, bd, ⟨e1.symm, rfl⟩, rfl, hFR, hD w' hb, hbd, by omega, by omega, h1⟩, hb⟩
  · refine (change_case A0 A1 A2 fs B n0 c0 c1 c2 n1 n2 N M T W hF hB h0 h1 hN hll).mono ?_
    rintro e w' ⟨rfl, ⟨a, f, hNa, hfa, hFR⟩, hb⟩
    obtain ⟨p1, p2⟩ := at_pick hfl hNa hfa
    have e1 : chgF 4 N M fs = fs.set a (lettersL M f) := by unfold chgF; rw [if_neg (by decide), if_pos rfl, p2, p1]
    have h3 := set_flat hfa (lettersL M f)
    have h4 : (lettersL M f).length = f.length := lg_len M _ f
    exact ⟨⟨n0, A2, n2, c2, _, bd, ⟨e1.symm, rfl⟩, rfl, hFR, hD w' hb, hbd, by omega, by omega, h1⟩, hb⟩
  · refine (change_drop A0 A1 A2 fs B n0 c0 c1 c2 n1 n2 N M T W hGW hF hB h0 h1 hN hll).mono ?_
    rintro e w' ⟨⟨a, f, n', hNa, hfa, hn', rfl, hFR⟩, hb⟩
    obtain ⟨p1, p2⟩ := at_pick hfl hNa hfa
    have e1 : chgF 5 N M fs = dropL fs a f := by unfold chgF; rw [if_neg (by decide), if_neg (by decide), if_pos rfl, p2, p1]
    have h3 : (dropL fs a f).flatten.length ≤ fs.flatten.length := by
      unfold dropL
      split
      · exact Nat.le_refl _
      · exact erase_flat fs a
    have h4 : n' ≤ 1000000 := by
      rw [← hn']
      unfold dropL
      split
      · omega
      · rw [List.length_eraseIdx]; split <;> omega
    exact ⟨⟨n', A2, n2, c2, _, bd, ⟨e1.symm, rfl⟩, rfl, hFR, hD w' hb, hbd, by omega, by omega, h4⟩, hb⟩
  · refine (change_order A0 A1 A2 fs B n0 c0 c1 c2 n1 n2 N M T W hGW hF hB h0 h1 hN hll).mono ?_
    rintro e w' ⟨⟨a, hNa, f, hfa, rfl, hFR⟩, hb⟩
    obtain ⟨p1, p2⟩ := at_pick hfl hNa hfa
    have e1 : chgF 7 N M fs = swapL fs a f := by unfold chgF; rw [if_neg (by decide), if_neg (by decide), if_neg (by decide), p2, p1]
    have h3 := swap_flat hfa
    exact ⟨⟨n0, A2, n2, c2, _, bd, ⟨e1.symm, rfl⟩, rfl, hFR, hD w' hb, hbd, by omega, by omega, h1⟩, hb⟩
theorem apply_wrap (A : Option Addr) (b : List UInt8) (n c : Nat) (N M : Int) (T : ByteArray) (w : World) (hG : Gl w) (hn : b.length = n) (hA : Rb w A b) (hpl : Pl A c) (hnc : n ≤ c) (hb : n ≤ 200000) (hN : -9223372036854775808 ≤ N ∧ N ≤ 9223372036854775807) (hM : -9223372036854775808 ≤ M ∧ M ≤ 9223372036854775807) :
    Calls Tryz.prog 7 #[.slice A n c, .agg #[.int .i64 8, .int .i64 N, .int .i64 M, .string T]] w fun e w' => (∃ r, AppR RW b r ∧ BOut r e w') ∧ Below w.heap.size w w' := by
  refine apply_gen RW A b n c 8 N M T w hn hA hpl hnc (by omega) (by decide) (by decide) (by decide) ?_
  intro A0 A1 A2 fs en bd B n0 c0 c1 c2 n1 n2 W hW hrd hF hB h0 h1 hfl hD hbd hc
  have hlen := read_len hrd
  rw [hn] at hlen
  have hll : ∀ f ∈ fs, f.length ≤ 1000000 := fun f hf => by have := flat_mem_le hf; omega
  refine (change_wrap A0 A1 A2 fs bd B n0 c0 c1 c2 n1 n2 N M T W (hG.below hW) hF hB h0 h1 hN hM hll (hD W (Below.refl _ _)) hbd hc (by omega)).mono ?_
  rintro e w' ⟨⟨A7, c7, r, r7, htb, hr7, h7, rfl, hFR, hR⟩, hb⟩
  have h9 := htb.len
  exact ⟨⟨n0, A7, r7, c7, fs, r, ⟨rfl, htb⟩, rfl, hFR, hR, hr7, by omega, by omega, h1⟩, hb⟩

/-- what Apply makes of bytes -/
def AppZ (z N M : Int) (t b r : List UInt8) : Prop :=
  if z = 1 then r = bareL b else if z = 2 then r = fullL 0 b else if z = 6 then r = addL b M t else if z = 8 then AppR RW b r else if z = 3 ∨ z = 4 ∨ z = 5 ∨ z = 7 then AppR (RF z N M) b r else r = b
theorem apply_any (A : Option Addr) (b t : List UInt8) (n c : Nat) (z N M : Int) (w : World) (hG : Gl w) (hn : b.length = n) (hA : Rb w A b) (hpl : Pl A c) (hnc : n ≤ c) (hb : n ≤ 200000) (ht : t.length ≤ 9223372036854775807) (hN : -9223372036854775808 ≤ N ∧ N ≤ 9223372036854775807) (hM : -9223372036854775808 ≤ M ∧ M ≤ 9223372036854775807) :
    Calls Tryz.prog 7 #[.slice A n c, .agg #[.int .i64 z, .int .i64 N, .int .i64 M, .string (bs t)]] w fun e w' => (∃ r, AppZ z N M t b r ∧ BOut r e w') ∧ Below w.heap.size w w' := by
  unfold AppZ
  by_cases z1 : z = 1
  · subst z1
    refine (apply_bare A b n c N M (bs t) w hn hA hpl hnc (by omega) hG.mx).mono ?_
    rintro e w' ⟨h, hb⟩
    exact ⟨⟨_, by simp, h⟩, hb⟩
  by_cases z2 : z = 2
  · subst z2
    refine (apply_whole A b n c N M (bs t) w hn hA hnc (by omega)).mono ?_
    rintro e w' ⟨h, hb⟩
    exact ⟨⟨_, by simp, h⟩, hb⟩
  by_cases z6 : z = 6
  · subst z6
    refine (apply_add A b t n c N M w hG hn hA hpl hnc (by omega) ht hM).mono ?_
    rintro e w' ⟨h, hb⟩
    exact ⟨⟨_, by simp, h⟩, hb⟩
  by_cases z8 : z = 8
  · subst z8
    refine (apply_wrap A b n c N M (bs t) w hG hn hA hpl hnc hb hN hM).mono ?_
    rintro e w' ⟨⟨r, h, h2⟩, hb⟩
    exact ⟨⟨r, by simpa using h, h2⟩, hb⟩
  by_cases zc : z = 3 ∨ z = 4 ∨ z = 5 ∨ z = 7
  · refine (apply_chg A b n c z N M (bs t) w hG hn hA hpl hnc hb hN zc).mono ?_
    rintro e w' ⟨⟨r, h, h2⟩, hb⟩
    exact ⟨⟨r, by rw [if_neg z1, if_neg z2, if_neg z6, if_neg z8, if_pos zc]; exact h, h2⟩, hb⟩
  · refine (apply_none A b n c z N M (bs t) w hn hA hpl hnc (by omega) hN z1 z2 (by omega) (by omega) (by omega) z6 (by omega) z8).mono ?_
    rintro e w' ⟨h, hb⟩
    exact ⟨⟨b, by rw [if_neg z1, if_neg z2, if_neg z6, if_neg z8, if_neg zc], h⟩, hb⟩
end Go.Proofs.YtcagkoakbdbbaaaGreatDoor
