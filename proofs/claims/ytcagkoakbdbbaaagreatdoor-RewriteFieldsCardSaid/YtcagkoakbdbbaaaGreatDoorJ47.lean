/- A row of what relays do; the law's Great, the document's Protected, the program's All. · A row of what relays do that came in. -/
import Derived.Test.YtcagkoakbdbbaaaGreatDoorJ40
import Derived.Test.YtcagkoakbdbbaaaGreatDoorJ41
import Derived.Test.YtcagkoakbdbbaaaGreatDoorJ44
import Derived.Test.YtcagkoakbdbbaaaGreatDoorJ46
import Derived.Deep.Slices
import Derived.ChangeSame
import Derived.Lib.SmallJoins
import Derived.OpenShut
namespace Go.Proofs.YtcagkoakbdbbaaaGreatDoor
set_option linter.unusedVariables false
set_option linter.unusedSimpArgs false
open Go.RowKit

/-- what a relay does: its kind, numbers and text -/
abbrev Rwt := Int × Int × Int × List UInt8
def rcell (x : Rwt) : List Value := [.int .i64 x.1, .int .i64 x.2.1, .int .i64 x.2.2.1, .string (bs x.2.2.2)]
def rcells (xs : List Rwt) : List Value := xs.flatMap rcell
def Rw (w : World) (A : Option Addr) (xs : List Rwt) : Prop := Rv w A (rcells xs)
theorem rcells_len (xs : List Rwt) : (rcells xs).length = xs.length * 4 := by
  induction xs with
  | nil => rfl
  | cons x r ih =>
    have e : rcells (x :: r) = rcell x ++ rcells r := rfl
    rw [e, List.length_append, ih, List.length_cons]
    show 4 + _ = _
    omega
theorem rcells_get {xs : List Rwt} {k : Nat} {x : Rwt} (h : xs[k]? = some x) : ∀ (j : Nat) (v : Value), (rcell x)[j]? = some v → (rcells xs)[4 * k + j]? = some v := by
  induction xs generalizing k with
  | nil => simp at h
  | cons q r ih =>
    have e : rcells (q :: r) = rcell q ++ rcells r := rfl
    intro j v hj
    match k, h with
    | 0, h =>
      simp at h
      subst h
      have hl : j < (rcell q).length := lt_of_get hj
      rw [e, Nat.mul_zero, Nat.zero_add, List.getElem?_append_left hl]
      exact hj
    | k + 1, h =>
      have := ih (k := k) (by simpa using h) j v hj
      have hl : (rcell q).length = 4 := rfl
      rw [e, List.getElem?_append_right (by omega), hl, show 4 * (k + 1) + j - 4 = 4 * k + j by omega]
      exact this
theorem Rw.one {w : World} {A : Option Addr} {xs : List Rwt} (h : Rw w A xs) {k : Nat} (hk : k < xs.length) :
    ∃ b o x, A = some ⟨b, o, none⟩ ∧ Hid (xs[k]? = some x) ∧ w.cell? ⟨b, o + k * 4, none⟩ = some (.int .i64 x.1) ∧ w.cell? ⟨b, o + k * 4 + 1, none⟩ = some (.int .i64 x.2.1) ∧ w.cell? ⟨b, o + k * 4 + 2, none⟩ = some (.int .i64 x.2.2.1) ∧ w.cell? ⟨b, o + k * 4 + 3, none⟩ = some (.string (bs x.2.2.2)) := by
  obtain ⟨b, o, rfl, hc⟩ := h (by rw [rcells_len]; omega)
  obtain ⟨x, hx⟩ : ∃ x, xs[k]? = some x := ⟨_, List.getElem?_eq_getElem hk⟩
  have hg := rcells_get hx
  refine ⟨b, o, x, rfl, Lib.hid hx, ?_, ?_, ?_, ?_⟩
  · have := hc _ _ (hg 0 _ rfl)
    rwa [show o + (4 * k + 0) = o + k * 4 by omega] at this
  · have := hc _ _ (hg 1 _ rfl)
    rwa [show o + (4 * k + 1) = o + k * 4 + 1 by omega] at this
  · have := hc _ _ (hg 2 _ rfl)
    rwa [show o + (4 * k + 2) = o + k * 4 + 2 by omega] at this
  · have := hc _ _ (hg 3 _ rfl)
    rwa [show o + (4 * k + 3) = o + k * 4 + 3 by omega] at this
theorem Rw.below {w w1 : World} {A : Option Addr} {xs : List Rwt} (h : Rw w A xs) (hb : Below w.heap.size w w1) : Rw w1 A xs := Rv.below h hb
/-- these are numbers and texts -/
def rwOk (xs : List Rwt) : Prop := ∀ x ∈ xs, (-9223372036854775808 ≤ x.2.1 ∧ x.2.1 ≤ 9223372036854775807) ∧ (-9223372036854775808 ≤ x.2.2.1 ∧ x.2.2.1 ≤ 9223372036854775807) ∧ x.2.2.2.length ≤ 9223372036854775807

def greatR (xs : List Rwt) : Bool := decide (30 < xs.length) || xs.any fun x => decide (300 < x.2.2.2.length)
set_option maxRecDepth 100000 in
set_option maxHeartbeats 1000000 in
theorem greatr_any (A : Option Addr) (xs : List Rwt) (n c : Nat) (w : World) (hn : xs.length = n) (hA : Rw w A xs) (hok : rwOk xs) (hb : n ≤ 9223372036854775807) :
    Calls Tryz.prog 9 #[.slice A n c] w fun e w' => e = .returned (.bool (greatR xs)) ∧ Below w.heap.size w w' := by
  have HN := Lib.hid hn
  have HOK := Lib.hid hok
  clear hn hok
  by_cases h30 : 30 < n
  · have HG : Hid (greatR xs = true) := Lib.hid (by unfold greatR; rw [HN.out, decide_eq_true h30]; rfl)
    go_enter Tryz.func9, Tryz.ntmps9
    go_wp2_with fail
    go_ret
    exact ⟨ret_bool HG.out.symm, Below.refl _ _⟩
  have HG0 : Hid (∀ q, (xs.any fun x => decide (300 < x.2.2.2.length)) = q → greatR xs = q) := Lib.hid (fun q hq => by unfold greatR; rw [HN.out, decide_eq_false h30, hq]; rfl)
  go_enter Tryz.func9, Tryz.ntmps9
  go_wp2_with fail
  go_loopw [10] (fun s10 wr => ∃ k : Nat, s10 = .int .i64 k ∧ k ≤ n ∧ Hid ((xs.take k).any (fun x => decide (300 < x.2.2.2.length)) = false) ∧ Below w.heap.size w wr) (fun s10 _ => n - (intOf s10).toNat)
  case atStart => exact ⟨0, rfl, by omega, Lib.hid rfl, Below.refl _ _⟩
  case round =>
    obtain ⟨k, rfl, hk, HK, hB⟩ := hrel
    by_cases hlt : k < n
    · obtain ⟨b, o, x, rfl, hx, g0, g1, g2, g3⟩ := (hA.below hB).one (k := k) (by rw [HN.out]; exact hlt)
      have hxl := (HOK.out x (List.mem_of_getElem? hx.out)).2.2
      have hBA := hB.alloc hB.size (.cells #[.int .i64 x.1, .int .i64 x.2.1, .int .i64 x.2.2.1, .string (bs x.2.2.2)] 26)
      by_cases h3 : 300 < x.2.2.2.length
      · have HG : Hid (greatR xs = true) := Lib.hid (HG0.out true (by
          rw [List.any_eq_true]
          exact ⟨x, List.mem_of_getElem? hx.out, decide_eq_true h3⟩))
        have h3i : (300 : Int) < ((x.2.2.2.length : Nat) : Int) := by omega
        go_wp2_with fail
        go_ret
        exact ⟨ret_bool HG.out.symm, hBA⟩
      · have h3i : ¬ (300 : Int) < ((x.2.2.2.length : Nat) : Int) := by omega
        have HK1 : Hid ((xs.take (k + 1)).any (fun x => decide (300 < x.2.2.2.length)) = false) := Lib.hid (by
          rw [take_succ_of hx.out, List.any_append, HK.out]
          simp [h3])
        go_wp2_with fail
        go_roundw
        case rel => exact ⟨k + 1, by go_num, by omega, HK1, hBA⟩
        case measure => simp [intOf]; omega
    · obtain rfl : k = n := by omega
      have HG : Hid (greatR xs = false) := Lib.hid (HG0.out false (by
        have h := HK.out
        rwa [List.take_of_length_le (by rw [HN.out]; exact Nat.le_refl _)] at h))
      go_wp2_with fail
      go_ret
      exact ⟨ret_bool HG.out.symm, hB⟩
theorem great_no {xs : List Rwt} (h : greatR xs = false) : xs.length ≤ 30 ∧ ∀ x ∈ xs, x.2.2.2.length ≤ 300 := by
  unfold greatR at h
  rw [Bool.or_eq_false_iff, decide_eq_false_iff_not] at h
  refine ⟨by omega, fun x hx => ?_⟩
  have h2 := h.2
  rw [List.any_eq_false] at h2
  have := h2 x hx
  simp at this
  omega

/-- the document's names that stay -/
def rnmL : List (List UInt8) := [[102, 114, 111, 109], [116, 111], [109, 101, 115, 115, 97, 103, 101, 45, 105, 100], [120, 45, 116, 104, 114, 101, 97, 100], [120, 45, 107, 101, 121, 115], [99, 111, 110, 116, 101, 110, 116, 45, 116, 121, 112, 101], [99, 111, 110, 116, 101, 110, 116, 45, 116, 114, 97, 110, 115, 102, 101, 114, 45, 101, 110, 99, 111, 100, 105, 110, 103]]
def rprotL (nm : List UInt8) : Bool := rnmL.any fun n => sameN nm n
theorem rprot_prot (nm : List UInt8) : rprotL nm = protL nm := by
  have h : ∀ a b : List UInt8, a.map small = b.map small → sameN nm a = sameN b nm := fun a b hab => by
    unfold sameN
    rw [decide_eq_decide, hab]
    exact ⟨Eq.symm, Eq.symm⟩
  have k0 := h [102, 114, 111, 109] [70, 114, 111, 109] (by decide)
  have k1 := h [116, 111] [84, 111] (by decide)
  have k2 := h [109, 101, 115, 115, 97, 103, 101, 45, 105, 100] [77, 101, 115, 115, 97, 103, 101, 45, 73, 68] (by decide)
  have k3 := h [120, 45, 116, 104, 114, 101, 97, 100] [88, 45, 84, 104, 114, 101, 97, 100] (by decide)
  have k4 := h [120, 45, 107, 101, 121, 115] [88, 45, 75, 101, 121, 115] (by decide)
  have k5 := h [99, 111, 110, 116, 101, 110, 116, 45, 116, 121, 112, 101] [67, 111, 110, 116, 101, 110, 116, 45, 84, 121, 112, 101] (by decide)
  have k6 := h [99, 111, 110, 116, 101, 110, 116, 45, 116, 114, 97, 110, 115, 102, 101, 114, 45, 101, 110, 99, 111, 100, 105, 110, 103] [67, 111, 110, 116, 101, 110, 116, 45, 84, 114, 97, 110, 115, 102, 101, 114, 45, 69, 110, 99, 111, 100, 105, 110, 103] (by decide)
  unfold rprotL protL
  simp only [rnmL, nmL, List.any_cons, List.any_nil]
  rw [k0, k1, k2, k3, k4, k5, k6]
set_option maxRecDepth 100000 in
set_option maxHeartbeats 1000000 in
theorem rprot_any (nm : List UInt8) (w : World) :
    Calls Tryz.prog 10 #[.string (bs nm)] w fun e w' => e = .returned (.bool (rprotL nm)) ∧ Below w.heap.size w w' := by
  have r0 := Row.new w #[.string ⟨#[102, 114, 111, 109]⟩, .string ⟨#[116, 111]⟩, .string ⟨#[109, 101, 115, 115, 97, 103, 101, 45, 105, 100]⟩, .string ⟨#[120, 45, 116, 104, 114, 101, 97, 100]⟩, .string ⟨#[120, 45, 107, 101, 121, 115]⟩, .string ⟨#[99, 111, 110, 116, 101, 110, 116, 45, 116, 121, 112, 101]⟩, .string ⟨#[99, 111, 110, 116, 101, 110, 116, 45, 116, 114, 97, 110, 115, 102, 101, 114, 45, 101, 110, 99, 111, 100, 105, 110, 103]⟩] 9
  have hB0 : Below w.heap.size w (w.alloc (.cells #[.string ⟨#[102, 114, 111, 109]⟩, .string ⟨#[116, 111]⟩, .string ⟨#[109, 101, 115, 115, 97, 103, 101, 45, 105, 100]⟩, .string ⟨#[120, 45, 116, 104, 114, 101, 97, 100]⟩, .string ⟨#[120, 45, 107, 101, 121, 115]⟩, .string ⟨#[99, 111, 110, 116, 101, 110, 116, 45, 116, 121, 112, 101]⟩, .string ⟨#[99, 111, 110, 116, 101, 110, 116, 45, 116, 114, 97, 110, 115, 102, 101, 114, 45, 101, 110, 99, 111, 100, 105, 110, 103]⟩] 9)) := (Below.refl _ _).alloc (Nat.le_refl _) _
  obtain ⟨W1, hW1⟩ : ∃ W1, w.alloc (.cells #[.string ⟨#[102, 114, 111, 109]⟩, .string ⟨#[116, 111]⟩, .string ⟨#[109, 101, 115, 115, 97, 103, 101, 45, 105, 100]⟩, .string ⟨#[120, 45, 116, 104, 114, 101, 97, 100]⟩, .string ⟨#[120, 45, 107, 101, 121, 115]⟩, .string ⟨#[99, 111, 110, 116, 101, 110, 116, 45, 116, 121, 112, 101]⟩, .string ⟨#[99, 111, 110, 116, 101, 110, 116, 45, 116, 114, 97, 110, 115, 102, 101, 114, 45, 101, 110, 99, 111, 100, 105, 110, 103]⟩] 9) = W1 := ⟨_, rfl⟩
  rw [hW1] at r0 hB0
  have hc : Hid (∀ (k : Nat) (s : List UInt8), rnmL[k]? = some s → W1.cell? ⟨w.heap.size, k, none⟩ = some (.string (bs s))) := Lib.hid (fun k s hk => by
    have hlt : k < 7 := by simpa [rnmL] using lt_of_get hk
    match k, hlt with
    | 0, _ => cases hk; exact r0.cell (j := 0) rfl
    | 1, _ => cases hk; exact r0.cell (j := 1) rfl
    | 2, _ => cases hk; exact r0.cell (j := 2) rfl
    | 3, _ => cases hk; exact r0.cell (j := 3) rfl
    | 4, _ => cases hk; exact r0.cell (j := 4) rfl
    | 5, _ => cases hk; exact r0.cell (j := 5) rfl
    | 6, _ => cases hk; exact r0.cell (j := 6) rfl)
  go_enter Tryz.func10, Tryz.ntmps10
  go_wp2_with fail
  clear hW1 r0
  go_loopw [4] (fun s4 wr => ∃ k : Nat, s4 = .int .i64 k ∧ k ≤ 7 ∧ Hid ((rnmL.take k).any (fun n => sameN nm n) = false) ∧ Below W1.heap.size W1 wr) (fun s4 _ => 7 - (intOf s4).toNat)
  case atStart => exact ⟨0, rfl, by omega, Lib.hid rfl, Below.refl _ _⟩
  case round =>
    obtain ⟨k, rfl, hk, HK, hB⟩ := hrel
    by_cases hlt : k < 7
    · obtain ⟨s, hs⟩ : ∃ s, rnmL[k]? = some s := ⟨_, List.getElem?_eq_getElem (by simpa [rnmL] using hlt)⟩
      have hcell := hc.out k s hs
      have hcr := (hB.cell (cell_lt hcell)).trans hcell
      have hsl : s.length ≤ 1000000000 := by
        have hall : ∀ x ∈ rnmL, x.length ≤ 1000000000 := by decide
        exact hall s (List.mem_of_getElem? hs)
      have hcall := Fd.rsame2_any nm s wr hsl
      have HS := Lib.hid hs
      clear hs hsl hcell
      cases hq : sameN nm s with
      | true =>
        have HZ : Hid (rprotL nm = true) := Lib.hid (by
          unfold rprotL
          rw [List.any_eq_true]
          exact ⟨s, List.mem_of_getElem? HS.out, hq⟩)
        rw [hq] at hcall
        clear hq
        go_wp2_with fail
        refine hcall.mono ?_
        rintro e w2 ⟨rfl, hd2⟩
        go_wp2_with fail
        go_ret
        exact ⟨ret_bool HZ.out.symm, hB0.trans ((hB.trans (hd2.below _)).mono hB0.size)⟩
      | false =>
        have HZ : Hid ((rnmL.take (k + 1)).any (fun n => sameN nm n) = false) := Lib.hid (by
          rw [take_succ_of HS.out, List.any_append, HK.out]
          simp [hq])
        rw [hq] at hcall
        clear hq
        go_wp2_with fail
        refine hcall.mono ?_
        rintro e w2 ⟨rfl, hd2⟩
        go_wp2_with fail
        go_roundw
        case rel => exact ⟨k + 1, by go_num, by omega, HZ, hB.trans (hd2.below _)⟩
        case measure => simp [intOf]; omega
    · obtain rfl : k = 7 := by omega
      have HZ : Hid (rprotL nm = false) := Lib.hid (by
        have h := HK.out
        have e : rnmL.take 7 = rnmL := by decide
        rwa [e] at h)
      go_wp2_with fail
      go_ret
      exact ⟨ret_bool HZ.out.symm, hB0.trans (hB.mono hB0.size)⟩
end Go.Proofs.YtcagkoakbdbbaaaGreatDoor

namespace Go.Proofs.YtcagkoakbdbbaaaGreatDoor
set_option linter.unusedVariables false
set_option linter.unusedSimpArgs false
open Go.RowKit Go.ChangeShapes Go.WideShapes Go.Deep Go.Joins

theorem add_plain4 (b o k : Nat) : (⟨b, o, none⟩ : Addr).add k = ⟨b, o + k, none⟩ := by unfold Addr.add; split <;> simp_all
theorem strb_of (s : ByteArray) : Value.string (bs s.data.toList) = .string s := by rw [bs_of]
theorem Rw_row {H : Type} {enc : TypeId × Value → H} {P : Program} {W : World} {t e st it : TypeId} {f0 f1 f2 f3 : Field} {a : Option Addr} {len cap : Nat} {d : DataW H} {ps : List MemPlace} (ht : P.underlying t = some (.slice e)) (he : P.underlying e = some (.struct #[f0, f1, f2, f3])) (hs : P.underlying st = some .string) (hi64 : P.underlying it = some (.int .i64))
    (hk : f0.offset = 0 ∧ f0.type = it ∧ f1.offset = 1 ∧ f1.type = it ∧ f2.offset = 2 ∧ f2.type = it ∧ f3.offset = 3 ∧ f3.type = st) (hc : P.cellsOf st = 1 ∧ P.cellsOf it = 1 ∧ P.cellsOf e = 4) (h : DataW.Trod enc P W 0 (fun _ => true) true t (.slice a len cap) d ps) :
    ∃ l : List Rwt, l.length = len ∧ len ≤ cap ∧ cap ≤ maxLen ∧ Rw W a l ∧ rwOk l := by
  obtain ⟨fuel, hf⟩ := h
  rcases open_slice ht hf with ⟨hcs, _⟩ | ⟨a', len', cap', m, n, D, Pl, hcs, _, hl, hm, hmm, _, hi⟩
  · simp [Value.cells] at hcs
    obtain ⟨rfl, rfl, rfl⟩ := hcs
    exact ⟨[], rfl, Nat.le_refl _, by unfold maxLen; omega, Rv.nil _ _, fun x hx => by simp at hx⟩
  · simp [Value.cells] at hcs
    obtain ⟨rfl, rfl, rfl⟩ := hcs
    simp at hmm
    subst hmm
    rw [hc.2.2] at hi
    have each : ∀ i, i < m → ∃ p : Rwt, (W.cell? ((a'.add (i * 4)).add 0) = some (.int .i64 p.1) ∧ W.cell? ((a'.add (i * 4)).add 1) = some (.int .i64 p.2.1) ∧ W.cell? ((a'.add (i * 4)).add 2) = some (.int .i64 p.2.2.1) ∧ W.cell? ((a'.add (i * 4)).add 3) = some (.string (bs p.2.2.2))) ∧
        (-9223372036854775808 ≤ p.2.1 ∧ p.2.1 ≤ 9223372036854775807) ∧ (-9223372036854775808 ≤ p.2.2.1 ∧ p.2.2.1 ≤ 9223372036854775807) ∧ p.2.2.2.length ≤ maxLen := by
      intro i him
      obtain ⟨cs', h1, h2⟩ := hi i him
      obtain ⟨_, hlen, hat⟩ := World.cells?_some h1
      obtain ⟨y0, y1, y2, y3, n', _, _, t0, t1, t2, t3⟩ := trod_struct4 he h2
      match cs', hlen, hat, t0, t1, t2, t3 with
      | [x0, x1, x2, x3], _, hat, t0, t1, t2, t3 =>
        rw [hk.1, hk.2.1, hc.2.1] at t0
        rw [hk.2.2.1, hk.2.2.2.1, hc.2.1] at t1
        rw [hk.2.2.2.2.1, hk.2.2.2.2.2.1, hc.2.1] at t2
        rw [hk.2.2.2.2.2.2.1, hk.2.2.2.2.2.2.2, hc.1] at t3
        obtain ⟨s0, e0, _, z0⟩ := DataW.trod_int hi64 t0
        obtain ⟨s1, e1, _, z1⟩ := DataW.trod_int hi64 t1
        obtain ⟨s2, e2, _, z2⟩ := DataW.trod_int hi64 t2
        obtain ⟨s3, e3, _, z3⟩ := DataW.trod_string hs t3
        simp at e0 e1 e2 e3
        subst e0
        subst e1
        subst e2
        subst e3
        have g0 := hat 0 (by omega)
        have g1 := hat 1 (by omega)
        have g2 := hat 2 (by omega)
        have g3 := hat 3 (by omega)
        refine ⟨(s0, s1, s2, s3.data.toList), ⟨g0, g1, g2, by rw [strb_of]; exact g3⟩, bounds_i64 z1, bounds_i64 z2, ?_⟩
        have e := bs_size s3.data.toList
        rw [bs_of] at e
        exact e ▸ z3
    obtain ⟨V, hV⟩ := choose_lt (p := fun i (p : Rwt) => (W.cell? ((a'.add (i * 4)).add 0) = some (.int .i64 p.1) ∧ W.cell? ((a'.add (i * 4)).add 1) = some (.int .i64 p.2.1) ∧ W.cell? ((a'.add (i * 4)).add 2) = some (.int .i64 p.2.2.1) ∧ W.cell? ((a'.add (i * 4)).add 3) = some (.string (bs p.2.2.2))) ∧
        (-9223372036854775808 ≤ p.2.1 ∧ p.2.1 ≤ 9223372036854775807) ∧ (-9223372036854775808 ≤ p.2.2.1 ∧ p.2.2.1 ≤ 9223372036854775807) ∧ p.2.2.2.length ≤ maxLen) each
    refine ⟨(List.range len).map V, by simp, hl, hm, fun hp => ?_, fun p hp => ?_⟩
    · rw [rcells_len] at hp
      simp at hp
      have h0 := (hV 0 (by omega)).1.1
      obtain ⟨b, o, s⟩ := a'
      have hs0 : s = none := by
        have := Addr_spot h0
        unfold Addr.add at this
        split at this <;> simp_all
      subst hs0
      refine ⟨b, o, rfl, fun j v hj => ?_⟩
      have hjl := lt_of_get hj
      rw [rcells_len] at hjl
      simp at hjl
      have hg : ((List.range len).map V)[j / 4]? = some (V (j / 4)) := by
        rw [List.getElem?_map, List.getElem?_range (by omega)]
        rfl
      have hk4 := rcells_get hg
      obtain ⟨⟨v1, v2, v3, v4⟩, _⟩ := hV (j / 4) (by omega)
      rw [add_plain4, add_plain4] at v1 v2 v3 v4
      have hm4 : j % 4 = 0 ∨ j % 4 = 1 ∨ j % 4 = 2 ∨ j % 4 = 3 := by omega
      rcases hm4 with hm4 | hm4 | hm4 | hm4
      · have k1 := hk4 0 _ rfl
        rw [show 4 * (j / 4) + 0 = j by omega, hj] at k1
        cases k1
        rw [← v1]; congr 2; omega
      · have k1 := hk4 1 _ rfl
        rw [show 4 * (j / 4) + 1 = j by omega, hj] at k1
        cases k1
        rw [← v2]; congr 2; omega
      · have k1 := hk4 2 _ rfl
        rw [show 4 * (j / 4) + 2 = j by omega, hj] at k1
        cases k1
        rw [← v3]; congr 2; omega
      · have k1 := hk4 3 _ rfl
        rw [show 4 * (j / 4) + 3 = j by omega, hj] at k1
        cases k1
        rw [← v4]; congr 2; omega
    · obtain ⟨i, hi', rfl⟩ := List.mem_map.1 hp
      obtain ⟨_, u1, u2, u3⟩ := hV i (by have := List.mem_range.1 hi'; omega)
      unfold maxLen at u3
      exact ⟨u1, u2, u3⟩
end Go.Proofs.YtcagkoakbdbbaaaGreatDoor
