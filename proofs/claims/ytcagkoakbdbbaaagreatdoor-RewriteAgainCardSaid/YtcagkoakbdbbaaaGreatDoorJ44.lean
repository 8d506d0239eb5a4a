/- Apply at each kind. -/
import Derived.Test.YtcagkoakbdbbaaaGreatDoorJ43
namespace Go.Proofs.YtcagkoakbdbbaaaGreatDoor
set_option linter.unusedVariables false
set_option linter.unusedSimpArgs false
open Go.RowKit

/-- what is done to fields -/
def chgF (z N M : Int) (fs : List (List UInt8)) : List (List UInt8) :=
  if z = 3 then fs.set (N % (fs.length : Int)).toNat (foldL M (fs.getD (N % (fs.length : Int)).toNat []))
  else if z = 4 then fs.set (N % (fs.length : Int)).toNat (lettersL M (fs.getD (N % (fs.length : Int)).toNat []))
  else if z = 5 then dropL fs (N % (fs.length : Int)).toNat (fs.getD (N % (fs.length : Int)).toNat [])
  else swapL fs (N % (fs.length : Int)).toNat (fs.getD (N % (fs.length : Int)).toNat [])
theorem at_pick {fs : List (List UInt8)} {N : Int} {n a : Nat} {f : List UInt8} (hn : fs.length = n) (h1 : N % (n : Int) = (a : Int)) (h2 : fs[a]? = some f) : (N % (fs.length : Int)).toNat = a ∧ fs.getD (N % (fs.length : Int)).toNat [] = f := by
  subst hn
  rw [h1, Int.toNat_natCast, List.getD_eq_getElem?_getD, h2]
  exact ⟨rfl, rfl⟩
theorem set_flat {fs : List (List UInt8)} {a : Nat} {f : List UInt8} (h : fs[a]? = some f) (x : List UInt8) : (fs.set a x).flatten.length + f.length = fs.flatten.length + x.length := by
  induction fs generalizing a with
  | nil => simp at h
  | cons g r ih =>
    cases a with
    | zero =>
      obtain rfl : g = f := by simpa using h
      simp only [List.set_cons_zero, List.flatten_cons, List.length_append]
      omega
    | succ a =>
      have := ih (a := a) (by simpa using h)
      simp only [List.set_cons_succ, List.flatten_cons, List.length_append]
      omega
theorem foldL_len (m : Int) (f : List UInt8) : (foldL m f).length ≤ 3 * f.length := by
  unfold foldL
  rw [List.length_append]
  have h1 := (foldS_len m (Lib.indexByte (flatT (fl f)) 58) (flatT (fl f)) (flatT (fl f)).length).1
  have h2 : (flatT (fl f)).length + (lastT (fl f)).length ≤ f.length := by
    conv => rhs; rw [← fl_flat f]
    rcases List.eq_nil_or_concat (fl f) with h | ⟨a, l, h⟩
    · rw [h]; simp [flatT, lastT]
    · rw [h, List.concat_eq_append, flatT_snoc, lastT_snoc, List.flatten_append, List.flatten_singleton, List.length_append, List.length_append, List.length_drop]
      have h3 := flatT_len a
      have h4 := textL_len l
      omega
  omega
theorem erase_flat (fs : List (List UInt8)) (a : Nat) : (fs.eraseIdx a).flatten.length ≤ fs.flatten.length := by
  induction fs generalizing a with
  | nil => simp
  | cons g r ih =>
    cases a with
    | zero => simp
    | succ a => simp only [List.eraseIdx_cons_succ, List.flatten_cons, List.length_append]; have := ih a; omega
theorem swap_flat {fs : List (List UInt8)} {a : Nat} {f : List UInt8} (h : fs[a]? = some f) : (swapL fs a f).flatten.length = fs.flatten.length := by
  unfold swapL
  split
  · rfl
  · next g hg =>
    split
    · rfl
    · have h1 := set_flat h g
      have h2 := set_flat (fs := fs.set a g) (a := a + 1) (f := g) (by rw [List.getElem?_set_ne (by omega)]; exact hg) f
      omega
theorem flat_mem_le {fs : List (List UInt8)} {f : List UInt8} (h : f ∈ fs) : f.length ≤ fs.flatten.length := List.Sublist.length_le (List.sublist_flatten_of_mem h)
theorem read_len {b : List UInt8} {fs : List (List UInt8)} {en bd : List UInt8} (h : readG [] (fl b) = some (fs, en, bd)) : fs.flatten.length + en.length + bd.length = b.length := by
  have := congrArg List.length (read_bytes h)
  rw [List.length_append, List.length_append] at this
  exact this

def RF (z N M : Int) (fs : List (List UInt8)) (bd : List UInt8) (fs' : List (List UInt8)) (bd' : List UInt8) : Prop := fs' = chgF z N M fs ∧ bd' = bd
def RW (fs : List (List UInt8)) (bd : List UInt8) (fs' : List (List UInt8)) (bd' : List UInt8) : Prop := fs' = fs ∧ TB bd bd'

theorem apply_chg (A : Option Addr) (b : List UInt8) (n c : Nat) (z N M : Int) (T : ByteArray) (w : World) (hG : Gl w) (hn : b.length = n) (hA : Rb w A b) (hpl : Pl A c) (hnc : n ≤ c) (hb : n ≤ 140000) (hN : -9223372036854775808 ≤ N ∧ N ≤ 9223372036854775807)
    (hz : z = 3 ∨ z = 4 ∨ z = 5 ∨ z = 7) :
    Calls Tryz.prog 7 #[.slice A n c, .agg #[.int .i64 z, .int .i64 N, .int .i64 M, .string T]] w fun e w' => (∃ r, AppR (RF z N M) b r ∧ BOut r e w') ∧ Below w.heap.size w w' := by
  refine apply_gen (RF z N M) A b n c z N M T w hn hA hpl hnc (by omega) (by omega) (by omega) (by omega) ?_
  intro A0 A1 A2 fs en bd B n0 c0 c1 c2 n1 n2 W hW hrd hF hB h0 h1 hfl hD hbd hc
  have hlen := read_len hrd
  rw [hn] at hlen
  have hll : ∀ f ∈ fs, f.length ≤ 1000000 := fun f hf => by have := flat_mem_le hf; omega
  have hbl : bd.length ≤ 1000000 := by omega
  have hGW := hG.below hW
  rcases hz with rfl | rfl | rfl | rfl
  · refine (change_fold A0 A1 A2 fs B n0 c0 c1 c2 n1 n2 N M T W hF hB h0 h1 hN hll).mono ?_
    rintro e w' ⟨rfl, ⟨a, f, hNa, hfa, hFR⟩, hb⟩
    obtain ⟨p1, p2⟩ := at_pick hfl hNa hfa
    have e1 : chgF 3 N M fs = fs.set a (foldL M f) := by unfold chgF; rw [if_pos rfl, p2, p1]
    have h3 := set_flat hfa (foldL M f)
    have h4 := foldL_len M f
    have h5 := flat_mem_le (List.mem_of_getElem? hfa)
    exact ⟨⟨n0, A2, n2, c2, _, bd, ⟨e1.symm, rfl⟩, rfl, hFR, hD w' hb, hbd, by omega, by omega, h1⟩, hb⟩
  · refine (change_case A0 A1 A2 fs B n0 c0 c1 c2 n1 n2 N M T W hF hB h0 h1 hN hll).mono ?_
    rintro e w' ⟨rfl, ⟨a, f, hNa, hfa, hFR⟩, hb⟩
    obtain ⟨p1, p2⟩ := at_pick hfl hNa hfa
    have e1 : chgF 4 N M fs = fs.set a (lettersL M f) := by unfold chgF; rw [if_neg (by decide), if_pos rfl, p2, p1]
    have h3 := set_flat hfa (lettersL M f)
    have h4 : (lettersL M f).length = f.length := lg_len M _ f
    exact ⟨⟨n0, A2, n2, c2, _, bd, ⟨e1.symm, rfl⟩, rfl, hFR, hD w' hb, hbd, by omega, by omega, h1⟩, hb⟩
  · refine (change_drop A0 A1 A2 fs B n0 c0 c1 c2 n1 n2 N M T W hGW hF hB h0 h1 hN hll).mono ?_
    rintro e w' ⟨⟨a, f, n', hNa, hfa, hn', rfl, hFR⟩, hb⟩
    obtain ⟨p1, p2⟩ := at_pick hfl hNa hfa
    have e1 : chgF 5 N M fs = dropL fs a f := by unfold chgF; rw [if_neg (by decide), if_neg (by decide), if_pos rfl, p2, p1]
    have h3 : (dropL fs a f).flatten.length ≤ fs.flatten.length := by
      unfold dropL
      split
      · exact Nat.le_refl _
      · exact erase_flat fs a
    have h4 : n' ≤ 1000000 := by
      rw [← hn']
      unfold dropL
      split
      · omega
      · rw [List.length_eraseIdx]; split <;> omega
    exact ⟨⟨n', A2, n2, c2, _, bd, ⟨e1.symm, rfl⟩, rfl, hFR, hD w' hb, hbd, by omega, by omega, h4⟩, hb⟩
  · refine (change_order A0 A1 A2 fs B n0 c0 c1 c2 n1 n2 N M T W hGW hF hB h0 h1 hN hll).mono ?_
    rintro e w' ⟨⟨a, hNa, f, hfa, rfl, hFR⟩, hb⟩
    obtain ⟨p1, p2⟩ := at_pick hfl hNa hfa
    have e1 : chgF 7 N M fs = swapL fs a f := by unfold chgF; rw [if_neg (by decide), if_neg (by decide), if_neg (by decide), p2, p1]
    have h3 := swap_flat hfa
    exact ⟨⟨n0, A2, n2, c2, _, bd, ⟨e1.symm, rfl⟩, rfl, hFR, hD w' hb, hbd, by omega, by omega, h1⟩, hb⟩
theorem apply_wrap (A : Option Addr) (b : List UInt8) (n c : Nat) (N M : Int) (T : ByteArray) (w : World) (hG : Gl w) (hn : b.length = n) (hA : Rb w A b) (hpl : Pl A c) (hnc : n ≤ c) (hb : n ≤ 140000) (hN : -9223372036854775808 ≤ N ∧ N ≤ 9223372036854775807) (hM : -9223372036854775808 ≤ M ∧ M ≤ 9223372036854775807) :
    Calls Tryz.prog 7 #[.slice A n c, .agg #[.int .i64 8, .int .i64 N, .int .i64 M, .string T]] w fun e w' => (∃ r, AppR RW b r ∧ BOut r e w') ∧ Below w.heap.size w w' := by
  refine apply_gen RW A b n c 8 N M T w hn hA hpl hnc (by omega) (by decide) (by decide) (by decide) ?_
  intro A0 A1 A2 fs en bd B n0 c0 c1 c2 n1 n2 W hW hrd hF hB h0 h1 hfl hD hbd hc
  have hlen := read_len hrd
  rw [hn] at hlen
  have hll : ∀ f ∈ fs, f.length ≤ 1000000 := fun f hf => by have := flat_mem_le hf; omega
  refine (change_wrap A0 A1 A2 fs bd B n0 c0 c1 c2 n1 n2 N M T W (hG.below hW) hF hB h0 h1 hN hM hll (hD W (Below.refl _ _)) hbd hc (by omega)).mono ?_
  rintro e w' ⟨⟨A7, c7, r, r7, htb, hr7, h7, rfl, hFR, hR⟩, hb⟩
  have h9 := htb.len
  exact ⟨⟨n0, A7, r7, c7, fs, r, ⟨rfl, htb⟩, rfl, hFR, hR, hr7, by omega, by omega, h1⟩, hb⟩

/-- what Apply makes of bytes -/
def AppZ (z N M : Int) (t b r : List UInt8) : Prop :=
  if z = 1 then r = bareL b else if z = 2 then r = fullL 0 b else if z = 6 then r = addL b M t else if z = 8 then AppR RW b r else if z = 3 ∨ z = 4 ∨ z = 5 ∨ z = 7 then AppR (RF z N M) b r else r = b
theorem apply_any (A : Option Addr) (b t : List UInt8) (n c : Nat) (z N M : Int) (w : World) (hG : Gl w) (hn : b.length = n) (hA : Rb w A b) (hpl : Pl A c) (hnc : n ≤ c) (hb : n ≤ 140000) (ht : t.length ≤ 9223372036854775807) (hN : -9223372036854775808 ≤ N ∧ N ≤ 9223372036854775807) (hM : -9223372036854775808 ≤ M ∧ M ≤ 9223372036854775807) :
    Calls Tryz.prog 7 #[.slice A n c, .agg #[.int .i64 z, .int .i64 N, .int .i64 M, .string (bs t)]] w fun e w' => (∃ r, AppZ z N M t b r ∧ BOut r e w') ∧ Below w.heap.size w w' := by
  unfold AppZ
  by_cases z1 : z = 1
  · subst z1
    refine (apply_bare A b n c N M (bs t) w hn hA hpl hnc (by omega) hG.mx).mono ?_
    rintro e w' ⟨h, hb⟩
    exact ⟨⟨_, by simp, h⟩, hb⟩
  by_cases z2 : z = 2
  · subst z2
    refine (apply_whole A b n c N M (bs t) w hn hA hnc (by omega)).mono ?_
    rintro e w' ⟨h, hb⟩
    exact ⟨⟨_, by simp, h⟩, hb⟩
  by_cases z6 : z = 6
  · subst z6
    refine (apply_add A b t n c N M w hG hn hA hpl hnc (by omega) ht hM).mono ?_
    rintro e w' ⟨h, hb⟩
    exact ⟨⟨_, by simp, h⟩, hb⟩
  by_cases z8 : z = 8
  · subst z8
    refine (apply_wrap A b n c N M (bs t) w hG hn hA hpl hnc hb hN hM).mono ?_
    rintro e w' ⟨⟨r, h, h2⟩, hb⟩
    exact ⟨⟨r, by simpa using h, h2⟩, hb⟩
  by_cases zc : z = 3 ∨ z = 4 ∨ z = 5 ∨ z = 7
  · refine (apply_chg A b n c z N M (bs t) w hG hn hA hpl hnc hb hN zc).mono ?_
    rintro e w' ⟨⟨r, h, h2⟩, hb⟩
    exact ⟨⟨r, by rw [if_neg z1, if_neg z2, if_neg z6, if_neg z8, if_pos zc]; exact h, h2⟩, hb⟩
  · refine (apply_none A b n c z N M (bs t) w hn hA hpl hnc (by omega) hN z1 z2 (by omega) (by omega) (by omega) z6 (by omega) z8).mono ?_
    rintro e w' ⟨h, hb⟩
    exact ⟨⟨b, by rw [if_neg z1, if_neg z2, if_neg z6, if_neg z8, if_neg zc], h⟩, hb⟩
end Go.Proofs.YtcagkoakbdbbaaaGreatDoor
