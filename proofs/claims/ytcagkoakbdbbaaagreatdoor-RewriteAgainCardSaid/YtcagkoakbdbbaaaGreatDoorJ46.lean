/- Plain: what Apply makes is not much longer; and what is done twice. -/
import Derived.Test.YtcagkoakbdbbaaaGreatDoorJ44
import Derived.Test.YtcagkoakbdbbaaaGreatDoorJ45
namespace Go.Proofs.YtcagkoakbdbbaaaGreatDoor
set_option linter.unusedVariables false
set_option linter.unusedSimpArgs false
open Go.RowKit

theorem okF_ne {fs : List (List UInt8)} (h : okF fs = true) : fs ≠ [] := by
  rintro rfl
  cases h
theorem picked {fs : List (List UInt8)} (h : fs ≠ []) (N : Int) : ∃ (a : Nat) (f : List UInt8), fs[a]? = some f ∧ (N % (fs.length : Int)).toNat = a ∧ fs.getD (N % (fs.length : Int)).toNat [] = f := by
  have h0 := List.length_pos_iff.2 h
  have h1 := Int.emod_nonneg N (by omega : (fs.length : Int) ≠ 0)
  have h2 := Int.emod_lt_of_pos N (by omega : (0 : Int) < (fs.length : Int))
  obtain ⟨f, hf⟩ : ∃ f, fs[(N % (fs.length : Int)).toNat]? = some f := ⟨_, List.getElem?_eq_getElem (by omega)⟩
  exact ⟨_, f, hf, rfl, by rw [List.getD_eq_getElem?_getD, hf]; rfl⟩
theorem chg_flat {fs : List (List UInt8)} (h : fs ≠ []) (z N M : Int) : (chgF z N M fs).flatten.length ≤ 3 * fs.flatten.length := by
  obtain ⟨a, f, hf, e1, e2⟩ := picked h N
  unfold chgF
  rw [e2, e1]
  have h5 := flat_mem_le (List.mem_of_getElem? hf)
  split
  · have h3 := set_flat hf (foldL M f)
    have h4 := foldL_len M f
    omega
  · split
    · have h3 := set_flat hf (lettersL M f)
      have h4 : (lettersL M f).length = f.length := lg_len M _ f
      omega
    · split
      · unfold dropL
        split
        · omega
        · have := erase_flat fs a; omega
      · rw [swap_flat hf]; omega
theorem app_len {R : List (List UInt8) → List UInt8 → List (List UInt8) → List UInt8 → Prop} {b r : List UInt8} (h : AppR R b r) (hR : ∀ fs bd fs' bd', fs ≠ [] → R fs bd fs' bd' → fs'.flatten.length ≤ 3 * fs.flatten.length ∧ bd'.length ≤ 7 * bd.length) : r.length ≤ 7 * b.length := by
  unfold AppR at h
  cases hr : readG [] (fl b) with
  | none => rw [hr] at h; simp only at h; subst h; omega
  | some p =>
    obtain ⟨fs, en, bd⟩ := p
    rw [hr] at h
    simp only at h
    have hl := read_len hr
    by_cases hok : okF fs = true
    · rw [if_pos hok] at h
      obtain ⟨fs', bd', h1, rfl⟩ := h
      have := hR _ _ _ _ (okF_ne hok) h1
      rw [List.length_append, List.length_append]
      omega
    · rw [if_neg hok] at h
      subst h
      omega
theorem appZ_len {z N M : Int} {t b r : List UInt8} (h : AppZ z N M t b r) : r.length ≤ 7 * b.length + 212 := by
  unfold AppZ at h
  split at h
  · rw [h]; have := bare_len b.length b (Nat.le_refl _); omega
  · split at h
    · rw [h]; have := full_len b 0; omega
    · split at h
      · rw [h]
        unfold addL
        split
        · next hk =>
          unfold addOk at hk
          simp only [Bool.and_eq_true, decide_eq_true_eq] at hk
          have h2 := trace_len M
          unfold addF
          simp only [List.length_append, List.length_cons, List.length_nil]
          omega
        · omega
      · split at h
        · have := app_len h (fun fs bd fs' bd' _ hR => by obtain ⟨rfl, hb⟩ := hR; exact ⟨by omega, hb.len⟩)
          omega
        · split at h
          · have := app_len h (fun fs bd fs' bd' h0 hR => by obtain ⟨rfl, rfl⟩ := hR; exact ⟨chg_flat h0 z N M, by omega⟩)
            omega
          · rw [h]; omega

theorem okF_goods {fs : List (List UInt8)} (h : ∀ f ∈ fs, GF f) (h0 : fs ≠ []) : okF fs = true := by
  cases fs with
  | nil => exact absurd rfl h0
  | cons f r =>
    unfold okF
    have := (h f List.mem_cons_self).2
    simp [this]
/-- what is read anew of fields that have been changed -/
theorem app_again {R : List (List UInt8) → List UInt8 → List (List UInt8) → List UInt8 → Prop} {fs' : List (List UInt8)} {en bd' r : List UInt8} (hg : ∀ f ∈ fs', GF f) (h0 : fs' ≠ []) (he : en = [10] ∨ en = [13, 10]) (h : AppR R (fs'.flatten ++ en ++ bd') r) : ∃ fs'' bd'', R fs' bd' fs'' bd'' ∧ r = fs''.flatten ++ en ++ bd'' := by
  unfold AppR at h
  rw [read_goods hg he bd'] at h
  simp only at h
  rw [if_pos (okF_goods hg h0)] at h
  exact h
theorem set_mem {fs : List (List UInt8)} {a : Nat} {x : List UInt8} {p : List UInt8 → Prop} (h : ∀ f ∈ fs, p f) (hx : p x) : ∀ f ∈ fs.set a x, p f := fun f hf => by
  rcases List.mem_or_eq_of_mem_set hf with h1 | h1
  · exact h f h1
  · rw [h1]; exact hx
/-- folds, and letters, twice -/
theorem chg_twice {z N M : Int} {b r r2 : List UInt8} (hz : z = 3 ∨ z = 4) (h1 : AppR (RF z N M) b r) (h2 : AppR (RF z N M) r r2) : r2 = r := by
  have hh1 := h1
  unfold AppR at h1
  cases hr : readG [] (fl b) with
  | none =>
    rw [hr] at h1
    simp only at h1
    subst h1
    unfold AppR at h2
    rw [hr] at h2
    exact h2
  | some p =>
    obtain ⟨fs, en, bd⟩ := p
    rw [hr] at h1
    simp only at h1
    by_cases hok : okF fs = true
    · rw [if_pos hok] at h1
      obtain ⟨fs', bd', ⟨rfl, rfl⟩, rfl⟩ := h1
      obtain ⟨hg, he⟩ := read_right hr hok
      obtain ⟨a, f, hf, e1, e2⟩ := picked (okF_ne hok) N
      have hgf := hg f (List.mem_of_getElem? hf)
      have hal : a < fs.length := (List.getElem?_eq_some_iff.1 hf).1
      obtain ⟨g, hgg, hch, hch2⟩ : ∃ g, GF g ∧ chgF z N M fs = fs.set a g ∧ ∀ fs2 : List (List UInt8), fs2 = fs.set a g → chgF z N M fs2 = fs2 := by
        have hidx : ∀ g (fs2 : List (List UInt8)), fs2 = fs.set a g → (N % (fs2.length : Int)).toNat = a ∧ fs2.getD (N % (fs2.length : Int)).toNat [] = g ∧ fs2.set a g = fs2 := by
          rintro g fs2 rfl
          have e3 : (N % ((fs.set a g).length : Int)).toNat = a := by rw [List.length_set]; exact e1
          refine ⟨e3, ?_, by rw [List.set_set]⟩
          rw [e3, List.getD_eq_getElem?_getD, List.getElem?_set_self hal]
          rfl
        rcases hz with rfl | rfl
        · refine ⟨foldL M f, (fold_right M hgf).1, by unfold chgF; rw [if_pos rfl, e2, e1], fun fs2 hfs2 => ?_⟩
          obtain ⟨k1, k2, k3⟩ := hidx _ fs2 hfs2
          unfold chgF
          rw [if_pos rfl, k2, k1, fold_again M hgf]
          exact k3
        · refine ⟨lettersL M f, letters_right M hgf, by unfold chgF; rw [if_neg (by decide), if_pos rfl, e2, e1], fun fs2 hfs2 => ?_⟩
          obtain ⟨k1, k2, k3⟩ := hidx _ fs2 hfs2
          unfold chgF
          rw [if_neg (by decide), if_pos rfl, k2, k1, letters_again]
          exact k3
      have hgs : ∀ x ∈ chgF z N M fs, GF x := by rw [hch]; exact set_mem hg hgg
      have h0 : chgF z N M fs ≠ [] := by
        rw [hch]
        intro e
        have := congrArg List.length e
        simp at this
        exact okF_ne hok this
      obtain ⟨fs'', bd'', ⟨rfl, rfl⟩, rfl⟩ := app_again hgs h0 he h2
      rw [hch2 _ hch]
    · rw [if_neg hok] at h1
      subst h1
      unfold AppR at h2
      rw [hr] at h2
      simp only at h2
      rw [if_neg hok] at h2
      exact h2
theorem sameN_comm (a b : List UInt8) : sameN a b = sameN b a := by
  unfold sameN
  rw [decide_eq_decide]
  exact ⟨Eq.symm, Eq.symm⟩
/-- two that change places twice -/
theorem swap_twice {N M : Int} {b r r2 : List UInt8} (h1 : AppR (RF 7 N M) b r) (h2 : AppR (RF 7 N M) r r2) : r2 = b := by
  unfold AppR at h1
  cases hr : readG [] (fl b) with
  | none =>
    rw [hr] at h1
    simp only at h1
    subst h1
    unfold AppR at h2
    rw [hr] at h2
    exact h2
  | some p =>
    obtain ⟨fs, en, bd⟩ := p
    rw [hr] at h1
    simp only at h1
    by_cases hok : okF fs = true
    · rw [if_pos hok] at h1
      obtain ⟨fs', bd', ⟨rfl, rfl⟩, rfl⟩ := h1
      obtain ⟨hg, he⟩ := read_right hr hok
      have hbb := read_bytes hr
      obtain ⟨a, f, hf, e1, e2⟩ := picked (okF_ne hok) N
      have hch : chgF 7 N M fs = swapL fs a f := by unfold chgF; rw [if_neg (by decide), if_neg (by decide), if_neg (by decide), e2, e1]
      have hal : a < fs.length := (List.getElem?_eq_some_iff.1 hf).1
      have key : (∀ x ∈ swapL fs a f, GF x) ∧ chgF 7 N M (swapL fs a f) = fs := by
        have hlen := swapL_len fs a f
        have e3 : (N % ((swapL fs a f).length : Int)).toNat = a := by rw [hlen]; exact e1
        have hch2 : chgF 7 N M (swapL fs a f) = swapL (swapL fs a f) a ((swapL fs a f).getD a []) := by unfold chgF; rw [if_neg (by decide), if_neg (by decide), if_neg (by decide), e3]
        rw [hch2]
        unfold swapL
        cases hn : fs[a + 1]? with
        | none =>
          simp only [hn]
          exact ⟨hg, trivial⟩
        | some g =>
          simp only
          have hal1 : a + 1 < fs.length := (List.getElem?_eq_some_iff.1 hn).1
          by_cases hs : sameN (nameL f) (nameL g) = true
          · rw [if_pos hs]
            have e4 : fs.getD a [] = f := by rw [List.getD_eq_getElem?_getD, hf]; rfl
            simp only [hn, e4]
            rw [if_pos hs]
            exact ⟨hg, rfl⟩
          · rw [if_neg hs]
            have e4 : ((fs.set a g).set (a + 1) f).getD a [] = g := by
              rw [List.getD_eq_getElem?_getD, List.getElem?_set_ne (by omega), List.getElem?_set_self hal]
              rfl
            have e5 : ((fs.set a g).set (a + 1) f)[a + 1]? = some f := by rw [List.getElem?_set_self (by simpa using hal1)]
            rw [e4]
            simp only [e5]
            rw [sameN_comm, if_neg hs]
            refine ⟨set_mem (set_mem hg (hg g (List.mem_of_getElem? hn))) (hg f (List.mem_of_getElem? hf)), ?_⟩
            apply List.ext_getElem?
            intro j
            rw [List.getElem?_set, List.getElem?_set, List.getElem?_set, List.getElem?_set]
            simp only [List.length_set]
            by_cases h1 : a + 1 = j
            · subst h1
              rw [if_pos rfl, if_pos hal1, hn]
            · rw [if_neg h1]
              by_cases h2 : a = j
              · subst h2
                rw [if_pos rfl, if_pos hal, hf]
              · rw [if_neg h2, if_neg h1, if_neg h2]
      rw [hch] at h2
      have h0 : swapL fs a f ≠ [] := by
        intro e
        have := swapL_len fs a f
        rw [e] at this
        simp at this
        omega
      obtain ⟨fs'', bd'', ⟨rfl, rfl⟩, rfl⟩ := app_again key.1 h0 he h2
      rw [key.2]
      exact hbb
    · rw [if_neg hok] at h1
      subst h1
      unfold AppR at h2
      rw [hr] at h2
      simp only at h2
      rw [if_neg hok] at h2
      exact h2
/-- lines' ends made whole, folds, letters: twice is as once -/
theorem again_once {z N M : Int} {t b r r2 : List UInt8} (hz : z = 2 ∨ z = 3 ∨ z = 4) (h1 : AppZ z N M t b r) (h2 : AppZ z N M t r r2) : r = r2 := by
  unfold AppZ at h1 h2
  rcases hz with rfl | hz
  · simp at h1 h2
    rw [h2, h1, full_ok _ 0 (endsOk_full b 0)]
  · have g1 : z ≠ 1 := by omega
    have g2 : z ≠ 2 := by omega
    have g6 : z ≠ 6 := by omega
    have g8 : z ≠ 8 := by omega
    have gc : z = 3 ∨ z = 4 ∨ z = 5 ∨ z = 7 := by omega
    rw [if_neg g1, if_neg g2, if_neg g6, if_neg g8, if_pos gc] at h1 h2
    exact (chg_twice hz h1 h2).symm
theorem again_back {N M : Int} {t b r r2 : List UInt8} (h1 : AppZ 7 N M t b r) (h2 : AppZ 7 N M t r r2) : r2 = b := by
  unfold AppZ at h1 h2
  simp at h1 h2
  exact swap_twice h1 h2
theorem again_none {z N M : Int} {t b r : List UInt8} (hz : z ≠ 1 ∧ z ≠ 2 ∧ z ≠ 3 ∧ z ≠ 4 ∧ z ≠ 5 ∧ z ≠ 6 ∧ z ≠ 7 ∧ z ≠ 8) (h1 : AppZ z N M t b r) : r = b := by
  unfold AppZ at h1
  obtain ⟨z1, z2, z3, z4, z5, z6, z7, z8⟩ := hz
  rw [if_neg z1, if_neg z2, if_neg z6, if_neg z8, if_neg (by omega)] at h1
  exact h1
end Go.Proofs.YtcagkoakbdbbaaaGreatDoor
