/- Plain: what Apply makes is not much longer; and what is done twice. · A head that is read, in plain words. -/
import Derived.Test.YtcagkoakbdbbaaaGreatDoorJ32
import Derived.Test.YtcagkoakbdbbaaaGreatDoorJ33
import Derived.Test.YtcagkoakbdbbaaaGreatDoorJ06
namespace Go.Proofs.YtcagkoakbdbbaaaGreatDoor
set_option linter.unusedVariables false
set_option linter.unusedSimpArgs false
open Go.RowKit

theorem okF_ne {fs : List (List UInt8)} (h : okF fs = true) : fs ≠ [] := by
  rintro rfl
  cases h
theorem picked {fs : List (List UInt8)} (h : fs ≠ []) (N : Int) : ∃ (a : Nat) (f : List UInt8), fs[a]? = some f ∧ (N % (fs.length : Int)).toNat = a ∧ fs.getD (N % (fs.length : Int)).toNat [] = f := by
  have h0 := List.length_pos_iff.2 h
  have h1 := Int.emod_nonneg N (by omega : (fs.length : Int) ≠ 0)
  have h2 := Int.emod_lt_of_pos N (by omega : (0 : Int) < (fs.length : Int))
  obtain ⟨f, hf⟩ : ∃ f, fs[(N % (fs.length : Int)).toNat]? = some f := ⟨_, List.getElem?_eq_getElem (by omega)⟩
  exact ⟨_, f, hf, rfl, by rw [List.getD_eq_getElem?_getD, hf]; rfl⟩
theorem chg_flat {fs : List (List UInt8)} (h : fs ≠ []) (z N M : Int) : (chgF z N M fs).flatten.length ≤ 3 * fs.flatten.length := by
  obtain ⟨a, f, hf, e1, e2⟩ := picked h N
  unfold chgF
  rw [e2, e1]
  have h5 := flat_mem_le (List.mem_of_getElem? hf)
  split
  · have h3 := set_flat hf (foldL M f)
    have h4 := foldL_len M f
    omega
  · split
    · have h3 := set_flat hf (lettersL M f)
      have h4 : (lettersL M f).length = f.length := lg_len M _ f
      omega
    · split
      · unfold dropL
        split
        · omega
        · have := erase_flat fs a; omega
      · rw [swap_flat hf]; omega
theorem app_len {R : List (List UInt8) → List UInt8 → List (List UInt8) → List UInt8 → Prop} {b r : List UInt8} (h : AppR R b r) (hR : ∀ fs bd fs' bd', fs ≠ [] → R fs bd fs' bd' → fs'.flatten.length ≤ 3 * fs.flatten.length ∧ bd'.length ≤ 7 * bd.length) : r.length ≤ 7 * b.length := by
  unfold AppR at h
  cases hr : readG [] (fl b) with
  | none => rw [hr] at h; simp only at h; subst h; omega
  | some p =>
    obtain ⟨fs, en, bd⟩ := p
    rw [hr] at h
    simp only at h
    have hl := read_len hr
    by_cases hok : okF fs = true
    · rw [if_pos hok] at h
      obtain ⟨fs', bd', h1, rfl⟩ := h
      have := hR _ _ _ _ (okF_ne hok) h1
      rw [List.length_append, List.length_append]
      omega
    · rw [if_neg hok] at h
      subst h
      omega
theorem appZ_len {z N M : Int} {t b r : List UInt8} (h : AppZ z N M t b r) : r.length ≤ 7 * b.length + 212 := by
  unfold AppZ at h
  split at h
  · rw [h]; have := bare_len b.length b (Nat.le_refl _); omega
  · split at h
    · rw [h]; have := full_len b 0; omega
    · split at h
      · rw [h]
        unfold addL
        split
        · next hk =>
          unfold addOk at hk
          simp only [Bool.and_eq_true, decide_eq_true_eq] at hk
          have h2 := trace_len M
          unfold addF
          simp only [List.length_append, List.length_cons, List.length_nil]
          omega
        · omega
      · split at h
        · have := app_len h (fun fs bd fs' bd' _ hR => by obtain ⟨rfl, hb⟩ := hR; exact ⟨by omega, by have := hb.len; omega⟩)
          omega
        · split at h
          · have := app_len h (fun fs bd fs' bd' h0 hR => by obtain ⟨rfl, rfl⟩ := hR; exact ⟨chg_flat h0 z N M, by omega⟩)
            omega
          · rw [h]; omega

theorem okF_goods {fs : List (List UInt8)} (h : ∀ f ∈ fs, GF f) (h0 : fs ≠ []) : okF fs = true := by
  cases fs with
  | nil => exact absurd rfl h0
  | cons f r =>
    unfold okF
    have := (h f List.mem_cons_self).2
    simp [this]
/-- what is read anew of fields that have been changed -/
theorem app_again {R : List (List UInt8) → List UInt8 → List (List UInt8) → List UInt8 → Prop} {fs' : List (List UInt8)} {en bd' r : List UInt8} (hg : ∀ f ∈ fs', GF f) (h0 : fs' ≠ []) (he : en = [10] ∨ en = [13, 10]) (h : AppR R (fs'.flatten ++ en ++ bd') r) : ∃ fs'' bd'', R fs' bd' fs'' bd'' ∧ r = fs''.flatten ++ en ++ bd'' := by
  unfold AppR at h
  rw [read_goods hg he bd'] at h
  simp only at h
  rw [if_pos (okF_goods hg h0)] at h
  exact h
theorem set_mem {fs : List (List UInt8)} {a : Nat} {x : List UInt8} {p : List UInt8 → Prop} (h : ∀ f ∈ fs, p f) (hx : p x) : ∀ f ∈ fs.set a x, p f := fun f hf => by
  rcases List.mem_or_eq_of_mem_set hf with h1 | h1
  · exact h f h1
  · rw [h1]; exact hx
/-- folds, and letters, twice -/
theorem chg_twice {z N M : Int} {b r r2 : List UInt8} (hz : z = 3 ∨ z = 4) (h1 : AppR (RF z N M) b r) (h2 : AppR (RF z N M) r r2) : r2 = r := by
  have hh1 := h1
  unfold AppR at h1
  cases hr : readG [] (fl b) with
  | none =>
    rw [hr] at h1
    simp only at h1
    subst h1
    unfold AppR at h2
    rw [hr] at h2
    exact h2
  | some p =>
    obtain ⟨fs, en, bd⟩ := p
    rw [hr] at h1
    simp only at h1
    by_cases hok : okF fs = true
    · rw [if_pos hok] at h1
      obtain ⟨fs', bd', ⟨rfl, rfl⟩, rfl⟩ := h1
      obtain ⟨hg, he⟩ := read_right hr hok
      obtain ⟨a, f, hf, e1, e2⟩ := picked (okF_ne hok) N
      have hgf := hg f (List.mem_of_getElem? hf)
      have hal : a < fs.length := (List.getElem?_eq_some_iff.1 hf).1
      obtain ⟨g, hgg, hch, hch2⟩ : ∃ g, GF g ∧ chgF z N M fs = fs.set a g ∧ ∀ fs2 : List (List UInt8), fs2 = fs.set a g → chgF z N M fs2 = fs2 := by
        have hidx : ∀ g (fs2 : List (List UInt8)), fs2 = fs.set a g → (N % (fs2.length : Int)).toNat = a ∧ fs2.getD (N % (fs2.length : Int)).toNat [] = g ∧ fs2.set a g = fs2 := by
          rintro g fs2 rfl
          have e3 : (N % ((fs.set a g).length : Int)).toNat = a := by rw [List.length_set]; exact e1
          refine ⟨e3, ?_, by rw [List.set_set]⟩
          rw [e3, List.getD_eq_getElem?_getD, List.getElem?_set_self hal]
          rfl
        rcases hz with rfl | rfl
        · refine ⟨foldL M f, (fold_right M hgf).1, by unfold chgF; rw [if_pos rfl, e2, e1], fun fs2 hfs2 => ?_⟩
          obtain ⟨k1, k2, k3⟩ := hidx _ fs2 hfs2
          unfold chgF
          rw [if_pos rfl, k2, k1, fold_again M hgf]
          exact k3
        · refine ⟨lettersL M f, letters_right M hgf, by unfold chgF; rw [if_neg (by decide), if_pos rfl, e2, e1], fun fs2 hfs2 => ?_⟩
          obtain ⟨k1, k2, k3⟩ := hidx _ fs2 hfs2
          unfold chgF
          rw [if_neg (by decide), if_pos rfl, k2, k1, letters_again]
          exact k3
      have hgs : ∀ x ∈ chgF z N M fs, GF x := by rw [hch]; exact set_mem hg hgg
      have h0 : chgF z N M fs ≠ [] := by
        rw [hch]
        intro e
        have := congrArg List.length e
        simp at this
        exact okF_ne hok this
      obtain ⟨fs'', bd'', ⟨rfl, rfl⟩, rfl⟩ := app_again hgs h0 he h2
      rw [hch2 _ hch]
    · rw [if_neg hok] at h1
      subst h1
      unfold AppR at h2
      rw [hr] at h2
      simp only at h2
      rw [if_neg hok] at h2
      exact h2
theorem sameN_comm (a b : List UInt8) : sameN a b = sameN b a := by
  unfold sameN
  rw [decide_eq_decide]
  exact ⟨Eq.symm, Eq.symm⟩
/-- two that change places twice -/
theorem swap_twice {N M : Int} {b r r2 : List UInt8} (h1 : AppR (RF 7 N M) b r) (h2 : AppR (RF 7 N M) r r2) : r2 = b := by
  unfold AppR at h1
  cases hr : readG [] (fl b) with
  | none =>
    rw [hr] at h1
    simp only at h1
    subst h1
    unfold AppR at h2
    rw [hr] at h2
    exact h2
  | some p =>
    obtain ⟨fs, en, bd⟩ := p
    rw [hr] at h1
    simp only at h1
    by_cases hok : okF fs = true
    · rw [if_pos hok] at h1
      obtain ⟨fs', bd', ⟨rfl, rfl⟩, rfl⟩ := h1
      obtain ⟨hg, he⟩ := read_right hr hok
      have hbb := read_bytes hr
      obtain ⟨a, f, hf, e1, e2⟩ := picked (okF_ne hok) N
      have hch : chgF 7 N M fs = swapL fs a f := by unfold chgF; rw [if_neg (by decide), if_neg (by decide), if_neg (by decide), e2, e1]
      have hal : a < fs.length := (List.getElem?_eq_some_iff.1 hf).1
      have key : (∀ x ∈ swapL fs a f, GF x) ∧ chgF 7 N M (swapL fs a f) = fs := by
        have hlen := swapL_len fs a f
        have e3 : (N % ((swapL fs a f).length : Int)).toNat = a := by rw [hlen]; exact e1
        have hch2 : chgF 7 N M (swapL fs a f) = swapL (swapL fs a f) a ((swapL fs a f).getD a []) := by unfold chgF; rw [if_neg (by decide), if_neg (by decide), if_neg (by decide), e3]
        rw [hch2]
        unfold swapL
        cases hn : fs[a + 1]? with
        | none =>
          simp only [hn]
          exact ⟨hg, trivial⟩
        | some g =>
          simp only
          have hal1 : a + 1 < fs.length := (List.getElem?_eq_some_iff.1 hn).1
          by_cases hs : sameN (nameL f) (nameL g) = true
          · rw [if_pos hs]
            have e4 : fs.getD a [] = f := by rw [List.getD_eq_getElem?_getD, hf]; rfl
            simp only [hn, e4]
            rw [if_pos hs]
            exact ⟨hg, rfl⟩
          · rw [if_neg hs]
            have e4 : ((fs.set a g).set (a + 1) f).getD a [] = g := by
              rw [List.getD_eq_getElem?_getD, List.getElem?_set_ne (by omega), List.getElem?_set_self hal]
              rfl
            have e5 : ((fs.set a g).set (a + 1) f)[a + 1]? = some f := by rw [List.getElem?_set_self (by simpa using hal1)]
            rw [e4]
            simp only [e5]
            rw [sameN_comm, if_neg hs]
            refine ⟨set_mem (set_mem hg (hg g (List.mem_of_getElem? hn))) (hg f (List.mem_of_getElem? hf)), ?_⟩
            apply List.ext_getElem?
            intro j
            rw [List.getElem?_set, List.getElem?_set, List.getElem?_set, List.getElem?_set]
            simp only [List.length_set]
            by_cases h1 : a + 1 = j
            · subst h1
              rw [if_pos rfl, if_pos hal1, hn]
            · rw [if_neg h1]
              by_cases h2 : a = j
              · subst h2
                rw [if_pos rfl, if_pos hal, hf]
              · rw [if_neg h2, if_neg h1, if_neg h2]
      rw [hch] at h2
      have h0 : swapL fs a f ≠ [] := by
        intro e
        have := swapL_len fs a f
        rw [e] at this
        simp at this
        omega
      obtain ⟨fs'', bd'', ⟨rfl, rfl⟩, rfl⟩ := app_again key.1 h0 he h2
      rw [key.2]
      exact hbb
    · rw [if_neg hok] at h1
      subst h1
      unfold AppR at h2
      rw [hr] at h2
      simp only at h2
      rw [if_neg hok] at h2
      exact h2
/-- lines' ends made whole, folds, letters: twice is as once -/
theorem again_once {z N M : Int} {t b r r2 : List UInt8} (hz : z = 2 ∨ z = 3 ∨ z = 4) (h1 : AppZ z N M t b r) (h2 : AppZ z N M t r r2) : r = r2 := by
  unfold AppZ at h1 h2
  rcases hz with rfl | hz
  · simp at h1 h2
    rw [h2, h1, full_ok _ 0 (endsOk_full b 0)]
  · have g1 : z ≠ 1 := by omega
    have g2 : z ≠ 2 := by omega
    have g6 : z ≠ 6 := by omega
    have g8 : z ≠ 8 := by omega
    have gc : z = 3 ∨ z = 4 ∨ z = 5 ∨ z = 7 := by omega
    rw [if_neg g1, if_neg g2, if_neg g6, if_neg g8, if_pos gc] at h1 h2
    exact (chg_twice hz h1 h2).symm
theorem again_back {N M : Int} {t b r r2 : List UInt8} (h1 : AppZ 7 N M t b r) (h2 : AppZ 7 N M t r r2) : r2 = b := by
  unfold AppZ at h1 h2
  simp at h1 h2
  exact swap_twice h1 h2
theorem again_none {z N M : Int} {t b r : List UInt8} (hz : z ≠ 1 ∧ z ≠ 2 ∧ z ≠ 3 ∧ z ≠ 4 ∧ z ≠ 5 ∧ z ≠ 6 ∧ z ≠ 7 ∧ z ≠ 8) (h1 : AppZ z N M t b r) : r = b := by
  unfold AppZ at h1
  obtain ⟨z1, z2, z3, z4, z5, z6, z7, z8⟩ := hz
  rw [if_neg z1, if_neg z2, if_neg z6, if_neg z8, if_neg (by omega)] at h1
  exact h1
end Go.Proofs.YtcagkoakbdbbaaaGreatDoor

namespace Go.Proofs.YtcagkoakbdbbaaaGreatDoor
set_option linter.unusedVariables false
set_option linter.unusedSimpArgs false

theorem cutAt_lt {s : UInt8} {l a b : List UInt8} (h : cutAt s l = some (a, b)) : a.length + b.length + 1 = l.length := by
  rw [(cutAt_some h).1]
  simp
  omega
theorem deCr_len (l : List UInt8) : (deCr l).length ≤ l.length := by
  unfold deCr
  split
  · simp
  · omega

/-- what belongs to a value behind its first line, and what is behind that -/
def valGo (acc rest : List UInt8) : Option (List UInt8 × List UInt8) :=
  match rest with
  | [] => some (acc, [])
  | c :: r => if blk c then (match h : cutAt 10 (c :: r) with
      | none => none
      | some (a, b) => valGo (acc ++ deCr a) b) else some (acc, c :: r)
termination_by rest.length
decreasing_by
  have := cutAt_lt h
  omega
theorem valGo_nil (acc : List UInt8) : valGo acc [] = some (acc, []) := by rw [valGo]
theorem valGo_stop {acc r : List UInt8} {c : UInt8} (h : blk c = false) : valGo acc (c :: r) = some (acc, c :: r) := by
  rw [valGo]
  simp [h]
theorem valGo_none {acc r : List UInt8} {c : UInt8} (h : blk c = true) (hc : cutAt 10 (c :: r) = none) : valGo acc (c :: r) = none := by
  rw [valGo, if_pos h]
  split
  · rfl
  · rename_i h2
    rw [hc] at h2
    cases h2
theorem valGo_more {acc r a b : List UInt8} {c : UInt8} (h : blk c = true) (hc : cutAt 10 (c :: r) = some (a, b)) : valGo acc (c :: r) = valGo (acc ++ deCr a) b := by
  rw [valGo, if_pos h]
  split
  · rename_i h2
    rw [hc] at h2
    cases h2
  · rename_i h2
    rw [hc] at h2
    cases h2
    rfl

/-- one field more: its line, and what is behind -/
def fieldP (k : Nat) (line rest : List UInt8) : Except Nat ((List UInt8 × List UInt8) × List UInt8) :=
  match cutAt 58 line with
  | none => .error 3
  | some (nm, first) => if nmOk nm then (if k = 200 then .error 4 else
      match valGo first rest with
      | none => .error 3
      | some (v, b) => if 8192 < (trimB v).length then .error 4 else if (trimB v).all sgc then .ok ((nm, trimB v), b) else .error 3) else .error 3
theorem valGo_len : ∀ (n : Nat) (acc rest v b : List UInt8), rest.length ≤ n → valGo acc rest = some (v, b) → v.length + b.length ≤ acc.length + rest.length
  | n, acc, [], v, b, _, h => by
    rw [valGo_nil] at h
    cases h
    simp
  | 0, acc, c :: r, v, b, hn, h => by simp at hn
  | n + 1, acc, c :: r, v, b, hn, h => by
    by_cases hb : blk c = true
    · cases hc : cutAt 10 (c :: r) with
      | none => rw [valGo_none hb hc] at h; cases h
      | some p =>
        obtain ⟨a, b'⟩ := p
        rw [valGo_more hb hc] at h
        have h1 := cutAt_lt hc
        have h2 := valGo_len n _ _ _ _ (by simp at hn h1; omega) h
        have h3 := deCr_len a
        simp only [List.length_append] at h2
        omega
    · rw [valGo_stop (by simpa using hb)] at h
      cases h
      omega
theorem valGo_rest {acc rest v b : List UInt8} (h : valGo acc rest = some (v, b)) : b.length ≤ rest.length := by
  have key : ∀ (n : Nat) (acc rest v b : List UInt8), rest.length ≤ n → valGo acc rest = some (v, b) → b.length ≤ rest.length := by
    intro n
    induction n with
    | zero =>
      intro acc rest v b hn h
      have : rest = [] := List.eq_nil_of_length_eq_zero (by omega)
      subst this
      rw [valGo_nil] at h
      cases h
      omega
    | succ n ih =>
      intro acc rest v b hn h
      match rest with
      | [] =>
        rw [valGo_nil] at h
        cases h
        omega
      | c :: r =>
        by_cases hb : blk c = true
        · cases hc : cutAt 10 (c :: r) with
          | none => rw [valGo_none hb hc] at h; cases h
          | some p =>
            obtain ⟨a, b'⟩ := p
            rw [valGo_more hb hc] at h
            have h1 := cutAt_lt hc
            have := ih _ _ _ _ (by simp at hn h1; omega) h
            omega
        · rw [valGo_stop (by simpa using hb)] at h
          cases h
          omega
  exact key _ _ _ _ _ (Nat.le_refl _) h
theorem fieldP_rest {k : Nat} {line rest b : List UInt8} {f : List UInt8 × List UInt8} (h : fieldP k line rest = .ok (f, b)) : b.length ≤ rest.length := by
  unfold fieldP at h
  split at h
  · cases h
  · split at h
    · split at h
      · cases h
      · split at h
        · cases h
        · rename_i hv
          split at h
          · cases h
          · split at h
            · cases h
              exact valGo_rest hv
            · cases h
    · cases h
/-- the fields, one by one -/
def readGo (fs : List (List UInt8 × List UInt8)) (rest : List UInt8) : Except Nat (List (List UInt8 × List UInt8) × List UInt8) :=
  match h : cutAt 10 rest with
  | none => .error 3
  | some (a, b) => if deCr a = [] then .ok (fs, b) else
      match h2 : fieldP fs.length (deCr a) b with
      | .error e => .error e
      | .ok (f, b') => readGo (fs ++ [f]) b'
termination_by rest.length
decreasing_by
  have h1 := cutAt_lt h
  have h3 := fieldP_rest h2
  omega
theorem readGo_none {fs : List (List UInt8 × List UInt8)} {rest : List UInt8} (h : cutAt 10 rest = none) : readGo fs rest = .error 3 := by
  rw [readGo]
  split
  · rfl
  · rename_i h2
    rw [h] at h2
    cases h2
theorem readGo_end {fs : List (List UInt8 × List UInt8)} {rest a b : List UInt8} (h : cutAt 10 rest = some (a, b)) (ha : deCr a = []) : readGo fs rest = .ok (fs, b) := by
  rw [readGo]
  split
  · rename_i h2
    rw [h] at h2
    cases h2
  · rename_i h2
    rw [h] at h2
    cases h2
    rw [if_pos ha]
theorem readGo_err {fs : List (List UInt8 × List UInt8)} {rest a b : List UInt8} {e : Nat} (h : cutAt 10 rest = some (a, b)) (ha : deCr a ≠ []) (hf : fieldP fs.length (deCr a) b = .error e) : readGo fs rest = .error e := by
  rw [readGo]
  split
  · rename_i h2
    rw [h] at h2
    cases h2
  · rename_i h2
    rw [h] at h2
    cases h2
    rw [if_neg ha]
    split
    · rename_i h3
      rw [hf] at h3
      cases h3
      rfl
    · rename_i h3
      rw [hf] at h3
      cases h3
theorem readGo_ok {fs : List (List UInt8 × List UInt8)} {rest a b b' : List UInt8} {f : List UInt8 × List UInt8} (h : cutAt 10 rest = some (a, b)) (ha : deCr a ≠ []) (hf : fieldP fs.length (deCr a) b = .ok (f, b')) : readGo fs rest = readGo (fs ++ [f]) b' := by
  rw [readGo]
  split
  · rename_i h2
    rw [h] at h2
    cases h2
  · rename_i h2
    rw [h] at h2
    cases h2
    rw [if_neg ha]
    split
    · rename_i h3
      rw [hf] at h3
      cases h3
    · rename_i h3
      rw [hf] at h3
      cases h3
      rfl
end Go.Proofs.YtcagkoakbdbbaaaGreatDoor
