/- A head that is read, in plain words. -/
import Derived.Test.YtgohdohkikkeeaaDoorL1
namespace Go.Proofs.YtgohdohkikkeeaaDoor
set_option linter.unusedVariables false
set_option linter.unusedSimpArgs false

theorem cutAt_lt {s : UInt8} {l a b : List UInt8} (h : cutAt s l = some (a, b)) : a.length + b.length + 1 = l.length := by
  rw [(cutAt_some h).1]
  simp
  omega
theorem deCr_len (l : List UInt8) : (deCr l).length ≤ l.length := by
  unfold deCr
  split
  · simp
  · omega

/-- what belongs to a value behind its first line, and what is behind that -/
def valGo (acc rest : List UInt8) : Option (List UInt8 × List UInt8) :=
  match rest with
  | [] => some (acc, [])
  | c :: r => if blk c then (match h : cutAt 10 (c :: r) with
      | none => none
      | some (a, b) => valGo (acc ++ deCr a) b) else some (acc, c :: r)
termination_by rest.length
decreasing_by
  have := cutAt_lt h
  omega
theorem valGo_nil (acc : List UInt8) : valGo acc [] = some (acc, []) := by rw [valGo]
theorem valGo_stop {acc r : List UInt8} {c : UInt8} (h : blk c = false) : valGo acc (c :: r) = some (acc, c :: r) := by
  rw [valGo]
  simp [h]
theorem valGo_none {acc r : List UInt8} {c : UInt8} (h : blk c = true) (hc : cutAt 10 (c :: r) = none) : valGo acc (c :: r) = none := by
  rw [valGo, if_pos h]
  split
  · rfl
  · rename_i h2
    rw [hc] at h2
    cases h2
theorem valGo_more {acc r a b : List UInt8} {c : UInt8} (h : blk c = true) (hc : cutAt 10 (c :: r) = some (a, b)) : valGo acc (c :: r) = valGo (acc ++ deCr a) b := by
  rw [valGo, if_pos h]
  split
  · rename_i h2
    rw [hc] at h2
    cases h2
  · rename_i h2
    rw [hc] at h2
    cases h2
    rfl

/-- one field more: its line, and what is behind -/
def fieldP (k : Nat) (line rest : List UInt8) : Except Nat ((List UInt8 × List UInt8) × List UInt8) :=
  match cutAt 58 line with
  | none => .error 3
  | some (nm, first) => if nmOk nm then (if k = 200 then .error 4 else
      match valGo first rest with
      | none => .error 3
      | some (v, b) => if 8192 < (trimB v).length then .error 4 else if (trimB v).all sgc then .ok ((nm, trimB v), b) else .error 3) else .error 3
theorem valGo_len : ∀ (n : Nat) (acc rest v b : List UInt8), rest.length ≤ n → valGo acc rest = some (v, b) → v.length + b.length ≤ acc.length + rest.length
  | n, acc, [], v, b, _, h => by
    rw [valGo_nil] at h
    cases h
    simp
  | 0, acc, c :: r, v, b, hn, h => by simp at hn
  | n + 1, acc, c :: r, v, b, hn, h => by
    by_cases hb : blk c = true
    · cases hc : cutAt 10 (c :: r) with
      | none => rw [valGo_none hb hc] at h; cases h
      | some p =>
        obtain ⟨a, b'⟩ := p
        rw [valGo_more hb hc] at h
        have h1 := cutAt_lt hc
        have h2 := valGo_len n _ _ _ _ (by simp at hn h1; omega) h
        have h3 := deCr_len a
        simp only [List.length_append] at h2
        omega
    · rw [valGo_stop (by simpa using hb)] at h
      cases h
      omega
theorem valGo_rest {acc rest v b : List UInt8} (h : valGo acc rest = some (v, b)) : b.length ≤ rest.length := by
  have key : ∀ (n : Nat) (acc rest v b : List UInt8), rest.length ≤ n → valGo acc rest = some (v, b) → b.length ≤ rest.length := by
    intro n
    induction n with
    | zero =>
      intro acc rest v b hn h
      have : rest = [] := List.eq_nil_of_length_eq_zero (by omega)
      subst this
      rw [valGo_nil] at h
      cases h
      omega
    | succ n ih =>
      intro acc rest v b hn h
      match rest with
      | [] =>
        rw [valGo_nil] at h
        cases h
        omega
      | c :: r =>
        by_cases hb : blk c = true
        · cases hc : cutAt 10 (c :: r) with
          | none => rw [valGo_none hb hc] at h; cases h
          | some p =>
            obtain ⟨a, b'⟩ := p
            rw [valGo_more hb hc] at h
            have h1 := cutAt_lt hc
            have := ih _ _ _ _ (by simp at hn h1; omega) h
            omega
        · rw [valGo_stop (by simpa using hb)] at h
          cases h
          omega
  exact key _ _ _ _ _ (Nat.le_refl _) h
theorem fieldP_rest {k : Nat} {line rest b : List UInt8} {f : List UInt8 × List UInt8} (h : fieldP k line rest = .ok (f, b)) : b.length ≤ rest.length := by
  unfold fieldP at h
  split at h
  · cases h
  · split at h
    · split at h
      · cases h
      · split at h
        · cases h
        · rename_i hv
          split at h
          · cases h
          · split at h
            · cases h
              exact valGo_rest hv
            · cases h
    · cases h
/-- the fields, one by one -/
def readGo (fs : List (List UInt8 × List UInt8)) (rest : List UInt8) : Except Nat (List (List UInt8 × List UInt8) × List UInt8) :=
  match h : cutAt 10 rest with
  | none => .error 3
  | some (a, b) => if deCr a = [] then .ok (fs, b) else
      match h2 : fieldP fs.length (deCr a) b with
      | .error e => .error e
      | .ok (f, b') => readGo (fs ++ [f]) b'
termination_by rest.length
decreasing_by
  have h1 := cutAt_lt h
  have h3 := fieldP_rest h2
  omega
theorem readGo_none {fs : List (List UInt8 × List UInt8)} {rest : List UInt8} (h : cutAt 10 rest = none) : readGo fs rest = .error 3 := by
  rw [readGo]
  split
  · rfl
  · rename_i h2
    rw [h] at h2
    cases h2
theorem readGo_end {fs : List (List UInt8 × List UInt8)} {rest a b : List UInt8} (h : cutAt 10 rest = some (a, b)) (ha : deCr a = []) : readGo fs rest = .ok (fs, b) := by
  rw [readGo]
  split
  · rename_i h2
    rw [h] at h2
    cases h2
  · rename_i h2
    rw [h] at h2
    cases h2
    rw [if_pos ha]
theorem readGo_err {fs : List (List UInt8 × List UInt8)} {rest a b : List UInt8} {e : Nat} (h : cutAt 10 rest = some (a, b)) (ha : deCr a ≠ []) (hf : fieldP fs.length (deCr a) b = .error e) : readGo fs rest = .error e := by
  rw [readGo]
  split
  · rename_i h2
    rw [h] at h2
    cases h2
  · rename_i h2
    rw [h] at h2
    cases h2
    rw [if_neg ha]
    split
    · rename_i h3
      rw [hf] at h3
      cases h3
      rfl
    · rename_i h3
      rw [hf] at h3
      cases h3
theorem readGo_ok {fs : List (List UInt8 × List UInt8)} {rest a b b' : List UInt8} {f : List UInt8 × List UInt8} (h : cutAt 10 rest = some (a, b)) (ha : deCr a ≠ []) (hf : fieldP fs.length (deCr a) b = .ok (f, b')) : readGo fs rest = readGo (fs ++ [f]) b' := by
  rw [readGo]
  split
  · rename_i h2
    rw [h] at h2
    cases h2
  · rename_i h2
    rw [h] at h2
    cases h2
    rw [if_neg ha]
    split
    · rename_i h3
      rw [hf] at h3
      cases h3
    · rename_i h3
      rw [hf] at h3
      cases h3
      rfl
end Go.Proofs.YtgohdohkikkeeaaDoor
