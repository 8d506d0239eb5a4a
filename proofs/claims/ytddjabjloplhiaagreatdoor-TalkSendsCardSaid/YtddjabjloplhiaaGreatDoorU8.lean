/- A kind and parameters: the program's Params. -/
import Derived.Test.YtddjabjloplhiaaGreatDoorU7
import Derived.Test.YtddjabjloplhiaaGreatDoorSl
namespace Go.Proofs.YtddjabjloplhiaaGreatDoor
set_option linter.unusedVariables false
set_option linter.unusedSimpArgs false
open Go.RowKit

/-- parameters as cells -/
def pcells (ms : List (List UInt8 × List UInt8)) : List Value := ms.flatMap fun p => [sv p.1, sv p.2]
theorem pcells_len (ms : List (List UInt8 × List UInt8)) : (pcells ms).length = ms.length * 2 := by
  induction ms with
  | nil => rfl
  | cons p ms ih =>
    have : pcells (p :: ms) = sv p.1 :: sv p.2 :: pcells ms := rfl
    rw [this]
    simp [ih]
    omega
theorem pcells_snoc (ms : List (List UInt8 × List UInt8)) (p : List UInt8 × List UInt8) : pcells (ms ++ [p]) = pcells ms ++ [sv p.1, sv p.2] := by simp [pcells]


theorem semP_len : ∀ (n : Nat) (l : List UInt8) (ps : List (List UInt8)), l.length ≤ n → semP l = some ps → (∀ p ∈ ps, p.length ≤ l.length) ∧ ps.length ≤ l.length + 1
  | _, [], ps, _, h => by
    have : ps = [[]] := by simpa [semP, semN, eq_comm] using h
    simp [this]
  | 0, c :: r, _, hl, _ => by simp at hl
  | n + 1, c :: r, ps, hl, h => by
    simp only [List.length_cons] at hl
    have key : ∀ (a t : List UInt8) (qs : List (List UInt8)), semP t = some qs → t.length ≤ n → (∀ p ∈ pre a qs, p.length ≤ a.length + t.length) ∧ (pre a qs).length ≤ t.length + 1 := by
      intro a t qs hq ht
      obtain ⟨h1, h2⟩ := semP_len n t qs ht hq
      cases qs with
      | nil => exact absurd rfl (semP_ne hq)
      | cons q qs =>
        refine ⟨fun p hp => ?_, by simpa [pre] using h2⟩
        rcases List.mem_cons.1 hp with rfl | hp
        · have := h1 q (by simp)
          simp
          omega
        · have := h1 p (by simp [hp])
          omega
    rw [semP_cons] at h
    split at h
    · cases hg : qGo r with
      | none => rw [hg] at h; cases h
      | some x =>
        obtain ⟨a, t⟩ := x
        rw [hg] at h
        simp only at h
        rw [Option.map_eq_some_iff] at h
        obtain ⟨qs, hq, rfl⟩ := h
        have h1 := congrArg List.length (qGo_len _ _ _ _ (Nat.le_refl _) hg).1
        simp at h1
        obtain ⟨k1, k2⟩ := key (34 :: a) t qs hq (by omega)
        refine ⟨fun p hp => ?_, ?_⟩
        · have := k1 p hp
          simp at this ⊢
          omega
        · simp only [List.length_cons]
          omega
    · split at h
      · rw [Option.map_eq_some_iff] at h
        obtain ⟨qs, hq, rfl⟩ := h
        obtain ⟨h1, h2⟩ := semP_len n r qs (by omega) hq
        refine ⟨fun p hp => ?_, by simp; omega⟩
        rcases List.mem_cons.1 hp with rfl | hp
        · simp
        · have := h1 p hp
          simp
          omega
      · rw [Option.map_eq_some_iff] at h
        obtain ⟨qs, hq, rfl⟩ := h
        obtain ⟨k1, k2⟩ := key [c] r qs hq (by omega)
        refine ⟨fun p hp => ?_, ?_⟩
        · have := k1 p hp
          simp at this ⊢
          omega
        · simp only [List.length_cons]
          omega
/-- a parameter as the loop tells it: name, value, found, right -/
def partR (p : List UInt8) : List UInt8 × List UInt8 × Bool × Bool := match quoP (trimB (cutV 61 p).2.1) with
  | some u => (trimB (cutV 61 p).1, u, (cutV 61 p).2.2, valB u)
  | none => (trimB (cutV 61 p).1, trimB (cutV 61 p).2.1, (cutV 61 p).2.2, onlyB loc' (trimB (cutV 61 p).2.1))
theorem partV_R (p : List UInt8) : partV p = ((partR p).1.map small, (partR p).2.1, (partR p).2.2.1 && (partR p).2.2.2 && atomB (partR p).1) := by
  unfold partV partR cutV
  cases cutAt 61 p with
  | none => rfl
  | some x =>
    obtain ⟨a, b⟩ := x
    simp only
    cases quoP (trimB b) <;> simp
theorem cutV_len (s : UInt8) (l : List UInt8) : (cutV s l).1.length ≤ l.length ∧ (cutV s l).2.1.length ≤ l.length := by
  unfold cutV
  cases h : cutAt s l with
  | none => simp
  | some x =>
    obtain ⟨a, b⟩ := x
    have := cutAt_len h
    simp only
    omega
theorem quoOut_one {r : Option Nat} {e : Ending} (h : QuoOut r e) : ∃ (n : Nat) (wh : Bool), e = .returned (.tuple #[.int .i64 (n : Int), .bool wh]) ∧ r = if wh then some n else none := by
  rcases quoOut_elim h with ⟨n, h1, h2⟩ | ⟨h1, h2⟩
  · exact ⟨n, true, h2, h1⟩
  · exact ⟨0, false, h2, h1⟩
theorem quoP_cases (t : List UInt8) : (Lib.hasPrefix t [34] = false ∧ quoP t = none) ∨ (Lib.hasPrefix t [34] = true ∧ quoAt t 1 = none ∧ quoP t = none) ∨
    (Lib.hasPrefix t [34] = true ∧ ∃ n, quoAt t 1 = some n ∧ n ≠ t.length ∧ quoP t = none) ∨
    (Lib.hasPrefix t [34] = true ∧ quoAt t 1 = some t.length ∧ quoP t = some (unq (t.drop 1)) ∧ QAt t 1) := by
  cases t with
  | nil => exact .inl ⟨rfl, rfl⟩
  | cons c r =>
    by_cases hc : c = 34
    · have hp : Lib.hasPrefix (c :: r) [34] = true := by rw [hc]; simp [Lib.hasPrefix, List.isPrefixOf]
      right
      cases hg : qGo r with
      | none =>
        left
        refine ⟨hp, by unfold quoAt; rw [List.drop_one, List.tail_cons, hg]; rfl, ?_⟩
        unfold quoP
        simp only
        rw [if_pos hc, hg]
      | some x =>
        obtain ⟨a, u⟩ := x
        have hu := congrArg List.length (qGo_len _ _ _ _ (Nat.le_refl _) hg).1
        rw [List.length_append] at hu
        have hn : quoAt (c :: r) 1 = some (1 + a.length) := by unfold quoAt; rw [List.drop_one, List.tail_cons, hg]; rfl
        right
        cases u with
        | nil =>
          right
          have ha : r = a := by simpa using (qGo_len _ _ _ _ (Nat.le_refl _) hg).1
          refine ⟨hp, ?_, ?_, ?_⟩
          · rw [hn, List.length_cons, hu, List.length_nil]
            congr 1
            omega
          · unfold quoP
            simp only
            rw [if_pos hc, hg]
            simp only
            rw [List.drop_one, List.tail_cons, ← ha]
          · unfold QAt
            rw [List.drop_one, List.tail_cons, hg, ← ha]
        | cons y u =>
          left
          refine ⟨hp, _, hn, ?_, ?_⟩
          · rw [List.length_cons, hu, List.length_cons]
            omega
          · unfold quoP
            simp only
            rw [if_pos hc, hg]
    · left
      refine ⟨?_, ?_⟩
      · have : ((34 : UInt8) == c) = false := by rw [beq_eq_false_iff_ne]; exact Ne.symm hc
        simp [Lib.hasPrefix, List.isPrefixOf, this]
      · unfold quoP
        simp only
        rw [if_neg hc]
theorem hpre_any (l : List UInt8) (s : UInt8) (w : World) :
    Calls Tryz.prog 41 #[.string (bs l), .string ⟨#[s]⟩] w fun e w' => e = .returned (.bool (Lib.hasPrefix l [s])) ∧ w' = w := by
  have h := Tryz.strings_HasPrefix (bs l) ⟨#[s]⟩ w
  rw [bs_toList] at h
  exact h




/-- name and value of a piece -/
def nv (p : List UInt8) : List UInt8 × List UInt8 := ((partV p).1, (partV p).2.1)
def third (p : List UInt8) : Bool := (partV p).2.2


end Go.Proofs.YtddjabjloplhiaaGreatDoor
