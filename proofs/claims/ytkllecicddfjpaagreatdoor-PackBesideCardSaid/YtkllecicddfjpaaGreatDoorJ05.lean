/- A value without its comments, in plain words: by pieces, and sign by sign: one. Nothing of the program. · Names, values, in plain words. Nothing of the program. -/
import Derived.Test.YtkllecicddfjpaaGreatDoorJ01
import Derived.Test.YtkllecicddfjpaaGreatDoorJ02
namespace Go.Proofs.YtkllecicddfjpaaGreatDoor
namespace Tk
set_option linter.unusedVariables false
set_option linter.unusedSimpArgs false

/-- behind a comment's beginning, so deep: what is behind its end -/
def cmtGo : Nat → List UInt8 → Except Nat (List UInt8)
  | _, [] => .error 3
  | d, c :: r =>
    if c = 92 then (match r with | [] => .error 3 | _ :: r' => cmtGo d r')
    else if c = 40 then (if 9 < d + 1 then .error 5 else cmtGo (d + 1) r)
    else if c = 41 then (if d = 1 then .ok r else cmtGo (d - 1) r)
    else cmtGo d r
/-- behind a quotation's beginning: the rest of it, and what is behind -/
def qGo : List UInt8 → Option (List UInt8 × List UInt8)
  | [] => none
  | c :: r =>
    if c = 92 then (match r with | [] => none | x :: r' => (qGo r').map fun p => (92 :: x :: p.1, p.2))
    else if c = 34 then some ([34], r)
    else (qGo r).map fun p => (c :: p.1, p.2)
theorem cmtGo_len : ∀ (n : Nat) (l : List UInt8) (d : Nat) (r : List UInt8), l.length ≤ n → cmtGo d l = .ok r → r.length < l.length
  | 0, [], _, _, _, h => by simp [cmtGo] at h
  | n + 1, [], _, _, _, h => by simp [cmtGo] at h
  | n + 1, c :: l, d, r, hl, h => by
    simp only [List.length_cons] at hl
    rw [cmtGo.eq_def] at h
    simp only at h
    split at h
    · split at h
      · cases h
      · rename_i x r' 
        have := cmtGo_len n r' d r (by simp at hl; omega) h
        simp
        omega
    · split at h
      · split at h
        · cases h
        · have := cmtGo_len n l (d + 1) r (by omega) h
          simp
          omega
      · split at h
        · split at h
          · cases h
            simp
          · have := cmtGo_len n l (d - 1) r (by omega) h
            simp
            omega
        · have := cmtGo_len n l d r (by omega) h
          simp
          omega
theorem qGo_len : ∀ (n : Nat) (l a b : List UInt8), l.length ≤ n → qGo l = some (a, b) → l = a ++ b ∧ 0 < a.length
  | 0, [], _, _, _, h => by simp [qGo] at h
  | n + 1, [], _, _, _, h => by simp [qGo] at h
  | n + 1, c :: l, a, b, hl, h => by
    simp only [List.length_cons] at hl
    rw [qGo.eq_def] at h
    simp only at h
    split at h
    · rename_i hc
      split at h
      · cases h
      · rename_i x r'
        rw [Option.map_eq_some_iff] at h
        obtain ⟨⟨a', b'⟩, h1, h2⟩ := h
        cases h2
        have := (qGo_len n r' a' b' (by simp at hl; omega) h1).1
        rw [this, hc]
        simp
    · split at h
      · rename_i hc
        cases h
        rw [hc]
        simp
      · rw [Option.map_eq_some_iff] at h
        obtain ⟨⟨a', b'⟩, h1, h2⟩ := h
        cases h2
        have := (qGo_len n l a' b' (by omega) h1).1
        rw [this]
        simp
/-- without its comments; so much fuel as there are bytes is enough -/
def bareN : Nat → List UInt8 → Except Nat (List UInt8)
  | _, [] => .ok []
  | 0, _ => .ok []
  | n + 1, c :: r =>
    if c = 40 then (match cmtGo 1 r with | .error e => .error e | .ok t => (bareN n t).map fun o => 32 :: o)
    else if c = 34 then (match qGo r with | none => .error 3 | some (a, t) => (bareN n t).map fun o => 34 :: (a ++ o))
    else if c = 41 then .error 3
    else (bareN n r).map fun o => c :: o
def bareP (l : List UInt8) : Except Nat (List UInt8) := bareN l.length l
theorem bareN_fuel : ∀ (n m : Nat) (l : List UInt8), l.length ≤ n → l.length ≤ m → bareN n l = bareN m l
  | n, m, [], _, _ => by cases n <;> cases m <;> rfl
  | n + 1, m + 1, c :: r, hn, hm => by
    simp only [List.length_cons] at hn hm
    have ih : ∀ t : List UInt8, t.length ≤ r.length → bareN n t = bareN m t := fun t ht => bareN_fuel n m t (by omega) (by omega)
    rw [bareN, bareN]
    split
    · cases h : cmtGo 1 r with
      | error e => rfl
      | ok t =>
        have := cmtGo_len r.length r 1 t (Nat.le_refl _) h
        simp only
        rw [ih t (by omega)]
    · split
      · cases h : qGo r with
        | none => rfl
        | some p =>
          obtain ⟨a, t⟩ := p
          have := (qGo_len r.length r a t (Nat.le_refl _) h).1
          have hl : t.length ≤ r.length := by rw [this]; simp
          simp only
          rw [ih t hl]
      · split
        · rfl
        · rw [ih r (Nat.le_refl _)]
  | 0, _, c :: r, hn, _ => by simp at hn
  | _ + 1, 0, c :: r, _, hm => by simp at hm
theorem bareP_cons (c : UInt8) (r : List UInt8) : bareP (c :: r) =
    if c = 40 then (match cmtGo 1 r with | .error e => .error e | .ok t => (bareP t).map fun o => 32 :: o)
    else if c = 34 then (match qGo r with | none => .error 3 | some (a, t) => (bareP t).map fun o => 34 :: (a ++ o))
    else if c = 41 then .error 3
    else (bareP r).map fun o => c :: o := by
  show bareN (r.length + 1) (c :: r) = _
  rw [bareN]
  split
  · cases h : cmtGo 1 r with
    | error e => rfl
    | ok t =>
      have := cmtGo_len r.length r 1 t (Nat.le_refl _) h
      simp only
      rw [bareN_fuel r.length t.length t (by omega) (Nat.le_refl _)]
      rfl
  · split
    · cases h : qGo r with
      | none => rfl
      | some p =>
        obtain ⟨a, t⟩ := p
        have := (qGo_len r.length r a t (Nat.le_refl _) h).1
        have hl : t.length ≤ r.length := by rw [this]; simp
        simp only
        rw [bareN_fuel r.length t.length t hl (Nat.le_refl _)]
        rfl
    · rfl

/-- sign by sign: so deep, inside of a quotation or not, what is told so far -/
def signGo : Nat → Bool → List UInt8 → List UInt8 → Except Nat (List UInt8)
  | d, ins, o, [] => if 0 < d ∨ ins = true then .error 3 else .ok o
  | d, ins, o, c :: r =>
    if c = 92 ∧ (0 < d ∨ ins = true) then (match r with | [] => (if ins then signGo d ins (o ++ [92]) [] else signGo d ins o []) | x :: r' => (if ins then signGo d ins (o ++ [92, x]) r' else signGo d ins o r'))
    else if ins then signGo d (c != 34) (o ++ [c]) r
    else if c = 40 then (if 9 < d + 1 then .error 5 else signGo (d + 1) false o r)
    else if c = 41 then (if d = 0 then .error 3 else if d = 1 then signGo 0 false (o ++ [32]) r else signGo (d - 1) false o r)
    else if d = 0 then signGo 0 (c == 34) (o ++ [c]) r
    else signGo d false o r
theorem signGo_q : ∀ (n : Nat) (l o : List UInt8), l.length ≤ n → signGo 0 true o l = match qGo l with | none => .error 3 | some (a, t) => signGo 0 false (o ++ a) t
  | 0, [], o, _ => by simp [signGo, qGo]
  | n + 1, [], o, _ => by simp [signGo, qGo]
  | n + 1, c :: r, o, hl => by
    simp only [List.length_cons] at hl
    rw [signGo.eq_def, qGo.eq_def]
    simp only
    by_cases h1 : c = 92
    · subst h1
      simp only [true_and, or_true, if_true]
      cases r with
      | nil => simp [signGo]
      | cons x r' =>
        simp only
        rw [signGo_q n r' (o ++ [92, x]) (by simp at hl; omega)]
        cases h : qGo r' with
        | none => rfl
        | some p => simp
    · rw [if_neg (by simp [h1]), if_pos trivial, if_neg h1]
      by_cases h2 : c = 34
      · subst h2
        simp
      · have h3 : (c != 34) = true := by simp [h2]
        rw [if_neg h2, h3, signGo_q n r (o ++ [c]) (by omega)]
        cases h : qGo r with
        | none => rfl
        | some p => simp
theorem signGo_c : ∀ (n : Nat) (l o : List UInt8) (d : Nat), l.length ≤ n → 1 ≤ d → signGo d false o l = match cmtGo d l with | .error e => .error e | .ok t => signGo 0 false (o ++ [32]) t
  | 0, [], o, d, _, hd => by simp [signGo, cmtGo]; omega
  | n + 1, [], o, d, _, hd => by simp [signGo, cmtGo]; omega
  | n + 1, c :: r, o, d, hl, hd => by
    simp only [List.length_cons] at hl
    rw [signGo.eq_def, cmtGo.eq_def]
    simp only
    by_cases h1 : c = 92
    · subst h1
      rw [if_pos ⟨rfl, .inl (by omega)⟩, if_pos rfl]
      cases r with
      | nil => simp [signGo]; omega
      | cons x r' =>
        simp only [Bool.false_eq_true, if_false]
        exact signGo_c n r' o d (by simp at hl; omega) hd
    · rw [if_neg (by simp [h1]), if_neg (by simp), if_neg h1]
      by_cases h2 : c = 40
      · rw [if_pos h2, if_pos h2]
        by_cases h3 : 9 < d + 1
        · rw [if_pos h3, if_pos h3]
        · rw [if_neg h3, if_neg h3]
          exact signGo_c n r o (d + 1) (by omega) (by omega)
      · rw [if_neg h2, if_neg h2]
        by_cases h3 : c = 41
        · rw [if_pos h3, if_pos h3, if_neg (by omega : ¬ d = 0)]
          by_cases h4 : d = 1
          · rw [if_pos h4, if_pos h4]
          · rw [if_neg h4, if_neg h4]
            exact signGo_c n r o (d - 1) (by omega) (by omega)
        · rw [if_neg h3, if_neg h3, if_neg (by omega : ¬ d = 0)]
          exact signGo_c n r o d (by omega) hd
/-- sign by sign it is the same -/
theorem signGo_eq : ∀ (n : Nat) (l o : List UInt8), l.length ≤ n → signGo 0 false o l = (bareP l).map fun p => o ++ p
  | 0, [], o, _ => by simp [signGo, bareP, bareN, Except.map]
  | n + 1, [], o, _ => by simp [signGo, bareP, bareN, Except.map]
  | n + 1, c :: r, o, hl => by
    simp only [List.length_cons] at hl
    rw [signGo.eq_def, bareP_cons]
    simp only
    rw [if_neg (by simp), if_neg (by simp)]
    by_cases h1 : c = 40
    · rw [if_pos h1, if_pos h1, if_neg (by omega), signGo_c n r o 1 (by omega) (by omega)]
      cases h : cmtGo 1 r with
      | error e => rfl
      | ok t =>
        have := cmtGo_len r.length r 1 t (Nat.le_refl _) h
        simp only
        rw [signGo_eq n t (o ++ [32]) (by omega)]
        cases bareP t <;> simp [Except.map]
    · rw [if_neg h1, if_neg h1]
      by_cases h2 : c = 34
      · subst h2
        rw [if_neg (by decide), if_pos trivial, if_pos rfl]
        rw [show ((34 : UInt8) == 34) = true by decide, signGo_q n r (o ++ [34]) (by omega)]
        cases h : qGo r with
        | none => rfl
        | some p =>
          obtain ⟨a, t⟩ := p
          have := (qGo_len r.length r a t (Nat.le_refl _) h).1
          have hl2 : t.length ≤ r.length := by rw [this]; simp
          simp only
          rw [signGo_eq n t (o ++ [34] ++ a) (by omega)]
          cases bareP t <;> simp [Except.map]
      · by_cases h3 : c = 41
        · rw [if_pos h3, if_pos trivial, if_neg h2, if_pos h3]
          rfl
        · have h4 : (c == 34) = false := by simp [h2]
          rw [if_neg h3, if_pos trivial, if_neg h2, if_neg h3, h4, signGo_eq n r (o ++ [c]) (by omega)]
          cases bareP r <;> simp [Except.map]
theorem sign_bare (l : List UInt8) : signGo 0 false [] l = bareP l := by
  rw [signGo_eq l.length l [] (Nat.le_refl _)]
  cases bareP l <;> simp [Except.map]
end Tk
end Go.Proofs.YtkllecicddfjpaaGreatDoor

namespace Go.Proofs.YtkllecicddfjpaaGreatDoor
set_option linter.unusedVariables false
set_option linter.unusedSimpArgs false

/-- a blank -/
def blk (c : UInt8) : Bool := c == 32 || c == 9
/-- a sign of a name -/
def nmc (c : UInt8) : Bool := decide (33 ≤ c.toNat) && decide (c.toNat ≤ 126) && c != 58
/-- may it be a name? -/
def nmOk (l : List UInt8) : Bool := l.all nmc && decide (1 ≤ l.length ∧ l.length ≤ 64)
/-- a sign of a value -/
def sgc (c : UInt8) : Bool := c == 9 || (decide (32 ≤ c.toNat) && decide (c.toNat ≤ 126))
/-- no blank at the ends -/
def edges (l : List UInt8) : Bool := l.head?.all (fun c => !blk c) && l.getLast?.all (fun c => !blk c)
/-- may it be a value? -/
def vlOk (l : List UInt8) : Bool := l.all sgc && decide (l.length ≤ 8192) && edges l
/-- a small letter -/
def small (c : UInt8) : UInt8 := if 65 ≤ c.toNat ∧ c.toNat ≤ 90 then c + 32 else c
/-- are two names one? -/
def sameN (a b : List UInt8) : Bool := decide (a.map small = b.map small)

theorem blk_cases (c : UInt8) : (blk c = true ∧ ((c.toNat : Int) = 32 ∨ ((c.toNat : Int) ≠ 32 ∧ (c.toNat : Int) = 9))) ∨ (blk c = false ∧ (c.toNat : Int) ≠ 32 ∧ (c.toNat : Int) ≠ 9) := by
  have e : blk c = (decide (c.toNat = 32) || decide (c.toNat = 9)) := by
    unfold blk
    rw [Bool.eq_iff_iff]
    simp [← UInt8.toNat_inj]
  rw [e]
  by_cases h1 : c.toNat = 32 <;> by_cases h2 : c.toNat = 9 <;> simp [h1, h2] <;> omega
theorem blk_iff (c : UInt8) : blk c = true ↔ c.toNat = 32 ∨ c.toNat = 9 := by
  unfold blk
  simp [← UInt8.toNat_inj]
theorem nmc_iff (c : UInt8) : nmc c = true ↔ 33 ≤ c.toNat ∧ c.toNat ≤ 126 ∧ c.toNat ≠ 58 := by
  unfold nmc
  simp [← UInt8.toNat_inj, and_assoc]
theorem sgc_iff (c : UInt8) : sgc c = true ↔ c.toNat = 9 ∨ (32 ≤ c.toNat ∧ c.toNat ≤ 126) := by
  unfold sgc
  simp [← UInt8.toNat_inj]
theorem small_nat (c : UInt8) : (small c).toNat = if 65 ≤ c.toNat ∧ c.toNat ≤ 90 then c.toNat + 32 else c.toNat := by
  unfold small
  split
  · rw [UInt8.toNat_add]
    simp
    omega
  · rfl
theorem all_take {α : Type} (p : α → Bool) (l : List α) {q : Nat} {x : α} (h : l[q]? = some x) : (l.take (q + 1)).all p = ((l.take q).all p && p x) := by
  rw [take_succ_of h, List.all_append]
  simp
theorem all_hit {α : Type} (p : α → Bool) {l : List α} {q : Nat} {x : α} (h : l[q]? = some x) (hp : p x = false) : l.all p = false := by
  rw [List.all_eq_false]
  exact ⟨x, List.mem_of_getElem? h, by simp [hp]⟩
theorem nmOk_len {l : List UInt8} (h : nmOk l = true) : 1 ≤ l.length ∧ l.length ≤ 64 := by
  unfold nmOk at h
  rw [Bool.and_eq_true, decide_eq_true_iff] at h
  exact h.2
theorem vlOk_len {l : List UInt8} (h : vlOk l = true) : l.length ≤ 8192 := by
  unfold vlOk at h
  rw [Bool.and_eq_true, Bool.and_eq_true, decide_eq_true_iff] at h
  exact h.1.2
end Go.Proofs.YtkllecicddfjpaaGreatDoor
