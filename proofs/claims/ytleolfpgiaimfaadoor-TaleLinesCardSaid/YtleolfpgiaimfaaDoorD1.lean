/- Plain: numerals read back, bytes as digits, words between blanks. Nothing of the program. -/
import Derived.Test.YtleolfpgiaimfaaDoorP21
import Derived.Lib.AtoiAll
import Derived.Lib.ItoaNum
import Derived.Lib.ItoaLen
import Derived.Lib.Join
namespace Go.Proofs.YtleolfpgiaimfaaDoor
set_option linter.unusedVariables false
set_option linter.unusedSimpArgs false

theorem dec_digit {d : Nat} (h : d < 10) : (UInt8.ofNat (48 + d)).toNat = 48 + d := by
  rw [UInt8.toNat_ofNat']
  omega
theorem parse_dec (u : Nat) : u < 18446744073709551616 → ∀ r : List UInt8, Lib.parseUint10 0 (Lib.decDigits u ++ r) = Lib.parseUint10 u r := by
  induction u using Nat.strongRecOn with
  | _ u ih =>
    intro hu r
    by_cases h : u < 10
    · rw [Lib.decDigits, dif_pos h, List.singleton_append, Lib.parseUint10, dec_digit h, if_pos (by omega), if_neg (by omega), if_neg (by omega)]
      congr 1
      omega
    · rw [Lib.decDigits, dif_neg h, List.append_assoc, ih (u / 10) (by omega) (by omega), List.singleton_append, Lib.parseUint10, dec_digit (Nat.mod_lt _ (by omega)), if_pos (by omega), if_neg (by omega), if_neg (by omega)]
      congr 1
      omega
theorem decDigits_mem (u : Nat) : ∀ c ∈ Lib.decDigits u, 48 ≤ c.toNat ∧ c.toNat ≤ 57 := by
  induction u using Nat.strongRecOn with
  | _ u ih =>
    intro c hc
    by_cases h : u < 10
    · rw [Lib.decDigits, dif_pos h] at hc
      rw [List.mem_singleton.1 hc, dec_digit h]
      omega
    · rw [Lib.decDigits, dif_neg h] at hc
      rcases List.mem_append.1 hc with hc | hc
      · exact ih (u / 10) (by omega) c hc
      · rw [List.mem_singleton.1 hc, dec_digit (Nat.mod_lt _ (by omega))]
        omega
theorem decDigits_ne (u : Nat) : Lib.decDigits u ≠ [] := by
  rw [Lib.decDigits]
  split <;> simp
theorem parseMag_dec {u : Nat} (hu : u < 18446744073709551616) : Lib.parseMag (Lib.decDigits u) = .ok u := by
  rw [Lib.parseMag, if_neg (decDigits_ne u)]
  have := parse_dec u hu []
  rw [List.append_nil] at this
  rw [this, Lib.parseUint10]
theorem atoi_itoa {n : Int} (h0 : -9223372036854775808 ≤ n) (h1 : n ≤ 9223372036854775807) : Lib.atoiAll (Lib.itoa n) = .ok n := by
  unfold Lib.itoa
  by_cases hn : n < 0
  · rw [if_pos hn]
    have h45 : (45 : UInt8).toNat = 45 := rfl
    simp only [Lib.atoiAll, h45, or_true, if_true]
    rw [parseMag_dec (by omega)]
    simp only [not_true, false_and, if_false, true_and]
    rw [if_neg (by omega)]
    congr 1
    omega
  · rw [if_neg hn]
    obtain ⟨c, r, hcr⟩ : ∃ c r, Lib.decDigits n.toNat = c :: r := by
      cases hd : Lib.decDigits n.toNat with
      | nil => exact absurd hd (decDigits_ne _)
      | cons c r => exact ⟨c, r, rfl⟩
    have hc := decDigits_mem n.toNat c (by rw [hcr]; simp)
    have hp := parseMag_dec (u := n.toNat) (by omega)
    rw [hcr] at hp ⊢
    have h43 : ¬ (c.toNat = 43 ∨ c.toNat = 45) := by omega
    have h45 : ¬ (c.toNat = 45) := by omega
    simp only [Lib.atoiAll, if_neg h43, hp]
    simp only [h45, not_false_eq_true, true_and, false_and, if_false]
    rw [if_neg (by omega)]
    congr 1
    omega
theorem itoa_mem (n : Int) : ∀ c ∈ Lib.itoa n, c = 45 ∨ (48 ≤ c.toNat ∧ c.toNat ≤ 57) := by
  intro c hc
  unfold Lib.itoa at hc
  split at hc
  · rcases List.mem_cons.1 hc with hc | hc
    · exact .inl hc
    · exact .inr (decDigits_mem _ c hc)
  · exact .inr (decDigits_mem _ c hc)
theorem itoa_noBlank (n : Int) : (32 : UInt8) ∉ Lib.itoa n := by
  intro h
  rcases itoa_mem n 32 h with h | h
  · cases h
  · revert h
    decide

/-- a digit of four bits -/
def hxd (d : Nat) : UInt8 := if d < 10 then UInt8.ofNat (48 + d) else UInt8.ofNat (87 + d)
/-- bytes as digits -/
def hexP (b : List UInt8) : List UInt8 := b.flatMap fun c => [hxd (c.toNat / 16), hxd (c.toNat % 16)]
def hexL (b : List UInt8) : List UInt8 := if b = [] then [45] else hexP b
/-- a digit's four bits -/
def unx (c : UInt8) : Option Nat := if 48 ≤ c.toNat ∧ c.toNat ≤ 57 then some (c.toNat - 48) else if 97 ≤ c.toNat ∧ c.toNat ≤ 102 then some (c.toNat - 87) else none
/-- bytes of digits, by twos; a last one that is alone is left -/
def unxP : List UInt8 → Option (List UInt8)
  | a :: b :: r =>
    match unx a, unx b with
    | some x, some y => (unxP r).map (UInt8.ofNat (16 * x + y) :: ·)
    | _, _ => none
  | _ => some []
def unhexL (s : List UInt8) : List UInt8 × Bool :=
  if s = [45] then ([], true)
  else match unxP s with
    | none => ([], false)
    | some b => (b, decide (s.length % 2 = 0 ∧ 0 < s.length))

theorem unx_hxd : ∀ d, d < 16 → unx (hxd d) = some d := by decide
theorem unxP_hexP : ∀ b : List UInt8, unxP (hexP b) = some b
  | [] => rfl
  | c :: b => by
    have h1 := unx_hxd (c.toNat / 16) (by have := c.toNat_lt; omega)
    have h2 := unx_hxd (c.toNat % 16) (Nat.mod_lt _ (by omega))
    have ih := unxP_hexP b
    unfold hexP at ih ⊢
    rw [List.flatMap_cons, List.cons_append, List.cons_append, List.nil_append, unxP, h1, h2]
    simp only [ih, Option.map_some]
    rw [show 16 * (c.toNat / 16) + c.toNat % 16 = c.toNat by omega]
    simp
theorem hexP_len (b : List UInt8) : (hexP b).length = 2 * b.length := by
  induction b with
  | nil => rfl
  | cons c b ih =>
    unfold hexP at ih ⊢
    rw [List.flatMap_cons, List.length_append, ih]
    simp
    omega
theorem hxd_mem : ∀ d, d < 16 → (48 ≤ (hxd d).toNat ∧ (hxd d).toNat ≤ 57) ∨ (97 ≤ (hxd d).toNat ∧ (hxd d).toNat ≤ 102) := by decide
theorem hexP_mem {b : List UInt8} : ∀ c ∈ hexP b, (48 ≤ c.toNat ∧ c.toNat ≤ 57) ∨ (97 ≤ c.toNat ∧ c.toNat ≤ 102) := by
  intro c hc
  unfold hexP at hc
  obtain ⟨x, _, hx⟩ := List.mem_flatMap.1 hc
  have := x.toNat_lt
  simp at hx
  rcases hx with rfl | rfl
  · exact hxd_mem _ (by omega)
  · exact hxd_mem _ (by omega)
theorem hexP_ne45 (b : List UInt8) : hexP b ≠ [45] := by
  intro h
  have := hexP_mem (b := b) 45 (by rw [h]; simp)
  revert this
  decide
theorem unhex_hex (b : List UInt8) : unhexL (hexL b) = (b, true) := by
  unfold hexL
  by_cases hb : b = []
  · subst hb
    rfl
  · rw [if_neg hb, unhexL, if_neg (hexP_ne45 b), unxP_hexP]
    have h1 := List.length_pos_iff.2 hb
    have h2 := hexP_len b
    simp only [Prod.mk.injEq, true_and, decide_eq_true_eq]
    omega
theorem hexL_noBlank (b : List UInt8) : (32 : UInt8) ∉ hexL b := by
  intro h
  unfold hexL at h
  split at h
  · revert h
    decide
  · have := hexP_mem 32 h
    revert this
    decide
theorem hexL_len (b : List UInt8) : (hexL b).length ≤ 2 * b.length + 1 := by
  unfold hexL
  split
  · simp
  · rw [hexP_len]
    omega
theorem unxP_len : ∀ (s : List UInt8) (b : List UInt8), unxP s = some b → 2 * b.length ≤ s.length
  | [], b, h => by cases h; simp
  | [x], b, h => by cases h; simp
  | x :: y :: r, b, h => by
    rw [unxP] at h
    split at h
    · cases hr : unxP r with
      | none => rw [hr] at h; cases h
      | some q =>
        rw [hr] at h
        cases h
        have := unxP_len r q hr
        simp only [List.length_cons]
        omega
    · cases h
theorem unhexL_len (s : List UInt8) : 2 * (unhexL s).1.length ≤ s.length := by
  unfold unhexL
  split
  · simp
  · cases h : unxP s with
    | none => simp
    | some b => exact unxP_len s b h

/-- words with blanks between, cut at the blanks -/
theorem splitP_word {s : UInt8} : ∀ {a : List UInt8}, s ∉ a → splitP s a = [a]
  | [], _ => rfl
  | c :: r, h => by
    have hc : ¬ c = s := fun e => h (by simp [e])
    rw [splitP, if_neg hc, splitP_word (a := r) (fun e => h (by simp [e]))]
theorem splitP_app {s : UInt8} : ∀ {a : List UInt8}, s ∉ a → ∀ b : List UInt8, splitP s (a ++ s :: b) = a :: splitP s b
  | [], _, b => by rw [List.nil_append, splitP, if_pos rfl]
  | c :: r, h, b => by
    have hc : ¬ c = s := fun e => h (by simp [e])
    rw [List.cons_append, splitP, if_neg hc, splitP_app (a := r) (fun e => h (by simp [e])) b]
/-- words, a blank ahead of each but the first -/
def joinW : List (List UInt8) → List UInt8
  | [] => []
  | w :: ws => w ++ Lib.joinTail [32] ws
theorem joinTail_cons (w : List UInt8) (ws : List (List UInt8)) : Lib.joinTail [32] (w :: ws) = 32 :: (w ++ Lib.joinTail [32] ws) := by
  simp [Lib.joinTail]
theorem join_W (ws : List (List UInt8)) : Lib.join ws [32] = joinW ws := by
  cases ws with
  | nil => rfl
  | cons w ws => exact Lib.join_cons w ws [32]
theorem split_join : ∀ (ws : List (List UInt8)), ws ≠ [] → (∀ w ∈ ws, (32 : UInt8) ∉ w) → splitP 32 (joinW ws) = ws
  | [], h, _ => absurd rfl h
  | [w], _, h => by
    rw [joinW, show Lib.joinTail [32] [] = [] from rfl, List.append_nil]
    exact splitP_word (h w (by simp))
  | w :: x :: ws, _, h => by
    rw [joinW, joinTail_cons, splitP_app (h w (by simp))]
    have ih := split_join (x :: ws) (by simp) (fun y hy => h y (by simp [List.mem_cons.1 hy]))
    rw [joinW] at ih
    rw [ih]

end Go.Proofs.YtleolfpgiaimfaaDoor
