/- More words for memory: a part of a slice, a new row, an own row in one form. Nothing of the program. · A part of a slice: s[k:], s[:k], told once, wherever the slice lies. Nothing of the program. · Names, values, in plain words. Nothing of the program. -/
import Derived.Test.YtcagkoakbdbbaaaGreatDoorJ04
import Derived.Lib.LaidU8
namespace Go.Proofs.YtcagkoakbdbbaaaGreatDoor
set_option linter.unusedVariables false
set_option linter.unusedSimpArgs false
open Go.RowKit

theorem tabs_below {g3 g4 : Nat} {w w' : World} (h : Lib.Utf8Tabs g3 g4 w) (hb : Below w.heap.size w w') : Lib.Utf8Tabs g3 g4 w' :=
  ⟨fun c hc => (hb.cell (p := ⟨g3, c, none⟩) (cell_lt (h.1 c hc))).trans (h.1 c hc),
    fun i hi => ⟨(hb.cell (p := ⟨g4, 2 * i, none⟩) (cell_lt (h.2 i hi).1)).trans (h.2 i hi).1, (hb.cell (p := ⟨g4, 2 * i + 1, none⟩) (cell_lt (h.2 i hi).2)).trans (h.2 i hi).2⟩⟩

theorem Rv.drop {w : World} {b o : Nat} {xs : List Value} (h : Rv w (some ⟨b, o, none⟩) xs) (q : Nat) : Rv w (some ⟨b, o + q, none⟩) (xs.drop q) := fun hp => by
  obtain ⟨b', o', e, hc⟩ := h (by simp at hp; omega)
  cases e
  exact ⟨b, o + q, rfl, fun j v hj => by rw [Nat.add_assoc]; exact hc _ v (by rw [← hj, List.getElem?_drop])⟩
theorem Rb.drop {w : World} {b o : Nat} {l : List UInt8} (h : Rb w (some ⟨b, o, none⟩) l) (q : Nat) : Rb w (some ⟨b, o + q, none⟩) (l.drop q) := by
  have := Rv.drop h q
  rwa [← List.map_drop] at this
theorem Rv_new (w : World) (cs : Array Value) (xs : List Value) (t : TypeId) (h : cs = xs.toArray) : Rv (w.alloc (.cells cs t)) (some ⟨w.heap.size, 0, none⟩) xs := fun _ =>
  ⟨w.heap.size, 0, rfl, fun j v hj => by rw [World.cell?_alloc_new, h, Nat.zero_add]; simpa using hj⟩

/-- an owned row in one form -/
theorem own_form {w : World} {base e size n : Nat} {v : Value} {xs : List Value} (h : w.ownsRow base e size v n xs) : ∃ A c, v = .slice A n c ∧ n ≤ c ∧ c ≤ maxLen ∧ Rv w A xs ∧ xs.length = n * size := by
  have hl := h.1
  rcases h.2 with ⟨rfl, h0⟩ | ⟨g, cap, cur, rfl, _, _, h1, h2, _⟩
  · subst h0
    have : xs = [] := List.eq_nil_of_length_eq_zero (by simpa using hl)
    subst this
    exact ⟨none, 0, rfl, Nat.le_refl _, by unfold maxLen; omega, Rv.nil _ _, hl⟩
  · refine ⟨_, cap, rfl, h1, h2, fun _ => ⟨g, 0, rfl, fun j v hj => ?_⟩, hl⟩
    have hlt := lt_of_get hj
    rw [Nat.zero_add, h.cellAt j (by omega)]
    exact hj
/-- make([]T, n) at elements of one cell -/
theorem makeN {P : Program} {t e : TypeId} {i : TypeInfo} {z : Value} {bytes : Nat} (ht : P.underlying t = some (.slice e)) (hi : P.info? e = some i) (hz : i.zero = some z) (hs : i.size = 1) (hb : i.bytes = bytes)
    (kl kc : IntKind) (m : Nat) (b2 : bytes * m ≤ 281474976710656) (b3 : m ≤ 9223372036854775807) :
    ∃ X : Array Value, X.size = m ∧ ∀ W : World, (Instr.makeSlice t (.int kl m) (.int kc m)).run P W = .ok (.slice (some ⟨W.heap.size, 0, none⟩) m m) (W.alloc (.cells X e)) := by
  have hb2 : (i.bytes : Int) * (m : Int) ≤ 281474976710656 := by
    rw [hb, ← Int.natCast_mul]
    generalize bytes * m = q at b2
    omega
  refine ⟨madeCells z.cells (m * 1), ?_, fun W => ?_⟩
  · rw [size_madeCells, Nat.mul_one]
  · have h := run_make (P := P) W t e i z ht hi hz kl kc (m : Int) (m : Int) (by omega) (by omega) hb2 (by omega)
    simpa [hs] using h
end Go.Proofs.YtcagkoakbdbbaaaGreatDoor

namespace Go.Proofs.YtcagkoakbdbbaaaGreatDoor
set_option linter.unusedVariables false
set_option linter.unusedSimpArgs false
open Go.RowKit

theorem elem_of {P : Program} {t e : TypeId} (ht : P.underlying t = some (.slice e)) : P.underlying t = some (.slice (P.elem t)) := by
  simp [Program.elem, ht]
theorem elem_eq {P : Program} {t e : TypeId} (ht : P.underlying t = some (.slice e)) : P.elem t = e := by
  simp [Program.elem, ht]
theorem slice_from {P : Program} {t e : TypeId} {s : Nat} (ht : P.underlying t = some (.slice e)) (hsz : ∀ w, (sizeOf e).run P w = .ok s w) (A : Option Addr) (n c k : Nat) (hk : k ≤ n) (hnc : n ≤ c) :
    ∃ A', (∀ K w, (Instr.slice t (.slice A n c) (some (.int K (k : Int))) none none).run P w = .ok (.slice A' (n - k) (c - k)) w) ∧ (∀ w xs, xs.length = n * s → Rv w A xs → Rv w A' (xs.drop (k * s))) ∧ (A = none → A' = none) ∧ (∀ b o, A = some ⟨b, o, none⟩ → ∃ o', A' = some ⟨b, o', none⟩) ∧ (A' = A ∨ A' = A.map (·.add (k * s))) := by
  refine ⟨if c = k then A else A.map (·.add (k * s)), fun K w => ?_, fun w xs hl h => ?_, ?_, ?_, ?_⟩
  · rw [run_slice_l w t A n c (elem_of ht) K (k : Int) (by omega) (by omega), elem_eq ht, hsz]
    simp [Result.andThen, sliced]
  · by_cases hc : c = k
    · have e : xs.drop (k * s) = [] := List.drop_eq_nil_of_le (by rw [hl]; exact Nat.mul_le_mul_right _ (by omega))
      rw [e]
      exact Rv.nil _ _
    · rw [if_neg hc]
      intro hp
      have hp' : 0 < xs.length := by simp at hp; omega
      obtain ⟨b, o, rfl, hcell⟩ := h hp'
      have hd := Rv.drop (b := b) (o := o) (xs := xs) (w := w) (fun _ => ⟨b, o, rfl, hcell⟩) (k * s)
      have e : Option.map (fun x : Addr => x.add (k * s)) (some ⟨b, o, none⟩) = some ⟨b, o + k * s, none⟩ := by
        rw [Option.map_some]
        congr 1
        unfold Addr.add
        split <;> simp_all
      rw [e]
      exact hd hp
  · rintro rfl
    split <;> rfl
  · rintro b o rfl
    split
    · exact ⟨o, rfl⟩
    · refine ⟨o + k * s, ?_⟩
      rw [Option.map_some]
      congr 1
      unfold Addr.add
      split <;> simp_all
  · split
    · exact .inl rfl
    · exact .inr rfl
theorem add_zero (a : Addr) : a.add 0 = a := by unfold Addr.add; simp
theorem slice_to {P : Program} {t e : TypeId} {s : Nat} (ht : P.underlying t = some (.slice e)) (hsz : ∀ w, (sizeOf e).run P w = .ok s w) (A : Option Addr) (n c k : Nat) (hk : k ≤ c) :
    ∀ K w, (Instr.slice t (.slice A n c) none (some (.int K (k : Int))) none).run P w = .ok (.slice A k c) w := by
  intro K w
  rw [run_slice_h w t A n c (elem_of ht) K (k : Int) (by omega) (by omega), elem_eq ht, hsz]
  have e : A.map (fun x => x.add 0) = A := by cases A <;> simp [add_zero]
  simp [Result.andThen, sliced, e]
end Go.Proofs.YtcagkoakbdbbaaaGreatDoor

namespace Go.Proofs.YtcagkoakbdbbaaaGreatDoor
set_option linter.unusedVariables false
set_option linter.unusedSimpArgs false

/-- a blank -/
def blk (c : UInt8) : Bool := c == 32 || c == 9
/-- a sign of a name -/
def nmc (c : UInt8) : Bool := decide (33 ≤ c.toNat) && decide (c.toNat ≤ 126) && c != 58
/-- may it be a name? -/
def nmOk (l : List UInt8) : Bool := l.all nmc && decide (1 ≤ l.length ∧ l.length ≤ 64)
/-- a sign of a value -/
def sgc (c : UInt8) : Bool := c == 9 || (decide (32 ≤ c.toNat) && decide (c.toNat ≤ 126))
/-- no blank at the ends -/
def edges (l : List UInt8) : Bool := l.head?.all (fun c => !blk c) && l.getLast?.all (fun c => !blk c)
/-- may it be a value? -/
def vlOk (l : List UInt8) : Bool := l.all sgc && decide (l.length ≤ 8192) && edges l
/-- a small letter -/
def small (c : UInt8) : UInt8 := if 65 ≤ c.toNat ∧ c.toNat ≤ 90 then c + 32 else c
/-- are two names one? -/
def sameN (a b : List UInt8) : Bool := decide (a.map small = b.map small)

theorem blk_cases (c : UInt8) : (blk c = true ∧ ((c.toNat : Int) = 32 ∨ ((c.toNat : Int) ≠ 32 ∧ (c.toNat : Int) = 9))) ∨ (blk c = false ∧ (c.toNat : Int) ≠ 32 ∧ (c.toNat : Int) ≠ 9) := by
  have e : blk c = (decide (c.toNat = 32) || decide (c.toNat = 9)) := by
    unfold blk
    rw [Bool.eq_iff_iff]
    simp [← UInt8.toNat_inj]
  rw [e]
  by_cases h1 : c.toNat = 32 <;> by_cases h2 : c.toNat = 9 <;> simp [h1, h2] <;> omega
theorem blk_iff (c : UInt8) : blk c = true ↔ c.toNat = 32 ∨ c.toNat = 9 := by
  unfold blk
  simp [← UInt8.toNat_inj]
theorem nmc_iff (c : UInt8) : nmc c = true ↔ 33 ≤ c.toNat ∧ c.toNat ≤ 126 ∧ c.toNat ≠ 58 := by
  unfold nmc
  simp [← UInt8.toNat_inj, and_assoc]
theorem sgc_iff (c : UInt8) : sgc c = true ↔ c.toNat = 9 ∨ (32 ≤ c.toNat ∧ c.toNat ≤ 126) := by
  unfold sgc
  simp [← UInt8.toNat_inj]
theorem small_nat (c : UInt8) : (small c).toNat = if 65 ≤ c.toNat ∧ c.toNat ≤ 90 then c.toNat + 32 else c.toNat := by
  unfold small
  split
  · rw [UInt8.toNat_add]
    simp
    omega
  · rfl
theorem all_take {α : Type} (p : α → Bool) (l : List α) {q : Nat} {x : α} (h : l[q]? = some x) : (l.take (q + 1)).all p = ((l.take q).all p && p x) := by
  rw [take_succ_of h, List.all_append]
  simp
theorem all_hit {α : Type} (p : α → Bool) {l : List α} {q : Nat} {x : α} (h : l[q]? = some x) (hp : p x = false) : l.all p = false := by
  rw [List.all_eq_false]
  exact ⟨x, List.mem_of_getElem? h, by simp [hp]⟩
theorem nmOk_len {l : List UInt8} (h : nmOk l = true) : 1 ≤ l.length ∧ l.length ≤ 64 := by
  unfold nmOk at h
  rw [Bool.and_eq_true, decide_eq_true_iff] at h
  exact h.2
theorem vlOk_len {l : List UInt8} (h : vlOk l = true) : l.length ≤ 8192 := by
  unfold vlOk at h
  rw [Bool.and_eq_true, Bool.and_eq_true, decide_eq_true_iff] at h
  exact h.1.2
end Go.Proofs.YtcagkoakbdbbaaaGreatDoor
