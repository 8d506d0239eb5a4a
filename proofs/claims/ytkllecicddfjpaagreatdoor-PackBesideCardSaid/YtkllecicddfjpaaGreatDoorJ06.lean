/- Plain words of layer 10: cuts, dotted texts, ids. Nothing of the program. -/
import Derived.Test.YtkllecicddfjpaaGreatDoorJ05
import Derived.Lib.Split
import Derived.Lib.SplitLaws
import Derived.Lib.SlTrimSet
import Derived.Lib.LastIndexByte
namespace Go.Proofs.YtkllecicddfjpaaGreatDoor
namespace Tk
set_option linter.unusedVariables false
set_option linter.unusedSimpArgs false

/-- a sign that is seen -/
def prc (c : UInt8) : Bool := decide (33 ≤ c.toNat) && decide (c.toNat ≤ 126)
/-- may it stand in an atom? -/
def atc (c : UInt8) : Bool := decide (33 ≤ c.toNat) && decide (c.toNat ≤ 126) && !([40, 41, 60, 62, 64, 44, 59, 58, 92, 34, 47, 91, 93, 63, 61, 46] : List UInt8).contains c
/-- may it stand in a value that isn't quoted? -/
def loc' (c : UInt8) : Bool := atc c || ([46, 47, 58, 63] : List UInt8).contains c
/-- may it stand in an id? -/
def idc (c : UInt8) : Bool := prc c && c != 60
/-- bytes, all of which are such -/
def onlyB (p : UInt8 → Bool) (l : List UInt8) : Bool := l.all p && !l.isEmpty
/-- is it an atom? -/
def atomB (l : List UInt8) : Bool := l.all atc && !l.isEmpty
/-- may a parameter have it? -/
def valB (l : List UInt8) : Bool := l.all sgc

/-- cut at the first s -/
def cutAt (s : UInt8) : List UInt8 → Option (List UInt8 × List UInt8)
  | [] => none
  | c :: r => if c = s then some ([], r) else (cutAt s r).map fun p => (c :: p.1, p.2)
theorem cutAt_some {s : UInt8} : ∀ {l a b : List UInt8}, cutAt s l = some (a, b) → l = a ++ s :: b ∧ s ∉ a ∧ Lib.index l [s] = (a.length : Int)
  | [], _, _, h => by simp [cutAt] at h
  | c :: r, a, b, h => by
    unfold cutAt at h
    by_cases hc : c = s
    · rw [if_pos hc] at h
      cases h
      subst hc
      exact ⟨rfl, by simp, by simp [Lib.index, List.isPrefixOf]⟩
    · rw [if_neg hc, Option.map_eq_some_iff] at h
      obtain ⟨⟨a', b'⟩, h1, h2⟩ := h
      cases h2
      obtain ⟨e, hn, hi⟩ := cutAt_some h1
      refine ⟨by rw [e]; rfl, by simp [hn, Ne.symm hc], ?_⟩
      have hne : (s == c) = false := by simpa using Ne.symm hc
      have h1 : (((a'.length : Int)) == -1) = false := by rw [beq_eq_false_iff_ne]; omega
      simp [Lib.index, List.isPrefixOf, hne, hi, h1]
theorem cutAt_none {s : UInt8} : ∀ {l : List UInt8}, cutAt s l = none → s ∉ l ∧ Lib.index l [s] = -1
  | [], _ => ⟨by simp, rfl⟩
  | c :: r, h => by
    unfold cutAt at h
    by_cases hc : c = s
    · rw [if_pos hc] at h
      cases h
    · rw [if_neg hc, Option.map_eq_none_iff] at h
      obtain ⟨hn, hi⟩ := cutAt_none h
      have hne : (s == c) = false := by simpa using Ne.symm hc
      exact ⟨by simp [hn, Ne.symm hc], by simp [Lib.index, List.isPrefixOf, hne, hi]⟩
theorem cutAt_not {s : UInt8} {l : List UInt8} (h : s ∉ l) : cutAt s l = none := by
  induction l with
  | nil => rfl
  | cons c r ih =>
    simp only [List.mem_cons, not_or] at h
    unfold cutAt
    rw [if_neg (Ne.symm h.1), ih h.2]
    rfl
theorem cutAt_app {s : UInt8} {a b : List UInt8} (h : s ∉ a) : cutAt s (a ++ s :: b) = some (a, b) := by
  induction a with
  | nil => simp [cutAt]
  | cons c r ih =>
    simp only [List.mem_cons, not_or] at h
    show cutAt s (c :: (r ++ s :: b)) = _
    unfold cutAt
    rw [if_neg (Ne.symm h.1), ih h.2]
    rfl
theorem lib_cut (s : UInt8) (l : List UInt8) : Lib.cut l [s] = match cutAt s l with | some (a, b) => (a, b, true) | none => (l, [], false) := by
  cases h : cutAt s l with
  | none =>
    have := (cutAt_none h).2
    unfold Lib.cut
    rw [this]
    rfl
  | some p =>
    obtain ⟨a, b⟩ := p
    obtain ⟨hl, _, hi⟩ := cutAt_some h
    unfold Lib.cut
    rw [hi, if_pos (by omega)]
    simp only [Int.toNat_natCast, List.length_cons, List.length_nil]
    rw [hl, List.take_left' rfl, show a ++ s :: b = (a ++ [s]) ++ b by simp, List.drop_left' (by simp)]

/-- in pieces, at each s -/
def splitP (s : UInt8) : List UInt8 → List (List UInt8)
  | [] => [[]]
  | c :: r => if c = s then [] :: splitP s r else match splitP s r with | [] => [[c]] | p :: ps => (c :: p) :: ps
theorem splitP_ne (s : UInt8) (l : List UInt8) : splitP s l ≠ [] := by
  cases l with
  | nil => simp [splitP]
  | cons c r =>
    unfold splitP
    split
    · simp
    · split <;> simp
theorem splitP_cut (s : UInt8) : ∀ l : List UInt8, splitP s l = match cutAt s l with | none => [l] | some (a, b) => a :: splitP s b
  | [] => rfl
  | c :: r => by
    rw [splitP, cutAt]
    by_cases hc : c = s
    · rw [if_pos hc, if_pos hc]
    · rw [if_neg hc, if_neg hc, splitP_cut s r]
      cases cutAt s r with
      | none => rfl
      | some p =>
        obtain ⟨a, b⟩ := p
        rfl
theorem splitK_P (s : UInt8) : ∀ (n : Nat) (l : List UInt8), Lib.count l [s] = n → Lib.splitK [s] 0 n l = splitP s l
  | 0, l, h => by
    rw [Lib.count_one] at h
    have : s ∉ l := fun hm => by have := List.count_pos_iff.2 hm; omega
    rw [splitP_cut, cutAt_not this]
    rfl
  | n + 1, l, h => by
    cases hc : cutAt s l with
    | none =>
      have := (cutAt_none hc).1
      rw [Lib.count_one, List.count_eq_zero_of_not_mem this] at h
      omega
    | some p =>
      obtain ⟨a, b⟩ := p
      obtain ⟨hl, hn, hi⟩ := cutAt_some hc
      have hb : Lib.count b [s] = n := by
        rw [Lib.count_one] at h ⊢
        rw [hl, List.count_append, List.count_eq_zero_of_not_mem hn, List.count_cons_self] at h
        omega
      have hne : ((a.length : Int) == -1) = false := by rw [beq_eq_false_iff_ne]; omega
      rw [splitP_cut, hc, Lib.splitK, hi, hne]
      simp only [Bool.false_eq_true, if_false, Int.toNat_natCast, Nat.add_zero, List.length_cons, List.length_nil]
      rw [show l.drop (a.length + (0 + 1)) = b by rw [hl, show a ++ s :: b = (a ++ [s]) ++ b by simp, List.drop_left' (by simp)], splitK_P s n b hb]
      rw [hl, List.take_left' rfl]
theorem splitB_P (s : UInt8) (l : List UInt8) : (Lib.splitB ⟨#[s]⟩ 0 (Lib.countB (bs l) ⟨#[s]⟩) (bs l)).map Value.string = (splitP s l).map fun p => Value.string (bs p) := by
  have h1 := Lib.splitB_data ⟨#[s]⟩ 0 (Lib.countB (bs l) ⟨#[s]⟩) (bs l)
  rw [bs_toList] at h1
  have h2 : Lib.countB (bs l) ⟨#[s]⟩ = Lib.count l [s] := by
    unfold Lib.countB
    rw [bs_toList]
  have h3 := splitK_P s _ l rfl
  rw [← h2] at h3
  rw [show (⟨#[s]⟩ : ByteArray).data.toList = [s] from rfl, h3] at h1
  rw [← h1, List.map_map]
  apply List.map_congr_left
  intro b _
  simp [bs_of]
theorem countB_P (s : UInt8) (l : List UInt8) : Lib.countB (bs l) ⟨#[s]⟩ + 1 = (splitP s l).length := by
  have := congrArg List.length (splitB_P s l)
  simp only [List.length_map] at this
  rw [← this, Lib.splitB_all ⟨#[s]⟩ (show 1 ≤ (#[s] : Array UInt8).size from Nat.le_refl 1) 0 _ _ rfl]
theorem splitP_len (s : UInt8) : ∀ l : List UInt8, (splitP s l).length ≤ l.length + 1
  | [] => by simp [splitP]
  | c :: r => by
    have := splitP_len s r
    unfold splitP
    split
    · simp; omega
    · split
      · simp
      · rename_i h
        rw [h] at this
        simp at this ⊢
        omega
theorem splitP_mem (s : UInt8) : ∀ (l p : List UInt8), p ∈ splitP s l → p.length ≤ l.length
  | [], p, h => by simp [splitP] at h; simp [h]
  | c :: r, p, h => by
    unfold splitP at h
    split at h
    · rcases List.mem_cons.1 h with rfl | h
      · simp
      · have := splitP_mem s r p h
        simp
        omega
    · split at h
      · simp at h
        simp [h]
      · rename_i q qs hq
        rcases List.mem_cons.1 h with rfl | h
        · have := splitP_mem s r q (by rw [hq]; simp)
          simp
          omega
        · have := splitP_mem s r p (by rw [hq]; simp [h])
          simp
          omega

/-- is it a dotted atom? -/
def dotP (l : List UInt8) : Bool := (splitP 46 l).all atomB
/-- the same sign by sign, told the last one -/
def dotGo : UInt8 → List UInt8 → Bool
  | last, [] => last != 46
  | last, c :: r => if c = 46 then (if last = 46 then false else dotGo 46 r) else if atc c then dotGo c r else false
theorem dotGo_both : ∀ (l : List UInt8) (last : UInt8), dotGo last l = if last = 46 then (splitP 46 l).all atomB else match splitP 46 l with | [] => true | p :: ps => p.all atc && ps.all atomB
  | [], last => by
    unfold dotGo
    by_cases h : last = 46
    · subst h
      rfl
    · rw [if_neg h]
      simp [splitP, h]
  | c :: r, last => by
    have ih := dotGo_both r
    unfold dotGo
    rw [splitP]
    by_cases hc : c = 46
    · rw [if_pos hc, if_pos hc]
      by_cases h : last = 46
      · rw [if_pos h, if_pos h]
        simp [atomB]
      · rw [if_neg h, if_neg h, ih]
        simp
    · rw [if_neg hc, if_neg hc]
      have h2 : ∀ p ps, splitP 46 r = p :: ps → (if atc c then dotGo c r else false) = (if last = 46 then ((c :: p) :: ps).all atomB else match (c :: p) :: ps with | [] => true | p :: ps => p.all atc && ps.all atomB) := by
        intro p ps hp
        by_cases ha : atc c = true
        · rw [if_pos ha, ih, if_neg hc, hp]
          simp [atomB, ha]
        · have ha' : atc c = false := by simpa using ha
          rw [if_neg ha]
          simp [atomB, ha']
      cases hp : splitP 46 r with
      | nil => exact absurd hp (splitP_ne _ _)
      | cons p ps => exact h2 p ps hp
theorem dot_eq (l : List UInt8) : dotGo 46 l = dotP l := by rw [dotGo_both, if_pos rfl]; rfl

/-- without blanks at its ends -/
def trimB (l : List UInt8) : List UInt8 := Lib.trimS l [32, 9]
/-- the same by blk -/
theorem trimB_def (l : List UInt8) : trimB l = ((l.reverse.dropWhile blk).reverse).dropWhile blk := by
  have h : ([32, 9] : List UInt8).contains = blk := by
    funext c
    unfold blk
    rw [List.contains_cons, List.contains_cons]
    simp
  unfold trimB Lib.trimS Lib.trimLeftS Lib.trimRightS
  rw [show (fun x => ([32, 9] : List UInt8).contains x) = blk from h]
theorem trimB_len (l : List UInt8) : (trimB l).length ≤ l.length := by
  rw [trimB_def]
  have h1 := (List.dropWhile_sublist blk (l := (l.reverse.dropWhile blk).reverse)).length_le
  have h2 := (List.dropWhile_sublist blk (l := l.reverse)).length_le
  simp at h1 h2
  omega

/-- what is behind the last s -/
def lastCut (s : UInt8) : List UInt8 → Option (List UInt8)
  | [] => none
  | c :: r => match lastCut s r with | some t => some t | none => if c = s then some r else none
theorem lastCut_none {s : UInt8} : ∀ {l : List UInt8}, s ∉ l → lastCut s l = none
  | [], _ => rfl
  | c :: r, h => by
    simp only [List.mem_cons, not_or] at h
    unfold lastCut
    rw [lastCut_none h.2, if_neg (Ne.symm h.1)]
theorem lastCut_some {s : UInt8} : ∀ {a b : List UInt8}, s ∉ b → lastCut s (a ++ s :: b) = some b
  | [], b, h => by simp [lastCut, lastCut_none h]
  | c :: a, b, h => by
    show lastCut s (c :: (a ++ s :: b)) = _
    unfold lastCut
    rw [lastCut_some h]
theorem lastCut_lib (s : UInt8) (l : List UInt8) : (Lib.lastIndexByte (bs l) (s.toNat : Int) = -1 ∧ lastCut s l = none) ∨
    (∃ i : Nat, Lib.lastIndexByte (bs l) (s.toNat : Int) = (i : Int) ∧ i < l.length ∧ lastCut s l = some (l.drop (i + 1))) := by
  have at' : ∀ j, j < l.length → (bs l).data[j]! = l[j]! := fun j hj => by simp [bs, hj]
  rcases Lib.lastIdx_spec (bs l) (s.toNat : Int) (bs l).size with ⟨h1, h2⟩ | ⟨i, h0, h1, h2, h3⟩
  · refine .inl ⟨h1, lastCut_none fun hm => ?_⟩
    obtain ⟨j, hj, e⟩ := List.mem_iff_getElem.1 hm
    refine h2 j (by rw [bs_size]; exact hj) ?_
    rw [at' j hj]
    simp [hj, e]
  · rw [bs_size] at h0 h3
    refine .inr ⟨i, h1, h0, ?_⟩
    have e : l[i] = s := by
      rw [at' i h0] at h2
      simp only [h0, getElem!_pos] at h2
      exact u8_eq.1 h2
    have hsp : l = l.take i ++ s :: l.drop (i + 1) := by
      rw [← e]
      simp
    conv => lhs; rw [hsp]
    apply lastCut_some
    intro hm
    obtain ⟨j, hj, e2⟩ := List.mem_iff_getElem.1 hm
    simp only [List.length_drop] at hj
    rw [List.getElem_drop] at e2
    refine h3 (i + 1 + j) (by omega) (by omega) ?_
    rw [at' _ (by omega)]
    simp only [show i + 1 + j < l.length by omega, getElem!_pos]
    rw [e2]
theorem lastCut_len {s : UInt8} : ∀ {l t : List UInt8}, lastCut s l = some t → t.length < l.length
  | [], _, h => by simp [lastCut] at h
  | c :: r, t, h => by
    unfold lastCut at h
    split at h
    · rename_i u hu
      cases h
      have := lastCut_len hu
      simp
      omega
    · split at h
      · cases h
        simp
      · cases h
theorem small_len (l : List UInt8) : (l.map small).length = l.length := by simp

/-- the address in a text without comments: what stands between the last < and the > at its end, or all of it -/
def addrIn (b : List UInt8) : Option (List UInt8) := if (trimB b).getLast? = some 62 then (lastCut 60 ((trimB b).dropLast)).map trimB else some (trimB b)
def addrAt (t : List UInt8) : Except Nat (List UInt8) := match cutAt 64 t with
  | none => .error 3
  | some (x, y) => if dotP x && dotP y then .ok (x ++ 64 :: y.map small) else .error 3
/-- the address that a value tells -/
def addrP (l : List UInt8) : Except Nat (List UInt8) := match bareP l with
  | .error e => .error e
  | .ok b => match addrIn b with | none => .error 3 | some t => addrAt t

/-- the ids in a text without comments; so much fuel as there are bytes is enough -/
def idsN : Nat → List UInt8 → Except Nat (List (List UInt8))
  | 0, _ => .error 3
  | n + 1, l => match trimB l with
    | [] => .ok []
    | c :: r => if c = 60 then (match cutAt 62 r with
        | none => .error 3
        | some (id, t) => if onlyB idc id then (idsN n t).map fun o => id :: o else .error 3) else .error 3
theorem cutAt_len {s : UInt8} {l a b : List UInt8} (h : cutAt s l = some (a, b)) : a.length + b.length + 1 = l.length := by
  have := (cutAt_some h).1
  rw [this]
  simp
  omega
theorem idsN_fuel : ∀ (n m : Nat) (l : List UInt8), l.length < n → l.length < m → idsN n l = idsN m l
  | n + 1, m + 1, l, hn, hm => by
    rw [idsN, idsN]
    have hl := trimB_len l
    cases ht : trimB l with
    | nil => rfl
    | cons c r =>
      rw [ht] at hl
      simp only [List.length_cons] at hl
      simp only
      split
      · cases hc : cutAt 62 r with
        | none => rfl
        | some p =>
          obtain ⟨id, t⟩ := p
          have := cutAt_len hc
          simp only
          rw [idsN_fuel n m t (by omega) (by omega)]
      · rfl
  | 0, _, _, h, _ => absurd h (Nat.not_lt_zero _)
  | _ + 1, 0, _, _, h => absurd h (Nat.not_lt_zero _)
def idsIn (l : List UInt8) : Except Nat (List (List UInt8)) := idsN (l.length + 1) l
theorem idsIn_eq (l : List UInt8) : idsIn l = match trimB l with
    | [] => .ok []
    | c :: r => if c = 60 then (match cutAt 62 r with
        | none => .error 3
        | some (id, t) => if onlyB idc id then (idsIn t).map fun o => id :: o else .error 3) else .error 3 := by
  unfold idsIn
  rw [idsN]
  have hl := trimB_len l
  cases ht : trimB l with
  | nil => rfl
  | cons c r =>
    rw [ht] at hl
    simp only [List.length_cons] at hl
    simp only
    split
    · cases hc : cutAt 62 r with
      | none => rfl
      | some p =>
        obtain ⟨id, t⟩ := p
        have := cutAt_len hc
        simp only
        rw [idsN_fuel l.length (t.length + 1) t (by omega) (by omega)]
    · rfl
/-- the ids that a value tells -/
def idsP (l : List UInt8) : Except Nat (List (List UInt8)) := match bareP l with
  | .error e => .error e
  | .ok b => idsIn b
end Tk
end Go.Proofs.YtkllecicddfjpaaGreatDoor
