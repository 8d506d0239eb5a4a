/- Ids: sign by sign, and from cut to cut: one. Nothing of the program. -/
import Derived.Test.YtddjabjloplhiaaGreatDoorP21
namespace Go.Proofs.YtddjabjloplhiaaGreatDoor
set_option linter.unusedVariables false
set_option linter.unusedSimpArgs false

/-- the document's Ids sign by sign -/
def idGo : Bool → List UInt8 → List (List UInt8) → List UInt8 → Except Nat (List (List UInt8))
  | ins, _, o, [] => if ins then .error 3 else .ok o
  | ins, id, o, c :: r => if ins then (if c = 62 then (if id = [] then .error 3 else idGo false id (o ++ [id]) r) else if idc c then idGo true (id ++ [c]) o r else .error 3)
      else if blk c then idGo false id o r else if c = 60 then idGo true [] o r else .error 3
theorem idGo_in : ∀ (r id : List UInt8) (o : List (List UInt8)), id.all idc = true → idGo true id o r = match cutAt 62 r with
    | none => .error 3
    | some (a, t) => if onlyB idc (id ++ a) then idGo false (id ++ a) (o ++ [id ++ a]) t else .error 3
  | [], id, o, _ => rfl
  | c :: r, id, o, h => by
    rw [idGo, if_pos rfl, cutAt]
    by_cases hc : c = 62
    · rw [if_pos hc, if_pos hc]
      simp only [List.append_nil]
      by_cases h0 : id = []
      · rw [if_pos h0, h0]
        rfl
      · rw [if_neg h0, if_pos (by unfold onlyB; rw [h]; simpa using h0)]
    · rw [if_neg hc, if_neg hc]
      by_cases hi : idc c = true
      · rw [if_pos hi, idGo_in r (id ++ [c]) o (by rw [List.all_append, h]; simp [hi])]
        cases cutAt 62 r with
        | none => rfl
        | some p => simp
      · rw [if_neg hi]
        cases cutAt 62 r with
        | none => rfl
        | some p =>
          have : idc c = false := by simpa using hi
          simp [onlyB, this]
theorem idGo_lead : ∀ (l id : List UInt8) (o : List (List UInt8)), idGo false id o l = idGo false id o (l.dropWhile blk)
  | [], _, _ => rfl
  | c :: r, id, o => by
    by_cases h : blk c = true
    · rw [List.dropWhile_cons_of_pos h, ← idGo_lead r id o, idGo, if_neg (by simp), if_pos h]
    · rw [List.dropWhile_cons_of_neg h]
theorem idGo_tail (b : List UInt8) (hb : ∀ c ∈ b, blk c = true) : ∀ (l : List UInt8) (ins : Bool) (id : List UInt8) (o : List (List UInt8)), idGo ins id o (l ++ b) = idGo ins id o l
  | [], ins, id, o => by
    rw [List.nil_append]
    cases ins with
    | false =>
      rw [idGo_lead]
      have : ∀ b : List UInt8, (∀ c ∈ b, blk c = true) → b.dropWhile blk = [] := by
        intro b
        induction b with
        | nil => exact fun _ => rfl
        | cons c r ih =>
          intro h
          rw [List.dropWhile_cons_of_pos (h c (by simp))]
          exact ih fun x hx => h x (by simp [hx])
      rw [this b hb]
    | true =>
      cases b with
      | nil => rfl
      | cons c r =>
        have h := (blk_iff c).1 (hb c (by simp))
        have h1 : c ≠ 62 := fun e => by rw [e] at h; simp at h
        have h2 : idc c = false := by
          unfold idc prc
          simp only [Bool.and_eq_false_iff, decide_eq_false_iff_not]
          omega
        show idGo true id o (c :: r) = .error 3
        rw [idGo, if_pos rfl, if_neg h1, h2]
        rfl
  | c :: r, ins, id, o => by
    rw [List.cons_append, idGo, idGo]
    have ih := idGo_tail b hb r
    simp only [ih]
theorem trimB_mid (l : List UInt8) : ∃ b, (∀ c ∈ b, blk c = true) ∧ l = (l.reverse.dropWhile blk).reverse ++ b := by
  refine ⟨(l.reverse.takeWhile blk).reverse, fun c hc => ?_, ?_⟩
  · exact (List.all_eq_true.1 (List.all_takeWhile (p := blk) (l := l.reverse))) c (by simpa using hc)
  · rw [← List.reverse_append, List.takeWhile_append_dropWhile, List.reverse_reverse]
theorem idGo_trim (l id : List UInt8) (o : List (List UInt8)) : idGo false id o l = idGo false id o (trimB l) := by
  obtain ⟨b, hb, e⟩ := trimB_mid l
  conv => lhs; rw [e]
  rw [idGo_tail b hb, idGo_lead, ← trimB_def]
theorem trimB_head {l r : List UInt8} {c : UInt8} (h : trimB l = c :: r) : blk c = false := by
  rw [trimB_def] at h
  have := List.head?_dropWhile_not blk ((l.reverse.dropWhile blk).reverse)
  rw [h] at this
  simpa using this
theorem idGo_eq : ∀ (n : Nat) (l id : List UInt8) (o : List (List UInt8)), l.length ≤ n → idGo false id o l = (idsIn l).map fun p => o ++ p
  | n, l, id, o, hn => by
    rw [idGo_trim, idsIn_eq]
    have hl := trimB_len l
    cases ht : trimB l with
    | nil => simp [idGo, Except.map]
    | cons c r =>
      rw [ht] at hl
      simp only [List.length_cons] at hl
      rw [idGo, if_neg (by simp), if_neg (by rw [trimB_head ht]; simp)]
      by_cases hc : c = 60
      · simp only [if_pos hc]
        rw [idGo_in r [] o rfl]
        cases hcut : cutAt 62 r with
        | none => rfl
        | some p =>
          obtain ⟨a, t⟩ := p
          have := cutAt_len hcut
          simp only [List.nil_append]
          split
          · cases n with
            | zero => omega
            | succ n =>
              rw [idGo_eq n t a (o ++ [a]) (by omega)]
              cases idsIn t <;> simp [Except.map]
          · rfl
      · simp only [if_neg hc]
        rfl
theorem id_eq (l : List UInt8) : idGo false [] [] l = idsIn l := by
  rw [idGo_eq l.length l [] [] (Nat.le_refl _)]
  cases idsIn l <;> simp [Except.map]
end Go.Proofs.YtddjabjloplhiaaGreatDoor
