/- A field as lines, in plain words: by pieces, and place by place: one. Nothing of the program. -/
import Derived.Test.YtgohdohkikkeeaaDoorP9
namespace Go.Proofs.YtgohdohkikkeeaaDoor
set_option linter.unusedVariables false
set_option linter.unusedSimpArgs false

/-- does a piece begin at c, behind cur? -/
def turnAt (cur : List UInt8) (c : UInt8) : Bool := blk c && (match cur.getLast? with | some p => !blk p | none => false)
/-- the pieces: what stands in hand, and the rest -/
def pcsGo (cur : List UInt8) : List UInt8 → List (List UInt8)
  | [] => [cur]
  | c :: r => if turnAt cur c then cur :: pcsGo [c] r else pcsGo (cur ++ [c]) r
def pcs (v : List UInt8) : List (List UInt8) := pcsGo [] v
/-- the lines: at so many bytes in the line, and whether it is the first piece -/
def wrapGo (line : Nat) (first : Bool) : List (List UInt8) → List UInt8
  | [] => [13, 10]
  | p :: ps => if first = false ∧ 76 < line + p.length then [13, 10] ++ p ++ wrapGo p.length false ps else p ++ wrapGo (line + p.length) false ps
def foldF (n v : List UInt8) : List UInt8 := n ++ [58, 32] ++ wrapGo (n.length + 2) true (pcs v)

theorem pcsGo_flat : ∀ (r cur : List UInt8), (pcsGo cur r).flatten = cur ++ r
  | [], cur => by simp [pcsGo]
  | c :: r, cur => by
    unfold pcsGo
    split
    · rw [List.flatten_cons, pcsGo_flat r [c]]
      rfl
    · rw [pcsGo_flat r (cur ++ [c])]
      simp
theorem pcs_flat (v : List UInt8) : (pcs v).flatten = v := by rw [pcs, pcsGo_flat]; rfl

/-- place by place -/
def refGo (line : Nat) (prev : UInt8) : List UInt8 → List UInt8
  | [] => [13, 10]
  | c :: r => if blk c = true ∧ blk prev = false ∧ 76 < line + ((pcsGo [c] r).headD []).length then [13, 10, c] ++ refGo 1 c r else c :: refGo (line + 1) c r

theorem refGo_turn {line : Nat} {prev c : UInt8} {r : List UInt8} (h : blk c = true ∧ blk prev = false ∧ 76 < line + ((pcsGo [c] r).headD []).length) : refGo line prev (c :: r) = [13, 10, c] ++ refGo 1 c r := by rw [refGo, if_pos h]
theorem refGo_on {line : Nat} {prev c : UInt8} {r : List UInt8} (h : ¬ (blk c = true ∧ blk prev = false ∧ 76 < line + ((pcsGo [c] r).headD []).length)) : refGo line prev (c :: r) = c :: refGo (line + 1) c r := by rw [refGo, if_neg h]
theorem wrapGo_turn {line : Nat} {p : List UInt8} {ps : List (List UInt8)} (h : 76 < line + p.length) : wrapGo line false (p :: ps) = [13, 10] ++ p ++ wrapGo p.length false ps := by rw [wrapGo, if_pos ⟨rfl, h⟩]
theorem wrapGo_go {line : Nat} {first : Bool} {p : List UInt8} {ps : List (List UInt8)} (h : ¬ (first = false ∧ 76 < line + p.length)) : wrapGo line first (p :: ps) = p ++ wrapGo (line + p.length) false ps := by rw [wrapGo, if_neg h]

theorem pcsGo_cur : ∀ (r cur : List UInt8), ∃ x ps, pcsGo cur r = (cur ++ x) :: ps
  | [], cur => ⟨[], [], by simp [pcsGo]⟩
  | c :: r, cur => by
    unfold pcsGo
    split
    · exact ⟨[], _, by rw [List.append_nil]⟩
    · obtain ⟨x, ps, h⟩ := pcsGo_cur r (cur ++ [c])
      exact ⟨c :: x, ps, by rw [h]; simp⟩

theorem refGo_eq : ∀ (r cur : List UInt8) (p : UInt8) (line : Nat) (x : List UInt8) (ps : List (List UInt8)), cur.getLast? = some p → pcsGo cur r = (cur ++ x) :: ps → refGo line p r = x ++ wrapGo (line + x.length) false ps
  | [], cur, p, line, x, ps, hp, h => by
    simp only [pcsGo, List.cons.injEq, List.self_eq_append_right] at h
    obtain ⟨rfl, rfl⟩ := h
    rfl
  | c :: r, cur, p, line, x, ps, hp, h => by
    have ht : turnAt cur c = (blk c && !blk p) := by unfold turnAt; rw [hp]
    unfold pcsGo at h
    rw [ht] at h
    by_cases hb : blk c = true ∧ blk p = false
    · rw [if_pos (by simp [hb])] at h
      simp only [List.cons.injEq, List.self_eq_append_right] at h
      obtain ⟨rfl, rfl⟩ := h
      obtain ⟨x', ps', h'⟩ := pcsGo_cur r [c]
      have hh : (pcsGo [c] r).headD [] = [c] ++ x' := by rw [h']; rfl
      have ih := fun line => refGo_eq r [c] c line x' ps' rfl h'
      by_cases hw : 76 < line + ([c] ++ x').length
      · rw [refGo_turn ⟨hb.1, hb.2, by rw [hh]; exact hw⟩, h', List.length_nil, Nat.add_zero, wrapGo_turn hw, ih 1]
        simp [Nat.add_comm]
      · rw [refGo_on (fun k => hw (by have := k.2.2; rwa [hh] at this)), h']
        show _ = wrapGo line false _
        rw [wrapGo_go (fun k => hw k.2), ih (line + 1)]
        simp [Nat.add_comm, Nat.add_left_comm]
    · rw [if_neg (by simp only [Bool.and_eq_true, Bool.not_eq_true', not_and, Bool.not_eq_false]; intro h1; by_cases h2 : blk p = false; exact absurd ⟨h1, h2⟩ hb; simpa using h2)] at h
      obtain ⟨x', ps', h'⟩ := pcsGo_cur r (cur ++ [c])
      rw [h'] at h
      simp only [List.append_assoc, List.cons.injEq, List.append_cancel_left_eq] at h
      obtain ⟨hx, rfl⟩ := h
      have ih := refGo_eq r (cur ++ [c]) c (line + 1) x' ps' (by simp) h'
      rw [refGo_on (fun k => hb ⟨k.1, k.2.1⟩), ih, ← hx]
      simp [Nat.add_comm, Nat.add_left_comm]
/-- the lines, place by place -/
theorem foldF_ref (n v : List UInt8) : foldF n v = n ++ [58, 32] ++ match v with
    | [] => [13, 10]
    | c :: r => c :: refGo (n.length + 3) c r := by
  unfold foldF pcs
  congr 1
  match v with
  | [] => rfl
  | c :: r =>
    have h0 : pcsGo [] (c :: r) = pcsGo [c] r := by
      rw [pcsGo]
      have : turnAt [] c = false := by unfold turnAt; simp
      rw [this]
      rfl
    obtain ⟨x, ps, h⟩ := pcsGo_cur r [c]
    rw [h0, h]
    rw [wrapGo_go (by simp)]
    show _ = c :: refGo _ c r
    rw [refGo_eq r [c] c _ x ps rfl h]
    simp [Nat.add_comm, Nat.add_left_comm]
end Go.Proofs.YtgohdohkikkeeaaDoor
