/- Rows of strings: cut at a blank, joined with blanks. -/
import Derived.Test.YtleolfpgiaimfaaDoorDA
namespace Go.Proofs.YtleolfpgiaimfaaDoor
set_option linter.unusedVariables false
set_option linter.unusedSimpArgs false
open Go.RowKit Go.Shelf

/-- a string's cell -/
def sv (l : List UInt8) : Value := .string (bs l)
theorem infoStr : (Tryd.prog.info? 9).map (fun i => (i.zero, i.size, i.bytes)) = some (some (.string ⟨#[]⟩), 1, 16) := by kernel_rfl
theorem TStr : ElT Tryd.prog 44 9 1 16 := ElT.mk' (z := .string ⟨#[]⟩) Tryd.underlying44 (by omega) (by omega) rfl infoStr
theorem split_any (l : List UInt8) (w : World) (hG : Gt w) (hl : l.length ≤ 1000000) :
    Calls Tryd.prog 13 #[.string (bs l), .string ⟨#[32]⟩] w fun e w' => ∃ A c, e = .returned (.slice A (splitP 32 l).length c) ∧ Rv w' A ((splitP 32 l).map sv) ∧ Below w.heap.size w w' := by
  obtain ⟨m, hm⟩ := hG.mx
  refine (Tryd.strings_Split (bs l) ⟨#[32]⟩ m w (by rw [bs_size]; omega) hm (Nat.le_refl 1)).mono ?_
  rintro e w' ⟨rfl, rfl⟩
  rw [countB_P, splitB_P]
  exact ⟨_, _, rfl, Rv_new w _ _ _ rfl, (Below.refl _ _).alloc (Nat.le_refl _) _⟩
theorem joinW_len : ∀ ws : List (List UInt8), (joinW ws).length ≤ ws.length + (ws.map List.length).sum
  | [] => by simp [joinW]
  | w :: ws => by
    have h : ∀ ws : List (List UInt8), (Lib.joinTail [32] ws).length = ws.length + (ws.map List.length).sum := by
      intro ws
      induction ws with
      | nil => rfl
      | cons x ws ih =>
        rw [joinTail_cons, List.length_cons, List.length_append, ih]
        simp
        omega
    rw [joinW, List.length_append, h]
    simp
    omega
theorem join_any (ws : List (List UInt8)) (A : Option Addr) (n c : Nat) (w : World) (hn : ws.length = n) (h0 : 0 < n) (hA : Rv w A (ws.map sv)) (hc : n ≤ c) (hl : (joinW ws).length ≤ 100000000) (hb : n ≤ 1000000) :
    Calls Tryd.prog 12 #[.slice A n c, .string ⟨#[32]⟩] w fun e w' => e = .returned (.string (bs (joinW ws))) ∧ Below w.heap.size w w' := by
  subst hn
  obtain ⟨g, o, rfl, hcell⟩ := hA (by simpa using h0)
  have hmap : ((ws.map bs).map fun x : ByteArray => x.data.toList) = ws := by
    rw [List.map_map]
    conv => rhs; rw [← List.map_id ws]
    refine List.map_congr_left fun x _ => ?_
    exact bs_toList x
  have hlt : g < w.heap.size := by
    obtain ⟨x, hx⟩ : ∃ x, ws[0]? = some x := ⟨_, List.getElem?_eq_getElem h0⟩
    exact cell_lt (hcell 0 (sv x) (by rw [List.getElem?_map, hx]; rfl))
  have h := Tryd.strings_Join g o c (ws.map bs) ⟨#[32]⟩ w (fun j x hj => hcell j (.string x) (by
    rw [List.getElem?_map] at hj ⊢
    cases hx : ws[j]? with
    | none => rw [hx] at hj; cases hj
    | some y => rw [hx] at hj; cases hj; rfl)) hlt (by rw [List.length_map]; omega) (by rw [List.length_map]; exact hc) (by
      rw [hmap]
      show (Lib.join ws [32]).length ≤ _
      rw [join_W]
      omega)
  rw [hmap, List.length_map] at h
  have e : (⟨(Lib.join ws (⟨#[32]⟩ : ByteArray).data.toList).toArray⟩ : ByteArray) = bs (joinW ws) := by
    show bs (Lib.join ws [32]) = _
    rw [join_W]
  rw [e] at h
  exact h

end Go.Proofs.YtleolfpgiaimfaaDoor
