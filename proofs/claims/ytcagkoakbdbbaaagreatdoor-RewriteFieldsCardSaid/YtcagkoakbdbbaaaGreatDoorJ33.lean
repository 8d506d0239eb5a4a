/- Plain: letters that are changed change no line, and no name's length. · Plain: a field whose name's letters are changed is a field. -/
import Derived.Test.YtcagkoakbdbbaaaGreatDoorJ13
import Derived.Test.YtcagkoakbdbbaaaGreatDoorJ23
namespace Go.Proofs.YtcagkoakbdbbaaaGreatDoor
set_option linter.unusedVariables false
set_option linter.unusedSimpArgs false

/-- alike, as far as lines and names go -/
def Alk (c d : UInt8) : Prop := (c = 10 ↔ d = 10) ∧ (c = 13 ↔ d = 13) ∧ (c = 58 ↔ d = 58)
inductive Al2 : List UInt8 → List UInt8 → Prop
  | nil : Al2 [] []
  | cons {c d : UInt8} {l m : List UInt8} : Alk c d → Al2 l m → Al2 (c :: l) (d :: m)
theorem Al2.len {l m : List UInt8} (h : Al2 l m) : l.length = m.length := by
  induction h with
  | nil => rfl
  | cons _ _ ih => simp [ih]
theorem Al2.snd {l m : List UInt8} (h : Al2 l m) : ((fl l).headD []).length = ((fl m).headD []).length ∧ Al2 ((fl l).headD []) ((fl m).headD []) := by
  induction h with
  | nil => exact ⟨rfl, .nil⟩
  | @cons c d l m hc hl ih =>
    by_cases h10 : c = 10
    · have hd := hc.1.1 h10
      simp only [fl, h10, hd, if_true]
      exact ⟨rfl, .cons (by rw [h10, hd] at hc; exact hc) .nil⟩
    · have hd : d ≠ 10 := fun e => h10 (hc.1.2 e)
      have e1 : (fl (c :: l)).headD [] = c :: (fl l).headD [] := by
        rw [fl, if_neg h10]
        cases fl l <;> rfl
      have e2 : (fl (d :: m)).headD [] = d :: (fl m).headD [] := by
        rw [fl, if_neg hd]
        cases fl m <;> rfl
      rw [e1, e2]
      exact ⟨by rw [List.length_cons, List.length_cons, ih.1], .cons hc ih.2⟩
theorem Al2.last {l m : List UInt8} (h : Al2 l m) (s : UInt8) (hs : s = 10 ∨ s = 13) : l.getLast? = some s ↔ m.getLast? = some s := by
  induction h with
  | nil => simp
  | @cons c d l m hc hl ih =>
    cases hl with
    | nil =>
      simp only [List.getLast?_singleton, Option.some.injEq]
      rcases hs with rfl | rfl
      · exact hc.1
      · exact hc.2.1
    | cons h1 h2 =>
      rw [List.getLast?_cons_cons, List.getLast?_cons_cons]
      exact ih
theorem Al2.init {l m : List UInt8} (h : Al2 l m) : Al2 l.dropLast m.dropLast := by
  induction h with
  | nil => exact .nil
  | @cons c d l m hc hl ih =>
    cases hl with
    | nil => exact .nil
    | cons h1 h2 => exact .cons hc ih
theorem Al2.cutc {l m : List UInt8} (h : Al2 l m) : Al2 (cutC 13 l) (cutC 13 m) := by
  unfold cutC
  by_cases h1 : l.getLast? = some 13
  · rw [if_pos h1, if_pos ((h.last 13 (.inr rfl)).1 h1)]
    exact h.init
  · rw [if_neg h1, if_neg (fun e => h1 ((h.last 13 (.inr rfl)).2 e))]
    exact h
theorem Al2.text {l m : List UInt8} (h : Al2 l m) : Al2 (textL l) (textL m) := by
  unfold textL
  by_cases h1 : l.getLast? = some 10
  · rw [if_pos h1, if_pos ((h.last 10 (.inl rfl)).1 h1)]
    exact h.init.cutc
  · rw [if_neg h1, if_neg (fun e => h1 ((h.last 10 (.inl rfl)).2 e))]
    exact h
theorem Al2.cut {l m : List UInt8} (h : Al2 l m) : ((cutAt 58 l).map fun p => p.1.length) = (cutAt 58 m).map fun p => p.1.length := by
  induction h with
  | nil => rfl
  | @cons c d l m hc hl ih =>
    unfold cutAt
    by_cases h1 : c = 58
    · rw [if_pos h1, if_pos (hc.2.2.1 h1)]
      rfl
    · rw [if_neg h1, if_neg (fun e => h1 (hc.2.2.2 e)), Option.map_map, Option.map_map]
      cases hl2 : cutAt 58 l <;> cases hm2 : cutAt 58 m <;> rw [hl2, hm2] at ih <;> simp at ih ⊢
      exact ih
theorem Al2.name {l m : List UInt8} (h : Al2 l m) : (nameL l).length = (nameL m).length := by
  have h1 := h.snd.2.text.cut
  unfold nameL
  cases hl : cutAt 58 (textL ((fl l).headD [])) <;> cases hm : cutAt 58 (textL ((fl m).headD [])) <;> rw [hl, hm] at h1 <;> simp at h1 ⊢
  exact h1
theorem cap_alk (bit : Bool) (c : UInt8) : Alk c (capB bit c) := by
  have key : ∀ (n : Fin 256), (decide (UInt8.ofNat n.1 = 10) == decide (capB bit (UInt8.ofNat n.1) = 10)) && (decide (UInt8.ofNat n.1 = 13) == decide (capB bit (UInt8.ofNat n.1) = 13)) && (decide (UInt8.ofNat n.1 = 58) == decide (capB bit (UInt8.ofNat n.1) = 58)) = true := by
    cases bit <;> decide +kernel
  have h := key ⟨c.toNat, c.toNat_lt⟩
  simp only [UInt8.ofNat_toNat, Bool.and_eq_true, beq_iff_eq, decide_eq_decide] at h
  exact ⟨h.1.1, h.1.2, of_decide_eq_true h.2⟩
theorem cap_cap (bit : Bool) (c : UInt8) : capB bit (capB bit c) = capB bit c := by
  have key : ∀ (n : Fin 256), capB bit (capB bit (UInt8.ofNat n.1)) = capB bit (UInt8.ofNat n.1) := by
    cases bit <;> decide +kernel
  have h := key ⟨c.toNat, c.toNat_lt⟩
  simpa only [UInt8.ofNat_toNat] using h
theorem al2_of {l m : List UInt8} (hl : l.length = m.length) (h : ∀ (i : Nat) (c d : UInt8), l[i]? = some c → m[i]? = some d → Alk c d) : Al2 l m := by
  induction l generalizing m with
  | nil => cases m with
    | nil => exact .nil
    | cons d m => simp at hl
  | cons c l ih => cases m with
    | nil => simp at hl
    | cons d m => exact .cons (h 0 c d rfl rfl) (ih (by simpa using hl) fun i c d h1 h2 => h (i + 1) c d h1 h2)
theorem letters_alk (m : Int) (i : Nat) (f : List UInt8) : Al2 f (lettersG m i f) := by
  refine al2_of (lg_len m i f).symm fun j c d h1 h2 => ?_
  rw [lg_get, h1] at h2
  cases h2
  show Alk c (if j < i then _ else c)
  split
  · exact cap_alk _ c
  · exact ⟨Iff.rfl, Iff.rfl, Iff.rfl⟩
/-- letters that are changed twice are as changed once -/
theorem letters_again (m : Int) (f : List UInt8) : lettersL m (lettersL m f) = lettersL m f := by
  have hk : (nameL (lettersL m f)).length = (nameL f).length := (letters_alk m (nameL f).length f).name.symm
  have e1 : lettersL m (lettersL m f) = lettersG m (nameL f).length (lettersG m (nameL f).length f) := by
    conv => lhs; unfold lettersL
    rw [show lettersG m (nameL f).length f = lettersL m f from rfl, hk]
  rw [e1]
  apply List.ext_getElem?
  intro j
  rw [lg_get, lg_get]
  show _ = (lettersG m (nameL f).length f)[j]?
  rw [lg_get]
  cases f[j]? with
  | none => rfl
  | some c =>
    simp only [Option.map_some]
    split
    · rw [cap_cap]
    · rfl
end Go.Proofs.YtcagkoakbdbbaaaGreatDoor

namespace Go.Proofs.YtcagkoakbdbbaaaGreatDoor
set_option linter.unusedVariables false
set_option linter.unusedSimpArgs false
open Go.RowKit

theorem cap_blank (bit : Bool) (c : UInt8) : blankB c = blankB (capB bit c) := by
  have key : ∀ (n : Fin 256), blankB (UInt8.ofNat n.1) = blankB (capB bit (UInt8.ofNat n.1)) := by
    cases bit <;> decide +kernel
  have h := key ⟨c.toNat, c.toNat_lt⟩
  simpa only [UInt8.ofNat_toNat] using h
/-- alike, as far as lines, names and blanks go -/
inductive A3 : List UInt8 → List UInt8 → Prop
  | nil : A3 [] []
  | cons {c d : UInt8} {l m : List UInt8} : Alk c d → blankB c = blankB d → A3 l m → A3 (c :: l) (d :: m)
inductive L3 : List (List UInt8) → List (List UInt8) → Prop
  | nil : L3 [] []
  | cons {a b : List UInt8} {l m : List (List UInt8)} : A3 a b → L3 l m → L3 (a :: l) (b :: m)
theorem A3.al2 {l m : List UInt8} (h : A3 l m) : Al2 l m := by
  induction h with
  | nil => exact .nil
  | cons h1 _ _ ih => exact .cons h1 ih
theorem A3.fl {l m : List UInt8} (h : A3 l m) : L3 (fl l) (fl m) := by
  induction h with
  | nil => exact .nil
  | @cons c d l m h1 h2 h3 ih =>
    rw [fl_cons, fl_cons]
    by_cases h10 : c = 10
    · rw [if_pos h10, if_pos (h1.1.1 h10)]
      exact .cons (.cons h1 h2 .nil) ih
    · rw [if_neg h10, if_neg (fun e => h10 (h1.1.2 e))]
      revert ih
      generalize Go.Proofs.YtcagkoakbdbbaaaGreatDoor.fl l = x
      generalize Go.Proofs.YtcagkoakbdbbaaaGreatDoor.fl m = y
      intro ih
      cases ih with
      | nil => exact .cons (.cons h1 h2 .nil) .nil
      | cons ha hl => exact .cons (.cons h1 h2 ha) hl
theorem A3.split {t u m : List UInt8} (h : A3 (t ++ u) m) : ∃ t' u', m = t' ++ u' ∧ A3 t t' ∧ A3 u u' := by
  induction t generalizing m with
  | nil => exact ⟨[], m, rfl, .nil, h⟩
  | cons c t ih =>
    cases h with
    | cons h1 h2 h3 =>
      obtain ⟨t', u', rfl, k1, k2⟩ := ih h3
      exact ⟨_ :: t', u', rfl, .cons h1 h2 k1, k2⟩
theorem A3.nolf {l m : List UInt8} (h : A3 l m) (hl : ∀ x ∈ l, x ≠ 10) : ∀ x ∈ m, x ≠ 10 := by
  induction h with
  | nil => exact hl
  | @cons c d l m h1 h2 h3 ih =>
    intro x hx
    rcases List.mem_cons.1 hx with rfl | hx
    · intro e
      exact hl c List.mem_cons_self (h1.1.2 e)
    · exact ih (fun y hy => hl y (List.mem_cons_of_mem _ hy)) x hx
theorem A3.blank {l m : List UInt8} (h : A3 l m) : blank1 l = blank1 m := by
  cases h with
  | nil => rfl
  | cons h1 h2 h3 => exact h2
theorem A3.line {l m : List UInt8} (h : A3 l m) (hl : LnR l) : LnR m := by
  obtain ⟨⟨t, rfl, ht⟩, h2⟩ := hl
  have h3 := h.al2.text.len
  obtain ⟨t', u', rfl, k1, k2⟩ := h.split
  cases k2 with
  | cons a1 a2 a3 =>
    cases a3
    have e := a1.1.1 rfl
    subst e
    refine ⟨⟨t', rfl, k1.nolf ht⟩, fun e => ?_⟩
    rw [e] at h3
    exact h2 (List.eq_nil_of_length_eq_zero h3)
theorem L3.all {l m : List (List UInt8)} (h : L3 l m) {p : List UInt8 → Prop} (hp : ∀ a b, A3 a b → p a → p b) (hl : ∀ x ∈ l, p x) : ∀ x ∈ m, p x := by
  induction h with
  | nil => exact hl
  | @cons a b l m h1 h2 ih =>
    intro x hx
    rcases List.mem_cons.1 hx with rfl | hx
    · exact hp a _ h1 (hl a List.mem_cons_self)
    · exact ih (fun y hy => hl y (List.mem_cons_of_mem _ hy)) x hx
theorem A3.gf {f g : List UInt8} (h : A3 f g) (hf : GF f) : GF g := by
  obtain ⟨⟨l, ls, e, h1, h2⟩, h3⟩ := hf
  have h4 := h.fl
  rw [e] at h4
  refine ⟨?_, by rw [← h.blank]; exact h3⟩
  revert h4
  generalize hq : Go.Proofs.YtcagkoakbdbbaaaGreatDoor.fl g = y
  intro h4
  cases h4 with
  | @cons _ b _ m k1 k2 =>
    exact ⟨b, m, hq, k2.all (p := fun x => blank1 x = true) (fun a b hab ha => by rw [← hab.blank]; exact ha) h1, (L3.cons k1 k2).all (p := LnR) (fun a b hab ha => hab.line ha) h2⟩
theorem a3_of {l m : List UInt8} (hl : l.length = m.length) (h : ∀ (i : Nat) (c d : UInt8), l[i]? = some c → m[i]? = some d → Alk c d ∧ blankB c = blankB d) : A3 l m := by
  induction l generalizing m with
  | nil => cases m with
    | nil => exact .nil
    | cons d m => simp at hl
  | cons c l ih => cases m with
    | nil => simp at hl
    | cons d m => exact .cons (h 0 c d rfl rfl).1 (h 0 c d rfl rfl).2 (ih (by simpa using hl) fun i c d h1 h2 => h (i + 1) c d h1 h2)
theorem letters_a3 (m : Int) (f : List UInt8) : A3 f (lettersL m f) := by
  refine a3_of (lg_len m _ f).symm fun j c d h1 h2 => ?_
  unfold lettersL at h2
  rw [lg_get, h1] at h2
  cases h2
  show Alk c (if j < _ then _ else c) ∧ blankB c = blankB (if j < _ then _ else c)
  split
  · exact ⟨cap_alk _ c, cap_blank _ c⟩
  · exact ⟨⟨Iff.rfl, Iff.rfl, Iff.rfl⟩, rfl⟩
theorem letters_right {f : List UInt8} (m : Int) (h : GF f) : GF (lettersL m f) := (letters_a3 m f).gf h
end Go.Proofs.YtcagkoakbdbbaaaGreatDoor
