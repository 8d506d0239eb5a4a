/- The library's functions over bytes that the fields' reader calls: their contracts, told over lists of bytes. -/
import Derived.Test.YtcagkoakbdbbaaaGreatDoorJ05
import Derived.Shelf.Strings.SlTrimAscii
import Derived.Test.YtcagkoakbdbbaaaGreatDoorChecked
import Derived.Test.YtcagkoakbdbbaaaGreatDoorShelf
namespace Go.Proofs.YtcagkoakbdbbaaaGreatDoor
set_option linter.unusedVariables false
set_option linter.unusedSimpArgs false
open Go.RowKit

/-- an address as a slice of the program's own bears it -/
def Pl (A : Option Addr) (c : Nat) : Prop := (A = none ∧ c = 0) ∨ ∃ b o, A = some ⟨b, o, none⟩

/-- the second lies in the first one's block -/
def SB (A B : Option Addr) : Prop := ∀ b o, B = some ⟨b, o, none⟩ → ∃ o', A = some ⟨b, o', none⟩
theorem SB.refl (A : Option Addr) : SB A A := fun _ o h => ⟨o, h⟩
theorem SB.trans {A B C : Option Addr} (h : SB A B) (k : SB B C) : SB A C := fun b o e => by
  obtain ⟨o', e'⟩ := k b o e
  exact h b o' e'
/-- cut at the first s -/
def cutAt (s : UInt8) : List UInt8 → Option (List UInt8 × List UInt8)
  | [] => none
  | c :: r => if c = s then some ([], r) else (cutAt s r).map fun p => (c :: p.1, p.2)
theorem cutAt_some {s : UInt8} : ∀ {l a b : List UInt8}, cutAt s l = some (a, b) → l = a ++ s :: b ∧ s ∉ a ∧ Lib.indexByte l s = (a.length : Int)
  | [], _, _, h => by simp [cutAt] at h
  | c :: r, a, b, h => by
    unfold cutAt at h
    by_cases hc : c = s
    · rw [if_pos hc] at h
      cases h
      subst hc
      exact ⟨rfl, by simp, by simp [Lib.indexByte]⟩
    · rw [if_neg hc, Option.map_eq_some_iff] at h
      obtain ⟨⟨a', b'⟩, h1, h2⟩ := h
      cases h2
      obtain ⟨e, hn, hi⟩ := cutAt_some h1
      refine ⟨by rw [e]; rfl, by simp [hn, Ne.symm hc], ?_⟩
      have hne : (c == s) = false := by simpa using hc
      have h1 : (((a'.length : Int)) == -1) = false := by rw [beq_eq_false_iff_ne]; omega
      simp [Lib.indexByte, hne, hi, h1]
theorem cutAt_none {s : UInt8} : ∀ {l : List UInt8}, cutAt s l = none → s ∉ l ∧ Lib.indexByte l s = -1
  | [], _ => ⟨by simp, rfl⟩
  | c :: r, h => by
    unfold cutAt at h
    by_cases hc : c = s
    · rw [if_pos hc] at h
      cases h
    · rw [if_neg hc, Option.map_eq_none_iff] at h
      obtain ⟨hn, hi⟩ := cutAt_none h
      have hne : (c == s) = false := by simpa using hc
      exact ⟨by simp [hn, Ne.symm hc], by simp [Lib.indexByte, hne, hi]⟩

/-- the numbers of bytes -/
def nums (l : List UInt8) : List Int := l.map fun c => (c.toNat : Int)
theorem bytesOf_nums (l : List UInt8) : Lib.bytesOf (nums l) = l := by
  unfold Lib.bytesOf nums
  rw [List.map_map]
  conv => rhs; rw [← List.map_id l]
  apply List.map_congr_left
  intro c _
  simp
theorem nums_len (l : List UInt8) : (nums l).length = l.length := by simp [nums]
theorem nums_getD (l : List UInt8) (i : Nat) (h : i < l.length) : (nums l).getD i 0 = (l[i].toNat : Int) := by
  simp [nums, List.getD, List.getElem?_eq_getElem h]
theorem bytesIn_of {w : World} {A : Option Addr} {l : List UInt8} (h : Rb w A l) : Lib.BytesIn w A l.length (nums l) := fun hp => by
  obtain ⟨b, o, rfl, hc⟩ := h (by simpa using hp)
  refine ⟨b, o, rfl, fun i hi => ?_⟩
  rw [hc i (bv l[i]) (by simp [List.getElem?_eq_getElem hi]), nums_getD l i hi]
  rfl

/-- what bytes.Cut hands back -/
def CutOut (A : Option Addr) (n c : Nat) (l : List UInt8) (s : UInt8) (e : Ending) (w' : World) : Prop :=
  match cutAt s l with
  | some (a, b) => ∃ B d, e = .returned (.tuple #[.slice A a.length c, .slice B b.length d, .bool true]) ∧ Rb w' A a ∧ Rb w' B b ∧ b.length ≤ d ∧ Pl B d ∧ a.length ≤ c ∧ SB A B
  | none => e = .returned (.tuple #[.slice A n c, .slice none 0 0, .bool false])

theorem cut_any (A : Option Addr) (l : List UInt8) (n c b2 o2 d : Nat) (s : UInt8) (w : World) (hn : l.length = n) (hA : Rb w A l) (hnc : n ≤ c) (hpl : Pl A c) (hs : w.cell? ⟨b2, o2, none⟩ = some (bv s)) (hb : n ≤ 1000000000) :
    Calls Tryz.prog 72 #[.slice A n c, .slice (some ⟨b2, o2, none⟩) 1 d] w fun e w' => CutOut A n c l s e w' ∧ Dn w w' := by
  subst hn
  have hidx : Calls Tryz.prog 84 #[.slice A l.length c, .slice (some ⟨b2, o2, none⟩) 1 d] w fun e w' => e = .returned (.int .i64 (Lib.indexByte l s)) ∧ ∃ q, w' = w.drewN q := by
    rcases hpl with ⟨rfl, rfl⟩ | ⟨b, o, rfl⟩
    · have h0 : l = [] := List.eq_nil_of_length_eq_zero (by omega)
      subst h0
      refine (Tryz.bytes_Index_one_nil b2 o2 d (s.toNat : Int) w hs).mono ?_
      rintro e w' ⟨rfl, rfl⟩
      exact ⟨rfl, 0, rfl⟩
    · have h := Tryz.bytes_Index_one_at ⟨b, o, none⟩ l.length c b2 o2 d (nums l) (s.toNat : Int) w (nums_len l) (fun i hi => by
        rw [nums_getD l i hi]
        obtain ⟨b', o', x, e, hx, hc⟩ := hA.one hi
        cases e
        have hx' : l[i] = x := by have := hx.out; rw [List.getElem?_eq_getElem hi] at this; exact Option.some.inj this
        rw [Go.WideShapes.add_plain, hc, hx']) hs
      rw [bytesOf_nums] at h
      refine h.mono ?_
      rintro e w' ⟨rfl, rfl⟩
      refine ⟨?_, 0, rfl⟩
      congr 3
      simp
  cases hcut : cutAt s l with
  | none =>
    obtain ⟨_, hi⟩ := cutAt_none hcut
    rw [hi] at hidx
    refine (Tryz.bytes_Cut_of A (some ⟨b2, o2, none⟩) l.length c 1 d (-1) w hnc (by omega) (by omega) (by omega) hidx).mono ?_
    rintro e w' ⟨rfl, hq⟩
    refine ⟨?_, hq⟩
    unfold CutOut
    rw [hcut]
    rfl
  | some p =>
    obtain ⟨a, b⟩ := p
    obtain ⟨hl, _, hi⟩ := cutAt_some hcut
    rw [hi] at hidx
    have hll : l.length = a.length + b.length + 1 := by rw [hl]; simp; omega
    refine (Tryz.bytes_Cut_of A (some ⟨b2, o2, none⟩) l.length c 1 d (a.length : Int) w hnc (by omega) (by omega) (by omega) hidx).mono ?_
    rintro e w' ⟨rfl, hq⟩
    refine ⟨?_, hq⟩
    obtain ⟨q, rfl⟩ := hq
    unfold CutOut
    rw [hcut]
    have hA' : Rb (w.drewN q) A l := hA.drewN q
    obtain ⟨b0, o0, rfl, _⟩ := hA (by simp; omega)
    have ha : Rb (w.drewN q) (some ⟨b0, o0, none⟩) a := by
      have := hA'.take a.length
      rwa [hl, List.take_left'] at this
      rfl
    have hbr : Rb (w.drewN q) (some ⟨b0, o0 + (a.length + 1), none⟩) b := by
      have := hA'.drop (a.length + 1)
      rwa [hl, show a ++ s :: b = (a ++ [s]) ++ b by simp, List.drop_left' (by simp)] at this
    unfold Lib.cutV
    rw [if_pos (by omega)]
    unfold Lib.fromV
    simp only [Int.toNat_natCast]
    by_cases hc : c = a.length + 1
    · rw [if_pos hc]
      have hb0 : b = [] := List.eq_nil_of_length_eq_zero (by omega)
      subst hb0
      refine ⟨_, c - (a.length + 1), ?_, ha, Rb.nil _ _, by simp, .inr ⟨b0, o0, rfl⟩, by omega, SB.refl _⟩
      congr 5
      simp at hll ⊢
      omega
    · rw [if_neg hc]
      refine ⟨_, c - (a.length + 1), ?_, ha, hbr, by omega, .inr ⟨_, _, rfl⟩, by omega, fun b o e => by cases e; exact ⟨o0, rfl⟩⟩
      have e1 : l.length - (a.length + 1) = b.length := by omega
      rw [e1, Option.map_some, Go.WideShapes.add_plain]

/-- without a CR at its end -/
def deCr (l : List UInt8) : List UInt8 := if l.getLast? = some 13 then l.take (l.length - 1) else l
theorem hasSuffix_one (l : List UInt8) (c : UInt8) : Lib.hasSuffix l [c] = true ↔ l.getLast? = some c := by
  unfold Lib.hasSuffix
  rw [List.isSuffixOf_iff_suffix]
  constructor
  · rintro ⟨t, rfl⟩
    simp
  · intro h
    obtain ⟨t, rfl⟩ := List.getLast?_eq_some_iff.1 h
    exact ⟨t, rfl⟩
theorem trimCr_any (A : Option Addr) (l : List UInt8) (n c b2 o2 d : Nat) (w : World) (hn : l.length = n) (hA : Rb w A l) (hnc : n ≤ c) (hs : w.cell? ⟨b2, o2, none⟩ = some (bv 13)) (hb : n ≤ 1000000000) :
    Calls Tryz.prog 57 #[.slice A n c, .slice (some ⟨b2, o2, none⟩) 1 d] w fun e w' => e = .returned (.slice A (deCr l).length c) ∧ w' = w := by
  subst hn
  have h13 : Rb w (some ⟨b2, o2, none⟩) [13] := fun _ => ⟨b2, o2, rfl, fun j v hj => by
    match j with
    | 0 => simp at hj; rw [← hj]; exact hs
    | j + 1 => simp at hj⟩
  refine (Tryz.bytes_TrimSuffix_all A (some ⟨b2, o2, none⟩) l.length c 1 d (nums l) [13] w (nums_len l) rfl hnc (by omega) (bytesIn_of hA) (bytesIn_of h13)).mono ?_
  rintro e w' ⟨rfl, rfl⟩
  refine ⟨?_, rfl⟩
  congr 1
  by_cases hl : 0 < l.length
  · obtain ⟨b, o, rfl, _⟩ := hA (by simpa using hl)
    show Lib.bytesTrimSuffix b o l.length c (nums l) [13] = _
    unfold Lib.bytesTrimSuffix deCr
    rw [bytesOf_nums]
    have e13 : Lib.bytesOf [13] = [13] := rfl
    rw [e13]
    by_cases h : l.getLast? = some 13
    · rw [if_pos ((hasSuffix_one l 13).2 h), if_pos h]
      unfold Lib.sliceTo
      congr 1
      simp
    · rw [if_neg (fun k => h ((hasSuffix_one l 13).1 k)), if_neg h]
  · have : l = [] := List.eq_nil_of_length_eq_zero (by omega)
    subst this
    unfold Lib.trimSuffixV
    split
    · rfl
    · rfl

theorem clone_any (A : Option Addr) (l : List UInt8) (n c : Nat) (w : World) (hn : l.length = n) (hA : Rb w A l) (hnc : n ≤ c) (hpl : Pl A c) (hb : n ≤ 1000000000) :
    Calls Tryz.prog 23 #[.slice A n c] w fun e w' => (∃ v, e = .returned v ∧ w'.ownsRow w.heap.size 5 1 v n (l.map bv)) ∧ Below w.heap.size w w' := by
  subst hn
  rcases hpl with ⟨rfl, rfl⟩ | ⟨b, o, rfl⟩
  · have h0 : l = [] := List.eq_nil_of_length_eq_zero (by omega)
    subst h0
    refine (AnyE.slices_Clone_nil Tryz.cloneB 0 0 w).mono ?_
    rintro e w' ⟨rfl, rfl⟩
    exact ⟨⟨_, rfl, World.ownsRow_nil _ _ _ _⟩, Below.refl _ _⟩
  · obtain ⟨i0, h1, h2, h3, h4⟩ := info_parts infoU8
    refine (AnyE.slices_Clone Tryz.cloneB i0 (.int .u8 0) 1 1 h1 h2 h3 h4 rfl (by omega) Tryz.sizeOf5 b o l.length c (l.map bv) w (by simp) (by unfold maxLen; omega) (by omega) (fun j u hj => ?_) (bv_one l)).mono ?_
    · obtain ⟨b', o', e, hc⟩ := hA (by have := lt_of_get hj; omega)
      cases e
      exact hc j u hj
    · rintro e w' ⟨v, rfl, hv, _, hb⟩
      exact ⟨⟨v, rfl, hv⟩, hb⟩

/-- without blanks at its ends -/
def trimB (l : List UInt8) : List UInt8 := Lib.trimS l [32, 9]
theorem trim_any (l : List UInt8) (w : World) (hb : l.length ≤ 1000000000) :
    Calls Tryz.prog 36 #[.string (bs l), .string ⟨#[32, 9]⟩] w fun e w' => e = .returned (.string (bs (trimB l))) ∧ Below w.heap.size w w' := by
  have h := Any.strings_Trim_laid Tryz.lays160 (by kernel_rfl) (bs l) ⟨#[32, 9]⟩ w (by rw [bs_size]; omega) (by decide) (ascii_of_all (by decide))
  rw [bs_toList] at h
  exact h
end Go.Proofs.YtcagkoakbdbbaaaGreatDoor
