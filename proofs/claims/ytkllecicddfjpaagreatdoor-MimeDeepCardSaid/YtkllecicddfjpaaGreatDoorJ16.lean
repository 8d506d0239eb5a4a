/- Names and values: field's own tests. · The library's functions over bytes that the fields' reader calls: their contracts, told over lists of bytes. · Values, and whether two names are one: field's own tests. -/
import Derived.Test.YtkllecicddfjpaaGreatDoorJ05
import Derived.Test.YtkllecicddfjpaaGreatDoorJ03
import Derived.Test.YtkllecicddfjpaaGreatDoorChecked
import Derived.Shelf.Strings.SlTrimAscii
import Derived.Test.YtkllecicddfjpaaGreatDoorShelf
namespace Go.Proofs.YtkllecicddfjpaaGreatDoor
namespace Fd
set_option linter.unusedVariables false
set_option linter.unusedSimpArgs false
open Go.RowKit

set_option maxHeartbeats 400000 in
theorem fblank_any (c : UInt8) (w : World) :
    Calls Tryz.prog 171 #[.int .u8 (c.toNat : Int)] w fun e w' => e = .returned (.bool (blk c)) ∧ w = w' := by
  rcases blk_cases c with ⟨hb, h | ⟨h', h⟩⟩ | ⟨hb, h, h'⟩
  all_goals
    have HB := Lib.hid hb
    clear hb
    go_enter Tryz.func171, Tryz.ntmps171
    go_wp2_with fail
    go_ret
    exact ⟨ret_bool (by rw [HB.out]; all_goals (simp [h] <;> omega)), rfl⟩

set_option maxRecDepth 100000 in
set_option maxHeartbeats 400000 in
theorem fname_any (l : List UInt8) (w : World) (hl : l.length ≤ 9223372036854775807) :
    Calls Tryz.prog 106 #[.string (bs l)] w fun e w' => e = .returned (.bool (nmOk l)) ∧ Below w.heap.size w w' := by
  obtain ⟨c, W, hcv, hown, hB, _⟩ := conv_bs (P := Tryz.prog) (src := 9) (dst := 22) Tryz.underlying9 Tryz.underlying22 Tryz.underlying5 w l (by unfold maxLen; omega)
  go_enter Tryz.func106, Tryz.ntmps106
  obtain ⟨g, hg⟩ : ∃ g, decide (1 ≤ l.length ∧ l.length ≤ 64) = g := ⟨_, rfl⟩
  obtain ⟨A, _, hA, _, _, hR, _⟩ := hown.form
  cases hA
  have hRb : Rb W _ l := hR
  have hres : nmOk l = (l.all nmc && g) := by rw [← hg]; rfl
  have HR := Lib.hid hres
  have HG := Lib.hid hg
  clear hres hR hown hg
  rcases (by omega : l.length = 0 ∨ (1 ≤ l.length ∧ l.length ≤ 64) ∨ (1 ≤ l.length ∧ ¬ l.length ≤ 64)) with h1 | h1
  · have h0 : nmOk l = false := by rw [List.eq_nil_of_length_eq_zero h1]; rfl
    have H0 := Lib.hid h0
    clear h0
    go_wp2_with fail
    go_loopw [3, 17] (fun v i wr => v = .bool false ∧ i = .int .i64 0 ∧ wr = W) (fun _ _ _ => 0)
    case atStart => exact ⟨rfl, rfl, rfl⟩
    case round =>
      obtain ⟨rfl, rfl, rfl⟩ := hrel
      go_wp2_with fail
      go_ret
      exact ⟨ret_bool H0.out.symm, hB⟩
  rcases h1 with ⟨h1, h2⟩ | ⟨h1, h2⟩
  all_goals
    go_wp2_with fail
    go_loopw [3, 17] (fun v i wr => ∃ q : Nat, i = .int .i64 q ∧ q ≤ l.length ∧ v = .bool (g && (l.take q).all nmc) ∧ Dn W wr) (fun _ i _ => l.length - (intOf i).toNat)
    case atStart =>
      refine ⟨0, rfl, by omega, ?_, Dn.refl _⟩
      refine congrArg Value.bool ?_
      rw [← HG.out, Bool.eq_iff_iff]
      first
        | (simp only [List.take_zero, List.all_nil, Bool.and_true, decide_eq_true_eq]; omega)
        | (simp; omega)
    case round =>
      obtain ⟨q, rfl, hq, rfl, hd⟩ := hrel
      by_cases hlt : q < l.length
      · obtain ⟨b, o, x, e, hx, hcell⟩ := (hRb.below (hd.below _)).one hlt
        cases e
        rw [Nat.zero_add] at hcell
        have hst : (g && (l.take (q + 1)).all nmc) = ((g && (l.take q).all nmc) && nmc x) := by rw [all_take nmc _ hx.out, Bool.and_assoc]
        have HST := Lib.hid hst
        clear hst
        rcases Bool.eq_false_or_eq_true (g && (l.take q).all nmc) with hG | hG
        · rw [hG] at HST ⊢
          have hx2 : (nmc x = true ∧ (32 : Int) < (x.toNat : Int) ∧ (x.toNat : Int) ≤ 126 ∧ ((x.toNat : Int) != 58) = true) ∨ (nmc x = false ∧ (¬ (32 : Int) < (x.toNat : Int) ∨ ((32 : Int) < (x.toNat : Int) ∧ ¬ (x.toNat : Int) ≤ 126) ∨ ((32 : Int) < (x.toNat : Int) ∧ (x.toNat : Int) ≤ 126 ∧ ((x.toNat : Int) != 58) = false))) := by
            rcases Bool.eq_false_or_eq_true (nmc x) with h | h
            · have := (nmc_iff x).1 h
              exact .inl ⟨h, by omega, by omega, by rw [bne_iff_ne]; omega⟩
            · refine .inr ⟨h, ?_⟩
              have h' : ¬ nmc x = true := by simp [h]
              rw [nmc_iff] at h'
              rw [bne_eq_false_iff_eq]
              omega
          rcases hx2 with ⟨hn, k1, k2, k3⟩ | ⟨hn, k1 | ⟨k1, k2⟩ | ⟨k1, k2, k3⟩⟩
          all_goals
            rw [hn] at HST
            clear hn
            go_wp2_with fail
            go_roundw
            case rel => exact ⟨q + 1, by go_num, by omega, by rw [HST.out]; rfl, hd⟩
            case measure => simp [intOf]; omega
        · rw [hG] at HST ⊢
          go_wp2_with fail
          go_roundw
          case rel => exact ⟨q + 1, by go_num, by omega, by rw [HST.out]; rfl, hd⟩
          case measure => simp [intOf]; omega
      · obtain rfl : q = l.length := by omega
        have ha : (g && (l.take l.length).all nmc) = nmOk l := by rw [List.take_length, Bool.and_comm]; exact HR.out.symm
        rw [ha]
        clear ha
        go_wp2_with fail
        go_ret
        exact ⟨rfl, hB.trans ((hd.below _).mono hB.size)⟩
end Fd
end Go.Proofs.YtkllecicddfjpaaGreatDoor

namespace Go.Proofs.YtkllecicddfjpaaGreatDoor
set_option linter.unusedVariables false
set_option linter.unusedSimpArgs false
open Go.RowKit

/-- an address as a slice of the program's own bears it -/
def Pl (A : Option Addr) (c : Nat) : Prop := (A = none ∧ c = 0) ∨ ∃ b o, A = some ⟨b, o, none⟩

/-- the second lies in the first one's block -/
def SB (A B : Option Addr) : Prop := ∀ b o, B = some ⟨b, o, none⟩ → ∃ o', A = some ⟨b, o', none⟩
theorem SB.refl (A : Option Addr) : SB A A := fun _ o h => ⟨o, h⟩
theorem SB.trans {A B C : Option Addr} (h : SB A B) (k : SB B C) : SB A C := fun b o e => by
  obtain ⟨o', e'⟩ := k b o e
  exact h b o' e'
/-- cut at the first s -/
def cutAt (s : UInt8) : List UInt8 → Option (List UInt8 × List UInt8)
  | [] => none
  | c :: r => if c = s then some ([], r) else (cutAt s r).map fun p => (c :: p.1, p.2)
theorem cutAt_some {s : UInt8} : ∀ {l a b : List UInt8}, cutAt s l = some (a, b) → l = a ++ s :: b ∧ s ∉ a ∧ Lib.indexByte l s = (a.length : Int)
  | [], _, _, h => by simp [cutAt] at h
  | c :: r, a, b, h => by
    unfold cutAt at h
    by_cases hc : c = s
    · rw [if_pos hc] at h
      cases h
      subst hc
      exact ⟨rfl, by simp, by simp [Lib.indexByte]⟩
    · rw [if_neg hc, Option.map_eq_some_iff] at h
      obtain ⟨⟨a', b'⟩, h1, h2⟩ := h
      cases h2
      obtain ⟨e, hn, hi⟩ := cutAt_some h1
      refine ⟨by rw [e]; rfl, by simp [hn, Ne.symm hc], ?_⟩
      have hne : (c == s) = false := by simpa using hc
      have h1 : (((a'.length : Int)) == -1) = false := by rw [beq_eq_false_iff_ne]; omega
      simp [Lib.indexByte, hne, hi, h1]
theorem cutAt_none {s : UInt8} : ∀ {l : List UInt8}, cutAt s l = none → s ∉ l ∧ Lib.indexByte l s = -1
  | [], _ => ⟨by simp, rfl⟩
  | c :: r, h => by
    unfold cutAt at h
    by_cases hc : c = s
    · rw [if_pos hc] at h
      cases h
    · rw [if_neg hc, Option.map_eq_none_iff] at h
      obtain ⟨hn, hi⟩ := cutAt_none h
      have hne : (c == s) = false := by simpa using hc
      exact ⟨by simp [hn, Ne.symm hc], by simp [Lib.indexByte, hne, hi]⟩

/-- the numbers of bytes -/
def nums (l : List UInt8) : List Int := l.map fun c => (c.toNat : Int)
theorem bytesOf_nums (l : List UInt8) : Lib.bytesOf (nums l) = l := by
  unfold Lib.bytesOf nums
  rw [List.map_map]
  conv => rhs; rw [← List.map_id l]
  apply List.map_congr_left
  intro c _
  simp
theorem nums_len (l : List UInt8) : (nums l).length = l.length := by simp [nums]
theorem nums_getD (l : List UInt8) (i : Nat) (h : i < l.length) : (nums l).getD i 0 = (l[i].toNat : Int) := by
  simp [nums, List.getD, List.getElem?_eq_getElem h]
theorem bytesIn_of {w : World} {A : Option Addr} {l : List UInt8} (h : Rb w A l) : Lib.BytesIn w A l.length (nums l) := fun hp => by
  obtain ⟨b, o, rfl, hc⟩ := h (by simpa using hp)
  refine ⟨b, o, rfl, fun i hi => ?_⟩
  rw [hc i (bv l[i]) (by simp [List.getElem?_eq_getElem hi]), nums_getD l i hi]
  rfl

/-- what bytes.Cut hands back -/
def CutOut (A : Option Addr) (n c : Nat) (l : List UInt8) (s : UInt8) (e : Ending) (w' : World) : Prop :=
  match cutAt s l with
  | some (a, b) => ∃ B d, e = .returned (.tuple #[.slice A a.length c, .slice B b.length d, .bool true]) ∧ Rb w' A a ∧ Rb w' B b ∧ b.length ≤ d ∧ Pl B d ∧ a.length ≤ c ∧ SB A B
  | none => e = .returned (.tuple #[.slice A n c, .slice none 0 0, .bool false])

theorem cut_any (A : Option Addr) (l : List UInt8) (n c b2 o2 d : Nat) (s : UInt8) (w : World) (hn : l.length = n) (hA : Rb w A l) (hnc : n ≤ c) (hpl : Pl A c) (hs : w.cell? ⟨b2, o2, none⟩ = some (bv s)) (hb : n ≤ 1000000000) :
    Calls Tryz.prog 149 #[.slice A n c, .slice (some ⟨b2, o2, none⟩) 1 d] w fun e w' => CutOut A n c l s e w' ∧ Dn w w' := by
  subst hn
  have hidx : Calls Tryz.prog 199 #[.slice A l.length c, .slice (some ⟨b2, o2, none⟩) 1 d] w fun e w' => e = .returned (.int .i64 (Lib.indexByte l s)) ∧ ∃ q, w' = w.drewN q := by
    rcases hpl with ⟨rfl, rfl⟩ | ⟨b, o, rfl⟩
    · have h0 : l = [] := List.eq_nil_of_length_eq_zero (by omega)
      subst h0
      refine (Tryz.bytes_Index_one_nil b2 o2 d (s.toNat : Int) w hs).mono ?_
      rintro e w' ⟨rfl, rfl⟩
      exact ⟨rfl, 0, rfl⟩
    · have h := Tryz.bytes_Index_one_at ⟨b, o, none⟩ l.length c b2 o2 d (nums l) (s.toNat : Int) w (nums_len l) (fun i hi => by
        rw [nums_getD l i hi]
        obtain ⟨b', o', x, e, hx, hc⟩ := hA.one hi
        cases e
        have hx' : l[i] = x := by have := hx.out; rw [List.getElem?_eq_getElem hi] at this; exact Option.some.inj this
        rw [Go.WideShapes.add_plain, hc, hx']) hs
      rw [bytesOf_nums] at h
      refine h.mono ?_
      rintro e w' ⟨rfl, rfl⟩
      refine ⟨?_, 0, rfl⟩
      congr 3
      simp
  cases hcut : cutAt s l with
  | none =>
    obtain ⟨_, hi⟩ := cutAt_none hcut
    rw [hi] at hidx
    refine (Tryz.bytes_Cut_of A (some ⟨b2, o2, none⟩) l.length c 1 d (-1) w hnc (by omega) (by omega) (by omega) hidx).mono ?_
    rintro e w' ⟨rfl, hq⟩
    refine ⟨?_, hq⟩
    unfold CutOut
    rw [hcut]
    rfl
  | some p =>
    obtain ⟨a, b⟩ := p
    obtain ⟨hl, _, hi⟩ := cutAt_some hcut
    rw [hi] at hidx
    have hll : l.length = a.length + b.length + 1 := by rw [hl]; simp; omega
    refine (Tryz.bytes_Cut_of A (some ⟨b2, o2, none⟩) l.length c 1 d (a.length : Int) w hnc (by omega) (by omega) (by omega) hidx).mono ?_
    rintro e w' ⟨rfl, hq⟩
    refine ⟨?_, hq⟩
    obtain ⟨q, rfl⟩ := hq
    unfold CutOut
    rw [hcut]
    have hA' : Rb (w.drewN q) A l := hA.drewN q
    obtain ⟨b0, o0, rfl, _⟩ := hA (by simp; omega)
    have ha : Rb (w.drewN q) (some ⟨b0, o0, none⟩) a := by
      have := hA'.take a.length
      rwa [hl, List.take_left'] at this
      rfl
    have hbr : Rb (w.drewN q) (some ⟨b0, o0 + (a.length + 1), none⟩) b := by
      have := hA'.drop (a.length + 1)
      rwa [hl, show a ++ s :: b = (a ++ [s]) ++ b by simp, List.drop_left' (by simp)] at this
    unfold Lib.cutV
    rw [if_pos (by omega)]
    unfold Lib.fromV
    simp only [Int.toNat_natCast]
    by_cases hc : c = a.length + 1
    · rw [if_pos hc]
      have hb0 : b = [] := List.eq_nil_of_length_eq_zero (by omega)
      subst hb0
      refine ⟨_, c - (a.length + 1), ?_, ha, Rb.nil _ _, by simp, .inr ⟨b0, o0, rfl⟩, by omega, SB.refl _⟩
      congr 5
      simp at hll ⊢
      omega
    · rw [if_neg hc]
      refine ⟨_, c - (a.length + 1), ?_, ha, hbr, by omega, .inr ⟨_, _, rfl⟩, by omega, fun b o e => by cases e; exact ⟨o0, rfl⟩⟩
      have e1 : l.length - (a.length + 1) = b.length := by omega
      rw [e1, Option.map_some, Go.WideShapes.add_plain]

/-- without a CR at its end -/
def deCr (l : List UInt8) : List UInt8 := if l.getLast? = some 13 then l.take (l.length - 1) else l
theorem hasSuffix_one (l : List UInt8) (c : UInt8) : Lib.hasSuffix l [c] = true ↔ l.getLast? = some c := by
  unfold Lib.hasSuffix
  rw [List.isSuffixOf_iff_suffix]
  constructor
  · rintro ⟨t, rfl⟩
    simp
  · intro h
    obtain ⟨t, rfl⟩ := List.getLast?_eq_some_iff.1 h
    exact ⟨t, rfl⟩
theorem trimCr_any (A : Option Addr) (l : List UInt8) (n c b2 o2 d : Nat) (w : World) (hn : l.length = n) (hA : Rb w A l) (hnc : n ≤ c) (hs : w.cell? ⟨b2, o2, none⟩ = some (bv 13)) (hb : n ≤ 1000000000) :
    Calls Tryz.prog 150 #[.slice A n c, .slice (some ⟨b2, o2, none⟩) 1 d] w fun e w' => e = .returned (.slice A (deCr l).length c) ∧ w' = w := by
  subst hn
  have h13 : Rb w (some ⟨b2, o2, none⟩) [13] := fun _ => ⟨b2, o2, rfl, fun j v hj => by
    match j with
    | 0 => simp at hj; rw [← hj]; exact hs
    | j + 1 => simp at hj⟩
  refine (Tryz.bytes_TrimSuffix_all A (some ⟨b2, o2, none⟩) l.length c 1 d (nums l) [13] w (nums_len l) rfl hnc (by omega) (bytesIn_of hA) (bytesIn_of h13)).mono ?_
  rintro e w' ⟨rfl, rfl⟩
  refine ⟨?_, rfl⟩
  congr 1
  by_cases hl : 0 < l.length
  · obtain ⟨b, o, rfl, _⟩ := hA (by simpa using hl)
    show Lib.bytesTrimSuffix b o l.length c (nums l) [13] = _
    unfold Lib.bytesTrimSuffix deCr
    rw [bytesOf_nums]
    have e13 : Lib.bytesOf [13] = [13] := rfl
    rw [e13]
    by_cases h : l.getLast? = some 13
    · rw [if_pos ((hasSuffix_one l 13).2 h), if_pos h]
      unfold Lib.sliceTo
      congr 1
      simp
    · rw [if_neg (fun k => h ((hasSuffix_one l 13).1 k)), if_neg h]
  · have : l = [] := List.eq_nil_of_length_eq_zero (by omega)
    subst this
    unfold Lib.trimSuffixV
    split
    · rfl
    · rfl

theorem clone_any (A : Option Addr) (l : List UInt8) (n c : Nat) (w : World) (hn : l.length = n) (hA : Rb w A l) (hnc : n ≤ c) (hpl : Pl A c) (hb : n ≤ 1000000000) :
    Calls Tryz.prog 63 #[.slice A n c] w fun e w' => (∃ v, e = .returned v ∧ w'.ownsRow w.heap.size 5 1 v n (l.map bv)) ∧ Below w.heap.size w w' := by
  subst hn
  rcases hpl with ⟨rfl, rfl⟩ | ⟨b, o, rfl⟩
  · have h0 : l = [] := List.eq_nil_of_length_eq_zero (by omega)
    subst h0
    refine (AnyE.slices_Clone_nil Tryz.cloneB 0 0 w).mono ?_
    rintro e w' ⟨rfl, rfl⟩
    exact ⟨⟨_, rfl, World.ownsRow_nil _ _ _ _⟩, Below.refl _ _⟩
  · obtain ⟨i0, h1, h2, h3, h4⟩ := info_parts infoU8
    refine (AnyE.slices_Clone Tryz.cloneB i0 (.int .u8 0) 1 1 h1 h2 h3 h4 rfl (by omega) Tryz.sizeOf5 b o l.length c (l.map bv) w (by simp) (by unfold maxLen; omega) (by omega) (fun j u hj => ?_) (bv_one l)).mono ?_
    · obtain ⟨b', o', e, hc⟩ := hA (by have := lt_of_get hj; omega)
      cases e
      exact hc j u hj
    · rintro e w' ⟨v, rfl, hv, _, hb⟩
      exact ⟨⟨v, rfl, hv⟩, hb⟩

/-- without blanks at its ends -/
def trimB (l : List UInt8) : List UInt8 := Lib.trimS l [32, 9]
theorem trim_any (l : List UInt8) (w : World) (hb : l.length ≤ 1000000000) :
    Calls Tryz.prog 138 #[.string (bs l), .string ⟨#[32, 9]⟩] w fun e w' => e = .returned (.string (bs (trimB l))) ∧ Below w.heap.size w w' := by
  have h := Any.strings_Trim_laid Tryz.lays160 (by kernel_rfl) (bs l) ⟨#[32, 9]⟩ w (by rw [bs_size]; omega) (by decide) (ascii_of_all (by decide))
  rw [bs_toList] at h
  exact h
end Go.Proofs.YtkllecicddfjpaaGreatDoor

namespace Go.Proofs.YtkllecicddfjpaaGreatDoor
namespace Fd
set_option linter.unusedVariables false
set_option linter.unusedSimpArgs false
open Go.RowKit Go.Shelf

theorem trimB_edges (l : List UInt8) : trimB l = l ↔ edges l = true := by
  have hc : ∀ c : UInt8, ([32, 9] : List UInt8).contains c = blk c := by
    intro c
    unfold blk
    simp [List.contains, List.elem]
    cases c == 32 <;> cases c == 9 <;> rfl
  unfold trimB Lib.trimS Lib.trimLeftS Lib.trimRightS edges
  simp only [hc]
  have hlen : ∀ (m : List UInt8), (m.dropWhile blk).length ≤ m.length := fun m => (List.dropWhile_sublist _).length_le
  have hdw : ∀ m : List UInt8, m.dropWhile blk = m ↔ m.head?.all (fun c => !blk c) = true := by
    intro m
    cases m with
    | nil => simp
    | cons a r =>
      by_cases ha : blk a = true
      · rw [List.dropWhile_cons_of_pos ha]
        simp only [List.head?_cons, Option.all_some, ha]
        constructor
        · intro e
          have := hlen r
          rw [e] at this
          simp at this
          omega
        · intro h
          cases h
      · rw [List.dropWhile_cons_of_neg ha]
        simp [ha]
  rw [Bool.and_eq_true]
  have hrev : l.reverse.head? = l.getLast? := by simp
  constructor
  · intro h
    have h1 : (l.reverse.dropWhile blk).reverse.length = l.length := by
      have a1 := hlen (l.reverse.dropWhile blk).reverse
      have a2 := hlen l.reverse
      rw [h] at a1
      simp only [List.length_reverse] at a1 a2 ⊢
      omega
    have h2 : l.reverse.dropWhile blk = l.reverse := by
      have hs := List.dropWhile_suffix blk (l := l.reverse)
      exact hs.eq_of_length (by simpa using h1)
    rw [h2, List.reverse_reverse] at h
    have h3 := (hdw l.reverse).1 h2
    rw [hrev] at h3
    exact ⟨(hdw l).1 h, h3⟩
  · rintro ⟨h1, h2⟩
    have h3 := (hdw l.reverse).2 (by rw [hrev]; exact h2)
    rw [h3, List.reverse_reverse]
    exact (hdw l).2 h1
theorem trimB_len (l : List UInt8) : (trimB l).length ≤ l.length := by
  unfold trimB Lib.trimS Lib.trimLeftS Lib.trimRightS
  have h1 := (List.dropWhile_sublist (l := ((l.reverse.dropWhile (([32, 9] : List UInt8).contains ·)).reverse)) (([32, 9] : List UInt8).contains ·)).length_le
  have h2 := (List.dropWhile_sublist (l := l.reverse) (([32, 9] : List UInt8).contains ·)).length_le
  simp only [List.length_reverse] at h1 h2 ⊢
  omega

set_option maxHeartbeats 400000 in
theorem signs1_any (c : UInt8) (w : World) :
    Calls Tryz.prog 202 #[.int .u8 (c.toNat : Int)] w fun e w' => e = .returned (.bool (!sgc c)) ∧ w' = w := by
  have h := sgc_iff c
  have h1 : (sgc c = true ∧ (((c.toNat : Int) != 9) = false)) ∨ (sgc c = true ∧ ((c.toNat : Int) != 9) = true ∧ ¬ (c.toNat : Int) < 32 ∧ ¬ (126 : Int) < (c.toNat : Int)) ∨ (sgc c = false ∧ ((c.toNat : Int) != 9) = true ∧ (c.toNat : Int) < 32) ∨ (sgc c = false ∧ ((c.toNat : Int) != 9) = true ∧ ¬ (c.toNat : Int) < 32 ∧ (126 : Int) < (c.toNat : Int)) := by
    have h' : sgc c = false ↔ ¬ (c.toNat = 9 ∨ 32 ≤ c.toNat ∧ c.toNat ≤ 126) := by rw [← Bool.not_eq_true, h]
    simp only [h, h', bne_iff_ne, bne_eq_false_iff_eq, ne_eq]
    omega
  clear h
  rcases h1 with ⟨hs, h1⟩ | ⟨hs, h1, h2, h3⟩ | ⟨hs, h1, h2⟩ | ⟨hs, h1, h2, h3⟩
  all_goals
    rw [hs]
    clear hs
    go_enter Tryz.func202, Tryz.ntmps202
    go_wp2_with fail
    go_ret
    exact ⟨rfl, rfl⟩
theorem eg_signs : ∀ args w, (callFunc 202 args).run Tryz.prog w = .ok (.enter 202 args) w := enters_of Tryz.func202 (by kernel_rfl) rfl

set_option maxHeartbeats 400000 in
theorem signs_any (l : List UInt8) (w : World) (hl : l.length ≤ 1000000000) :
    Calls Tryz.prog 152 #[.string (bs l)] w fun e w' => e = .returned (.bool (l.all sgc)) ∧ Below w.heap.size w w' := by
  obtain ⟨c, W, hcv, hown, hB, _⟩ := conv_bs (P := Tryz.prog) (src := 9) (dst := 22) Tryz.underlying9 Tryz.underlying22 Tryz.underlying5 w l (by unfold maxLen; omega)
  obtain ⟨A, _, hA, _, _, hR, _⟩ := hown.form
  cases hA
  have hres : (!l.any fun c => !sgc c) = l.all sgc := by rw [List.all_eq_not_any_not]
  have HR := Lib.hid hres
  have hc : Calls Tryz.prog 201 #[.slice (some ⟨w.heap.size, 0, none⟩) l.length c, .func (.func 202) #[] #[]] W fun e w' => e = .returned (.bool (l.any fun c => !sgc c)) ∧ Dn W w' := by
    have h := AnyE.slices_ContainsFunc Tryz.containsB bv (fun c => !sgc c) 202 #[] eg_signs w.heap.size 0 l.length c l W
      (fun W' x _ => (signs1_any x W').mono (by rintro e w' ⟨rfl, rfl⟩; exact ⟨rfl, 0, rfl⟩)) (Nat.le_refl _) (by omega) (fun j hj => by
        obtain ⟨b, o, x, e, hx, hcell⟩ := (show Rb W _ l from hR).one hj
        cases e
        rw [hcell]
        have : l[j]! = x := by rw [List.getElem!_eq_getElem?_getD, hx.out]; rfl
        rw [this]
        rfl)
    rw [List.take_length] at h
    exact h
  clear hres hown hR
  generalize (l.any fun c => !sgc c) = g at *
  go_enter Tryz.func152, Tryz.ntmps152
  go_wp2_with fail
  refine hc.mono ?_
  rintro e w' ⟨rfl, hd⟩
  go_wp2_with fail
  go_ret
  exact ⟨ret_bool HR.out, hB.trans ((hd.below _).mono hB.size)⟩

set_option maxHeartbeats 400000 in
theorem value_any (l : List UInt8) (w : World) (hl : l.length ≤ 9223372036854775807) :
    Calls Tryz.prog 107 #[.string (bs l)] w fun e w' => e = .returned (.bool (vlOk l)) ∧ Below w.heap.size w w' := by
  have hv : vlOk l = (l.all sgc && decide (l.length ≤ 8192) && edges l) := rfl
  have HV := Lib.hid hv
  have hte := trimB_edges l
  have HT := Lib.hid hte
  clear hv hte
  go_enter Tryz.func107, Tryz.ntmps107
  by_cases h2 : l.length ≤ 8192
  · go_wp2_with fail
    refine (signs_any l _ (by omega)).mono ?_
    rintro e w1 ⟨rfl, hb1⟩
    rcases Bool.eq_false_or_eq_true (l.all sgc) with h | h
    · rw [h]
      go_wp2_with fail
      refine (trim_any l _ (by omega)).mono ?_
      rintro e w2 ⟨rfl, hb2⟩
      have hB := hb1.trans (hb2.mono hb1.size)
      generalize trimB l = m at *
      go_wp2_with fail
      go_ret
      refine ⟨ret_bool ?_, hB⟩
      rw [HV.out, h, decide_eq_true h2, Bool.eq_iff_iff]
      simp only [Bool.and_self, Bool.true_and, beq_iff_eq]
      rw [← HT.out]
      exact eq_comm
    · rw [h]
      go_wp2_with fail
      go_ret
      exact ⟨ret_bool (by rw [HV.out, h]; rfl), hb1⟩
  · go_wp2_with fail
    go_ret
    exact ⟨ret_bool (by rw [HV.out, decide_eq_false h2]; simp), Below.refl _ _⟩
end Fd
end Go.Proofs.YtkllecicddfjpaaGreatDoor
