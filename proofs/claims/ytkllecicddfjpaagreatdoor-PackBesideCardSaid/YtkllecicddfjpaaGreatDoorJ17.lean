/- The value of the first parameter of a name: mime's param. · Names and values: field's own tests. · The library's functions over bytes that the fields' reader calls: their contracts, told over lists of bytes. -/
import Derived.Test.YtkllecicddfjpaaGreatDoorJ15
import Derived.Test.YtkllecicddfjpaaGreatDoorJ04
import Derived.Test.YtkllecicddfjpaaGreatDoorJ16
import Derived.Test.YtkllecicddfjpaaGreatDoorJ05
import Derived.Test.YtkllecicddfjpaaGreatDoorJ03
import Derived.Test.YtkllecicddfjpaaGreatDoorChecked
import Derived.Shelf.Strings.SlTrimAscii
import Derived.Test.YtkllecicddfjpaaGreatDoorShelf
namespace Go.Proofs.YtkllecicddfjpaaGreatDoor
set_option linter.unusedVariables false
set_option linter.unusedSimpArgs false
open Go.RowKit
section
open Tk

/-- the value of the first parameter of a name -/
def paramP (ms : List (List UInt8 × List UInt8)) (nm : List UInt8) : List UInt8 := match ms.find? (fun p => p.1 == nm) with
  | some p => p.2
  | none => []
/-- where it stands -/
def parZ (ms : List (List UInt8 × List UInt8)) (nm : List UInt8) : Int := match ms.findIdx? (fun p => p.1 == nm) with
  | some i => (i : Int)
  | none => -1
theorem find_ahead {nm : List UInt8} {p : List UInt8 × List UInt8} : ∀ {ms : List (List UInt8 × List UInt8)} {k : Nat}, (∀ q ∈ ms.take k, (q.1 == nm) = false) → ms[k]? = some p → (p.1 == nm) = true → ms.find? (fun p => p.1 == nm) = some p ∧ ms.findIdx? (fun p => p.1 == nm) = some k
  | [], k, _, h, _ => by simp at h
  | q :: ms, 0, _, h, hs => by
    simp at h
    subst h
    simp [List.findIdx?_cons, hs]
  | q :: ms, k + 1, ha, h, hs => by
    have h1 : (q.1 == nm) = false := ha q (by simp)
    obtain ⟨i1, i2⟩ := find_ahead (ms := ms) (k := k) (fun x hx => ha x (by simp [hx])) (by simpa using h) hs
    simp only [List.find?_cons, List.findIdx?_cons, h1, i1, i2]
    simp
theorem find_no {nm : List UInt8} {ms : List (List UInt8 × List UInt8)} (h : ∀ q ∈ ms, (q.1 == nm) = false) : ms.find? (fun p => p.1 == nm) = none ∧ ms.findIdx? (fun p => p.1 == nm) = none := by
  constructor
  · rw [List.find?_eq_none]
    intro x hx
    rw [h x hx]
    simp
  · rw [List.findIdx?_eq_none_iff]
    exact h

theorem eg_param : ∀ args w, (callFunc 136 args).run Tryz.prog w = .ok (.enter 136 args) w := enters_of Tryz.func136 (by kernel_rfl) rfl
theorem param1_any (p : List UInt8 × List UInt8) (nm : List UInt8) (B : Nat) (w : World) (hc : w.cell? ⟨B, 0, none⟩ = some (.string (bs nm))) :
    Calls Tryz.prog 136 #[.agg #[.string (bs p.1), .string (bs p.2)], .pointer (some ⟨B, 0, none⟩)] w fun e w' => e = .returned (.bool (p.1 == nm)) ∧ Below w.heap.size w w' := by
  have hA0 : Below w.heap.size w (w.alloc (.cells #[.string (bs p.1), .string (bs p.2)] 36)) := (Below.refl _ _).alloc (Nat.le_refl _) _
  have hc2 : (w.alloc (.cells #[.string (bs p.1), .string (bs p.2)] 36)).cell? ⟨B, 0, none⟩ = some (.string (bs nm)) := (hA0.cell (p := ⟨B, 0, none⟩) (cell_lt hc)).trans hc
  obtain ⟨z, hz⟩ : ∃ z, (p.1 == nm) = z := ⟨_, rfl⟩
  rw [hz]
  go_enter Tryz.func136, Tryz.ntmps136
  go_wp2_with fail
  go_ret
  exact ⟨rfl, hA0⟩
/-- the test of a parameter's name, whose box is block B -/
def hasP (B : Nat) : Value := .func (.func 136) #[] #[.pointer (some ⟨B, 0, none⟩)]

set_option maxRecDepth 100000 in
set_option maxHeartbeats 1000000 in
theorem pindex_any (A : Option Addr) (ms : List (List UInt8 × List UInt8)) (n c B : Nat) (nm : List UInt8) (w : World) (hn : ms.length = n) (hA : Rv w A (pcells ms)) (hc : w.cell? ⟨B, 0, none⟩ = some (.string (bs nm))) (hb : n ≤ 1000000) :
    Calls Tryz.prog 94 #[.slice A n c, hasP B] w fun e w' => e = .returned (.int .i64 (parZ ms nm)) ∧ Below w.heap.size w w' := by
  have HN := Lib.hid hn
  have eg := eg_param
  unfold hasP
  clear hn
  go_enter Tryz.func94, Tryz.ntmps94
  go_wp2_with fail
  go_loopw [8] (fun i wr => ∃ k : Nat, i = .int .i64 k ∧ k ≤ n ∧ Hid (∀ q ∈ ms.take k, (q.1 == nm) = false) ∧ Below w.heap.size w wr) (fun i _ => n - (intOf i).toNat)
  case atStart => exact ⟨0, rfl, by omega, Lib.hid (by simp), Below.refl _ _⟩
  case round =>
    obtain ⟨k, rfl, hk, ha, hB⟩ := hrel
    by_cases hlt : k < n
    · obtain ⟨p, hpq⟩ : ∃ p, ms[k]? = some p := ⟨_, List.getElem?_eq_getElem (by rw [HN.out]; exact hlt)⟩
      have hp := Lib.hid hpq
      obtain ⟨b, o, rfl, hcell⟩ := (hA.below hB) (by rw [pcells_len, HN.out]; omega)
      have k0 : wr.cell? ⟨b, o + k * 2, none⟩ = some (.string (bs p.1)) := by have := hcell _ _ (pcells_get hpq).1; rwa [Nat.mul_comm] at this
      have k1 : wr.cell? ⟨b, o + k * 2 + 1, none⟩ = some (.string (bs p.2)) := by have := hcell _ _ (pcells_get hpq).2; rwa [Nat.mul_comm, ← Nat.add_assoc] at this
      have hcr : wr.cell? ⟨B, 0, none⟩ = some (.string (bs nm)) := (hB.cell (p := ⟨B, 0, none⟩) (cell_lt hc)).trans hc
      have hcall := param1_any p nm B wr hcr
      have hHit : (p.1 == nm) = true → Hid (parZ ms nm = (k : Int)) := fun h => Lib.hid (by
        unfold parZ
        rw [(find_ahead ha.out hp.out h).2])
      have hMiss : (p.1 == nm) = false → Hid (∀ q ∈ ms.take (k + 1), (q.1 == nm) = false) := fun h => Lib.hid (by
        rw [take_succ_of hp.out]
        intro q hq
        rcases List.mem_append.1 hq with hq | hq
        · exact ha.out q hq
        · simp at hq
          rw [hq]
          exact h)
      clear hpq hcell
      obtain ⟨z, hz⟩ : ∃ z, (p.1 == nm) = z := ⟨_, rfl⟩
      rw [hz] at hcall hHit hMiss
      clear hz
      cases z with
      | true =>
        have HH := hHit rfl
        clear hHit hMiss
        go_wp2_with fail
        refine hcall.mono ?_
        rintro e w2 ⟨rfl, hb2⟩
        go_wp2_with fail
        go_ret
        exact ⟨ret_int HH.out.symm, hB.trans (hb2.mono hB.size)⟩
      | false =>
        have HH := hMiss rfl
        clear hHit hMiss
        go_wp2_with fail
        refine hcall.mono ?_
        rintro e w2 ⟨rfl, hb2⟩
        go_wp2_with fail
        go_roundw
        case rel => exact ⟨k + 1, by go_num, by omega, HH, hB.trans (hb2.mono hB.size)⟩
        case measure => simp [intOf]; omega
    · obtain rfl : k = n := by omega
      have hno : parZ ms nm = -1 := by
        have h := ha.out
        rw [List.take_of_length_le (by rw [HN.out]; omega)] at h
        unfold parZ
        rw [(find_no h).2]
      have HNO := Lib.hid hno
      clear hno
      go_wp2_with fail
      go_ret
      exact ⟨ret_int HNO.out.symm, hB⟩

theorem param_at {ms : List (List UInt8 × List UInt8)} {nm : List UInt8} : (∃ (k : Nat) (p : List UInt8 × List UInt8), ms[k]? = some p ∧ parZ ms nm = (k : Int) ∧ paramP ms nm = p.2) ∨ (parZ ms nm = -1 ∧ paramP ms nm = []) := by
  by_cases h : ∃ (k : Nat) (p : List UInt8 × List UInt8), ms[k]? = some p ∧ (p.1 == nm) = true
  · cases hf : ms.findIdx? (fun p => p.1 == nm) with
    | none =>
      obtain ⟨k, p, hk, hp⟩ := h
      rw [List.findIdx?_eq_none_iff] at hf
      rw [hf p (List.mem_of_getElem? hk)] at hp
      cases hp
    | some i =>
      obtain ⟨hi, h1, h2⟩ := List.findIdx?_eq_some_iff_getElem.1 hf
      obtain ⟨e1, e2⟩ := find_ahead (ms := ms) (k := i) (p := ms[i]) (nm := nm) (fun q hq => by
        obtain ⟨j, hj⟩ := List.mem_iff_getElem?.1 hq
        have hjl := lt_of_get hj
        rw [List.length_take] at hjl
        rw [List.getElem?_take, if_pos (by omega), List.getElem?_eq_getElem (by omega)] at hj
        have := h2 j (by omega)
        rw [Option.some.inj hj] at this
        simpa using this) (List.getElem?_eq_getElem hi) h1
      left
      refine ⟨i, ms[i], List.getElem?_eq_getElem hi, ?_, ?_⟩
      · unfold parZ; rw [e2]
      · unfold paramP; rw [e1]
  · right
    have hn : ∀ q ∈ ms, (q.1 == nm) = false := by
      intro q hq
      obtain ⟨j, hj⟩ := List.mem_iff_getElem?.1 hq
      cases hb : (q.1 == nm) with
      | false => rfl
      | true => exact absurd ⟨j, q, hj, hb⟩ h
    obtain ⟨e1, e2⟩ := find_no hn
    exact ⟨by unfold parZ; rw [e2], by unfold paramP; rw [e1]⟩

theorem named_box (nm : List UInt8) (w : World) : Below w.heap.size w (w.alloc (.cells #[.string (bs nm)] 9)) := (Below.refl _ _).alloc (Nat.le_refl _) _
set_option maxRecDepth 100000 in
set_option maxHeartbeats 2000000 in
theorem param_any (A : Option Addr) (ms : List (List UInt8 × List UInt8)) (nm : List UInt8) (n c : Nat) (w : World) (hn : ms.length = n) (hA : Rv w A (pcells ms)) (hb : n ≤ 1000000) :
    Calls Tryz.prog 70 #[.slice A n c, .string (bs nm)] w fun e w' => e = .returned (.string (bs (paramP ms nm))) ∧ Below w.heap.size w w' := by
  have HN := Lib.hid hn
  clear hn
  have hB0 := named_box nm w
  have c0 : (w.alloc (.cells #[.string (bs nm)] 9)).cell? ⟨w.heap.size, 0, none⟩ = some (.string (bs nm)) := by simp
  have hix := pindex_any A ms n c w.heap.size nm (w.alloc (.cells #[.string (bs nm)] 9)) HN.out (hA.below hB0) c0 hb
  unfold hasP at hix
  go_enter Tryz.func70, Tryz.ntmps70
  go_wp2_with fail
  refine hix.mono ?_
  rintro e w1 ⟨rfl, hb1⟩
  have hB1 := hB0.trans (hb1.mono hB0.size)
  rcases param_at (ms := ms) (nm := nm) with ⟨k, p, hk, hz, hp⟩ | ⟨hz, hp⟩
  · rw [hz]
    have HP := Lib.hid hp
    have hkl := lt_of_get hk
    rw [HN.out] at hkl
    obtain ⟨b, o, rfl, hcell⟩ := (hA.below hB1) (by rw [pcells_len, HN.out]; omega)
    have k1 : w1.cell? ⟨b, o + k * 2 + 1, none⟩ = some (.string (bs p.2)) := by have := hcell _ _ (pcells_get hk).2; rwa [Nat.mul_comm, ← Nat.add_assoc] at this
    clear hz hp hk hcell hix
    go_wp2_with fail
    go_ret
    exact ⟨by rw [HP.out]; rfl, hB1⟩
  · rw [hz]
    have HP := Lib.hid hp
    clear hz hp hix
    go_wp2_with fail
    go_ret
    exact ⟨by rw [HP.out]; rfl, hB1⟩
end
end Go.Proofs.YtkllecicddfjpaaGreatDoor

namespace Go.Proofs.YtkllecicddfjpaaGreatDoor
namespace Fd
set_option linter.unusedVariables false
set_option linter.unusedSimpArgs false
open Go.RowKit

set_option maxHeartbeats 400000 in
theorem fblank_any (c : UInt8) (w : World) :
    Calls Tryz.prog 171 #[.int .u8 (c.toNat : Int)] w fun e w' => e = .returned (.bool (blk c)) ∧ w = w' := by
  rcases blk_cases c with ⟨hb, h | ⟨h', h⟩⟩ | ⟨hb, h, h'⟩
  all_goals
    have HB := Lib.hid hb
    clear hb
    go_enter Tryz.func171, Tryz.ntmps171
    go_wp2_with fail
    go_ret
    exact ⟨ret_bool (by rw [HB.out]; all_goals (simp [h] <;> omega)), rfl⟩

set_option maxRecDepth 100000 in
set_option maxHeartbeats 400000 in
theorem fname_any (l : List UInt8) (w : World) (hl : l.length ≤ 9223372036854775807) :
    Calls Tryz.prog 106 #[.string (bs l)] w fun e w' => e = .returned (.bool (nmOk l)) ∧ Below w.heap.size w w' := by
  obtain ⟨c, W, hcv, hown, hB, _⟩ := conv_bs (P := Tryz.prog) (src := 9) (dst := 22) Tryz.underlying9 Tryz.underlying22 Tryz.underlying5 w l (by unfold maxLen; omega)
  go_enter Tryz.func106, Tryz.ntmps106
  obtain ⟨g, hg⟩ : ∃ g, decide (1 ≤ l.length ∧ l.length ≤ 64) = g := ⟨_, rfl⟩
  obtain ⟨A, _, hA, _, _, hR, _⟩ := hown.form
  cases hA
  have hRb : Rb W _ l := hR
  have hres : nmOk l = (l.all nmc && g) := by rw [← hg]; rfl
  have HR := Lib.hid hres
  have HG := Lib.hid hg
  clear hres hR hown hg
  rcases (by omega : l.length = 0 ∨ (1 ≤ l.length ∧ l.length ≤ 64) ∨ (1 ≤ l.length ∧ ¬ l.length ≤ 64)) with h1 | h1
  · have h0 : nmOk l = false := by rw [List.eq_nil_of_length_eq_zero h1]; rfl
    have H0 := Lib.hid h0
    clear h0
    go_wp2_with fail
    go_loopw [3, 17] (fun v i wr => v = .bool false ∧ i = .int .i64 0 ∧ wr = W) (fun _ _ _ => 0)
    case atStart => exact ⟨rfl, rfl, rfl⟩
    case round =>
      obtain ⟨rfl, rfl, rfl⟩ := hrel
      go_wp2_with fail
      go_ret
      exact ⟨ret_bool H0.out.symm, hB⟩
  rcases h1 with ⟨h1, h2⟩ | ⟨h1, h2⟩
  all_goals
    go_wp2_with fail
    go_loopw [3, 17] (fun v i wr => ∃ q : Nat, i = .int .i64 q ∧ q ≤ l.length ∧ v = .bool (g && (l.take q).all nmc) ∧ Dn W wr) (fun _ i _ => l.length - (intOf i).toNat)
    case atStart =>
      refine ⟨0, rfl, by omega, ?_, Dn.refl _⟩
      refine congrArg Value.bool ?_
      rw [← HG.out, Bool.eq_iff_iff]
      first
        | (simp only [List.take_zero, List.all_nil, Bool.and_true, decide_eq_true_eq]; omega)
        | (simp; omega)
    case round =>
      obtain ⟨q, rfl, hq, rfl, hd⟩ := hrel
      by_cases hlt : q < l.length
      · obtain ⟨b, o, x, e, hx, hcell⟩ := (hRb.below (hd.below _)).one hlt
        cases e
        rw [Nat.zero_add] at hcell
        have hst : (g && (l.take (q + 1)).all nmc) = ((g && (l.take q).all nmc) && nmc x) := by rw [all_take nmc _ hx.out, Bool.and_assoc]
        have HST := Lib.hid hst
        clear hst
        rcases Bool.eq_false_or_eq_true (g && (l.take q).all nmc) with hG | hG
        · rw [hG] at HST ⊢
          have hx2 : (nmc x = true ∧ (32 : Int) < (x.toNat : Int) ∧ (x.toNat : Int) ≤ 126 ∧ ((x.toNat : Int) != 58) = true) ∨ (nmc x = false ∧ (¬ (32 : Int) < (x.toNat : Int) ∨ ((32 : Int) < (x.toNat : Int) ∧ ¬ (x.toNat : Int) ≤ 126) ∨ ((32 : Int) < (x.toNat : Int) ∧ (x.toNat : Int) ≤ 126 ∧ ((x.toNat : Int) != 58) = false))) := by
            rcases Bool.eq_false_or_eq_true (nmc x) with h | h
            · have := (nmc_iff x).1 h
              exact .inl ⟨h, by omega, by omega, by rw [bne_iff_ne]; omega⟩
            · refine .inr ⟨h, ?_⟩
              have h' : ¬ nmc x = true := by simp [h]
              rw [nmc_iff] at h'
              rw [bne_eq_false_iff_eq]
              omega
          rcases hx2 with ⟨hn, k1, k2, k3⟩ | ⟨hn, k1 | ⟨k1, k2⟩ | ⟨k1, k2, k3⟩⟩
          all_goals
            rw [hn] at HST
            clear hn
            go_wp2_with fail
            go_roundw
            case rel => exact ⟨q + 1, by go_num, by omega, by rw [HST.out]; rfl, hd⟩
            case measure => simp [intOf]; omega
        · rw [hG] at HST ⊢
          go_wp2_with fail
          go_roundw
          case rel => exact ⟨q + 1, by go_num, by omega, by rw [HST.out]; rfl, hd⟩
          case measure => simp [intOf]; omega
      · obtain rfl : q = l.length := by omega
        have ha : (g && (l.take l.length).all nmc) = nmOk l := by rw [List.take_length, Bool.and_comm]; exact HR.out.symm
        rw [ha]
        clear ha
        go_wp2_with fail
        go_ret
        exact ⟨rfl, hB.trans ((hd.below _).mono hB.size)⟩
end Fd
end Go.Proofs.YtkllecicddfjpaaGreatDoor

namespace Go.Proofs.YtkllecicddfjpaaGreatDoor
set_option linter.unusedVariables false
set_option linter.unusedSimpArgs false
open Go.RowKit

/-- an address as a slice of the program's own bears it -/
def Pl (A : Option Addr) (c : Nat) : Prop := (A = none ∧ c = 0) ∨ ∃ b o, A = some ⟨b, o, none⟩

/-- the second lies in the first one's block -/
def SB (A B : Option Addr) : Prop := ∀ b o, B = some ⟨b, o, none⟩ → ∃ o', A = some ⟨b, o', none⟩
theorem SB.refl (A : Option Addr) : SB A A := fun _ o h => ⟨o, h⟩
theorem SB.trans {A B C : Option Addr} (h : SB A B) (k : SB B C) : SB A C := fun b o e => by
  obtain ⟨o', e'⟩ := k b o e
  exact h b o' e'
/-- cut at the first s -/
def cutAt (s : UInt8) : List UInt8 → Option (List UInt8 × List UInt8)
  | [] => none
  | c :: r => if c = s then some ([], r) else (cutAt s r).map fun p => (c :: p.1, p.2)
theorem cutAt_some {s : UInt8} : ∀ {l a b : List UInt8}, cutAt s l = some (a, b) → l = a ++ s :: b ∧ s ∉ a ∧ Lib.indexByte l s = (a.length : Int)
  | [], _, _, h => by simp [cutAt] at h
  | c :: r, a, b, h => by
    unfold cutAt at h
    by_cases hc : c = s
    · rw [if_pos hc] at h
      cases h
      subst hc
      exact ⟨rfl, by simp, by simp [Lib.indexByte]⟩
    · rw [if_neg hc, Option.map_eq_some_iff] at h
      obtain ⟨⟨a', b'⟩, h1, h2⟩ := h
      cases h2
      obtain ⟨e, hn, hi⟩ := cutAt_some h1
      refine ⟨by rw [e]; rfl, by simp [hn, Ne.symm hc], ?_⟩
      have hne : (c == s) = false := by simpa using hc
      have h1 : (((a'.length : Int)) == -1) = false := by rw [beq_eq_false_iff_ne]; omega
      simp [Lib.indexByte, hne, hi, h1]
theorem cutAt_none {s : UInt8} : ∀ {l : List UInt8}, cutAt s l = none → s ∉ l ∧ Lib.indexByte l s = -1
  | [], _ => ⟨by simp, rfl⟩
  | c :: r, h => by
    unfold cutAt at h
    by_cases hc : c = s
    · rw [if_pos hc] at h
      cases h
    · rw [if_neg hc, Option.map_eq_none_iff] at h
      obtain ⟨hn, hi⟩ := cutAt_none h
      have hne : (c == s) = false := by simpa using hc
      exact ⟨by simp [hn, Ne.symm hc], by simp [Lib.indexByte, hne, hi]⟩

/-- the numbers of bytes -/
def nums (l : List UInt8) : List Int := l.map fun c => (c.toNat : Int)
theorem bytesOf_nums (l : List UInt8) : Lib.bytesOf (nums l) = l := by
  unfold Lib.bytesOf nums
  rw [List.map_map]
  conv => rhs; rw [← List.map_id l]
  apply List.map_congr_left
  intro c _
  simp
theorem nums_len (l : List UInt8) : (nums l).length = l.length := by simp [nums]
theorem nums_getD (l : List UInt8) (i : Nat) (h : i < l.length) : (nums l).getD i 0 = (l[i].toNat : Int) := by
  simp [nums, List.getD, List.getElem?_eq_getElem h]
theorem bytesIn_of {w : World} {A : Option Addr} {l : List UInt8} (h : Rb w A l) : Lib.BytesIn w A l.length (nums l) := fun hp => by
  obtain ⟨b, o, rfl, hc⟩ := h (by simpa using hp)
  refine ⟨b, o, rfl, fun i hi => ?_⟩
  rw [hc i (bv l[i]) (by simp [List.getElem?_eq_getElem hi]), nums_getD l i hi]
  rfl

/-- what bytes.Cut hands back -/
def CutOut (A : Option Addr) (n c : Nat) (l : List UInt8) (s : UInt8) (e : Ending) (w' : World) : Prop :=
  match cutAt s l with
  | some (a, b) => ∃ B d, e = .returned (.tuple #[.slice A a.length c, .slice B b.length d, .bool true]) ∧ Rb w' A a ∧ Rb w' B b ∧ b.length ≤ d ∧ Pl B d ∧ a.length ≤ c ∧ SB A B
  | none => e = .returned (.tuple #[.slice A n c, .slice none 0 0, .bool false])

theorem cut_any (A : Option Addr) (l : List UInt8) (n c b2 o2 d : Nat) (s : UInt8) (w : World) (hn : l.length = n) (hA : Rb w A l) (hnc : n ≤ c) (hpl : Pl A c) (hs : w.cell? ⟨b2, o2, none⟩ = some (bv s)) (hb : n ≤ 1000000000) :
    Calls Tryz.prog 149 #[.slice A n c, .slice (some ⟨b2, o2, none⟩) 1 d] w fun e w' => CutOut A n c l s e w' ∧ Dn w w' := by
  subst hn
  have hidx : Calls Tryz.prog 199 #[.slice A l.length c, .slice (some ⟨b2, o2, none⟩) 1 d] w fun e w' => e = .returned (.int .i64 (Lib.indexByte l s)) ∧ ∃ q, w' = w.drewN q := by
    rcases hpl with ⟨rfl, rfl⟩ | ⟨b, o, rfl⟩
    · have h0 : l = [] := List.eq_nil_of_length_eq_zero (by omega)
      subst h0
      refine (Tryz.bytes_Index_one_nil b2 o2 d (s.toNat : Int) w hs).mono ?_
      rintro e w' ⟨rfl, rfl⟩
      exact ⟨rfl, 0, rfl⟩
    · have h := Tryz.bytes_Index_one_at ⟨b, o, none⟩ l.length c b2 o2 d (nums l) (s.toNat : Int) w (nums_len l) (fun i hi => by
        rw [nums_getD l i hi]
        obtain ⟨b', o', x, e, hx, hc⟩ := hA.one hi
        cases e
        have hx' : l[i] = x := by have := hx.out; rw [List.getElem?_eq_getElem hi] at this; exact Option.some.inj this
        rw [Go.WideShapes.add_plain, hc, hx']) hs
      rw [bytesOf_nums] at h
      refine h.mono ?_
      rintro e w' ⟨rfl, rfl⟩
      refine ⟨?_, 0, rfl⟩
      congr 3
      simp
  cases hcut : cutAt s l with
  | none =>
    obtain ⟨_, hi⟩ := cutAt_none hcut
    rw [hi] at hidx
    refine (Tryz.bytes_Cut_of A (some ⟨b2, o2, none⟩) l.length c 1 d (-1) w hnc (by omega) (by omega) (by omega) hidx).mono ?_
    rintro e w' ⟨rfl, hq⟩
    refine ⟨?_, hq⟩
    unfold CutOut
    rw [hcut]
    rfl
  | some p =>
    obtain ⟨a, b⟩ := p
    obtain ⟨hl, _, hi⟩ := cutAt_some hcut
    rw [hi] at hidx
    have hll : l.length = a.length + b.length + 1 := by rw [hl]; simp; omega
    refine (Tryz.bytes_Cut_of A (some ⟨b2, o2, none⟩) l.length c 1 d (a.length : Int) w hnc (by omega) (by omega) (by omega) hidx).mono ?_
    rintro e w' ⟨rfl, hq⟩
    refine ⟨?_, hq⟩
    obtain ⟨q, rfl⟩ := hq
    unfold CutOut
    rw [hcut]
    have hA' : Rb (w.drewN q) A l := hA.drewN q
    obtain ⟨b0, o0, rfl, _⟩ := hA (by simp; omega)
    have ha : Rb (w.drewN q) (some ⟨b0, o0, none⟩) a := by
      have := hA'.take a.length
      rwa [hl, List.take_left'] at this
      rfl
    have hbr : Rb (w.drewN q) (some ⟨b0, o0 + (a.length + 1), none⟩) b := by
      have := hA'.drop (a.length + 1)
      rwa [hl, show a ++ s :: b = (a ++ [s]) ++ b by simp, List.drop_left' (by simp)] at this
    unfold Lib.cutV
    rw [if_pos (by omega)]
    unfold Lib.fromV
    simp only [Int.toNat_natCast]
    by_cases hc : c = a.length + 1
    · rw [if_pos hc]
      have hb0 : b = [] := List.eq_nil_of_length_eq_zero (by omega)
      subst hb0
      refine ⟨_, c - (a.length + 1), ?_, ha, Rb.nil _ _, by simp, .inr ⟨b0, o0, rfl⟩, by omega, SB.refl _⟩
      congr 5
      simp at hll ⊢
      omega
    · rw [if_neg hc]
      refine ⟨_, c - (a.length + 1), ?_, ha, hbr, by omega, .inr ⟨_, _, rfl⟩, by omega, fun b o e => by cases e; exact ⟨o0, rfl⟩⟩
      have e1 : l.length - (a.length + 1) = b.length := by omega
      rw [e1, Option.map_some, Go.WideShapes.add_plain]

/-- without a CR at its end -/
def deCr (l : List UInt8) : List UInt8 := if l.getLast? = some 13 then l.take (l.length - 1) else l
theorem hasSuffix_one (l : List UInt8) (c : UInt8) : Lib.hasSuffix l [c] = true ↔ l.getLast? = some c := by
  unfold Lib.hasSuffix
  rw [List.isSuffixOf_iff_suffix]
  constructor
  · rintro ⟨t, rfl⟩
    simp
  · intro h
    obtain ⟨t, rfl⟩ := List.getLast?_eq_some_iff.1 h
    exact ⟨t, rfl⟩
theorem trimCr_any (A : Option Addr) (l : List UInt8) (n c b2 o2 d : Nat) (w : World) (hn : l.length = n) (hA : Rb w A l) (hnc : n ≤ c) (hs : w.cell? ⟨b2, o2, none⟩ = some (bv 13)) (hb : n ≤ 1000000000) :
    Calls Tryz.prog 150 #[.slice A n c, .slice (some ⟨b2, o2, none⟩) 1 d] w fun e w' => e = .returned (.slice A (deCr l).length c) ∧ w' = w := by
  subst hn
  have h13 : Rb w (some ⟨b2, o2, none⟩) [13] := fun _ => ⟨b2, o2, rfl, fun j v hj => by
    match j with
    | 0 => simp at hj; rw [← hj]; exact hs
    | j + 1 => simp at hj⟩
  refine (Tryz.bytes_TrimSuffix_all A (some ⟨b2, o2, none⟩) l.length c 1 d (nums l) [13] w (nums_len l) rfl hnc (by omega) (bytesIn_of hA) (bytesIn_of h13)).mono ?_
  rintro e w' ⟨rfl, rfl⟩
  refine ⟨?_, rfl⟩
  congr 1
  by_cases hl : 0 < l.length
  · obtain ⟨b, o, rfl, _⟩ := hA (by simpa using hl)
    show Lib.bytesTrimSuffix b o l.length c (nums l) [13] = _
    unfold Lib.bytesTrimSuffix deCr
    rw [bytesOf_nums]
    have e13 : Lib.bytesOf [13] = [13] := rfl
    rw [e13]
    by_cases h : l.getLast? = some 13
    · rw [if_pos ((hasSuffix_one l 13).2 h), if_pos h]
      unfold Lib.sliceTo
      congr 1
      simp
    · rw [if_neg (fun k => h ((hasSuffix_one l 13).1 k)), if_neg h]
  · have : l = [] := List.eq_nil_of_length_eq_zero (by omega)
    subst this
    unfold Lib.trimSuffixV
    split
    · rfl
    · rfl

theorem clone_any (A : Option Addr) (l : List UInt8) (n c : Nat) (w : World) (hn : l.length = n) (hA : Rb w A l) (hnc : n ≤ c) (hpl : Pl A c) (hb : n ≤ 1000000000) :
    Calls Tryz.prog 63 #[.slice A n c] w fun e w' => (∃ v, e = .returned v ∧ w'.ownsRow w.heap.size 5 1 v n (l.map bv)) ∧ Below w.heap.size w w' := by
  subst hn
  rcases hpl with ⟨rfl, rfl⟩ | ⟨b, o, rfl⟩
  · have h0 : l = [] := List.eq_nil_of_length_eq_zero (by omega)
    subst h0
    refine (AnyE.slices_Clone_nil Tryz.cloneB 0 0 w).mono ?_
    rintro e w' ⟨rfl, rfl⟩
    exact ⟨⟨_, rfl, World.ownsRow_nil _ _ _ _⟩, Below.refl _ _⟩
  · obtain ⟨i0, h1, h2, h3, h4⟩ := info_parts infoU8
    refine (AnyE.slices_Clone Tryz.cloneB i0 (.int .u8 0) 1 1 h1 h2 h3 h4 rfl (by omega) Tryz.sizeOf5 b o l.length c (l.map bv) w (by simp) (by unfold maxLen; omega) (by omega) (fun j u hj => ?_) (bv_one l)).mono ?_
    · obtain ⟨b', o', e, hc⟩ := hA (by have := lt_of_get hj; omega)
      cases e
      exact hc j u hj
    · rintro e w' ⟨v, rfl, hv, _, hb⟩
      exact ⟨⟨v, rfl, hv⟩, hb⟩

/-- without blanks at its ends -/
def trimB (l : List UInt8) : List UInt8 := Lib.trimS l [32, 9]
theorem trim_any (l : List UInt8) (w : World) (hb : l.length ≤ 1000000000) :
    Calls Tryz.prog 138 #[.string (bs l), .string ⟨#[32, 9]⟩] w fun e w' => e = .returned (.string (bs (trimB l))) ∧ Below w.heap.size w w' := by
  have h := Any.strings_Trim_laid Tryz.lays160 (by kernel_rfl) (bs l) ⟨#[32, 9]⟩ w (by rw [bs_size]; omega) (by decide) (ascii_of_all (by decide))
  rw [bs_toList] at h
  exact h
end Go.Proofs.YtkllecicddfjpaaGreatDoor
