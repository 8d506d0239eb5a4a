/- The document's example of parts holds; MimeSplits' walk: the program's Split tells what the document's does. · Names and values: field's own tests. · Values, and whether two names are one: field's own tests. · The document's names and values. -/
import Derived.Test.YtfdkcgdanhlfkaaGreatDoorJ13
import Derived.Test.YtfdkcgdanhlfkaaGreatDoorJ17
import Derived.Test.YtfdkcgdanhlfkaaGreatDoorJ18
import Derived.KernelRfl
import Derived.Test.YtfdkcgdanhlfkaaGreatDoorJ06
import Derived.Test.YtfdkcgdanhlfkaaGreatDoorJ07
import Derived.Test.YtfdkcgdanhlfkaaGreatDoorChecked
import Derived.Test.YtfdkcgdanhlfkaaGreatDoorJ08
namespace Go.Proofs.YtfdkcgdanhlfkaaGreatDoor
set_option linter.unusedVariables false
set_option linter.unusedSimpArgs false
open Go.RowKit

theorem split_any (A : Option Addr) (b bd : List UInt8) (n c : Nat) (w : World) (hn : b.length = n) (hA : Rb w A b) (hpl : Pl A c) (hnc : n ≤ c) (hcm : c ≤ maxLen) (hb : n ≤ 1000000) (hbd : bd.length ≤ 1000000) :
    Calls Tryz.prog 8 #[.slice A n c, .string (bs bd)] w (RSpl b bd w) := by
  refine (callsIn_wide.1 (split_in 10 (by omega) A b bd n c w hn hA hpl hnc hcm hb hbd)).mono ?_
  rintro e w' ⟨⟨v, ts, rfl, h1, h2, h3⟩, hb'⟩
  obtain ⟨A', c', rfl, h4, _, _, _, _, _⟩ := h2.form
  have hl : (splitS b bd).1.length = ts.length := by rw [← h1, List.length_map]
  exact ⟨A', c', by rw [hl], by rw [hl]; exact h4, by rw [← h1]; exact RR_of (n := ts.length) h2 h3 (fun t ht => ht), hb'⟩

theorem ex_split : splitS [45, 45, 120, 10, 97, 10, 45, 45, 120, 45, 45] [120] = ([[97]], 0) := by decide +kernel

set_option maxRecDepth 100000 in
set_option maxHeartbeats 2000000 in
theorem speaks_any (w : World) : Calls Tryz.prog 7 #[] w fun e w' => e = .returned (.bool true) ∧ Below w.heap.size w w' := by
  have hB0 : Below w.heap.size w (w.alloc (.cells #[.int .u8 45, .int .u8 45, .int .u8 120, .int .u8 10, .int .u8 97, .int .u8 10, .int .u8 45, .int .u8 45, .int .u8 120, .int .u8 45, .int .u8 45] 5 (11, 12))) := (Below.refl _ _).alloc (Nat.le_refl _) _
  have hR0 : Rb (w.alloc (.cells #[.int .u8 45, .int .u8 45, .int .u8 120, .int .u8 10, .int .u8 97, .int .u8 10, .int .u8 45, .int .u8 45, .int .u8 120, .int .u8 45, .int .u8 45] 5 (11, 12))) (some ⟨w.heap.size, 0, none⟩) [45, 45, 120, 10, 97, 10, 45, 45, 120, 45, 45] := by
    have h := Rb_new w [45, 45, 120, 10, 97, 10, 45, 45, 120, 45, 45] 5 #[.int .u8 45, .int .u8 45, .int .u8 120, .int .u8 10, .int .u8 97, .int .u8 10, .int .u8 45, .int .u8 45, .int .u8 120, .int .u8 45, .int .u8 45] rfl 11 (11, 12)
    exact h
  have hsp := split_any (some ⟨w.heap.size, 0, none⟩) [45, 45, 120, 10, 97, 10, 45, 45, 120, 45, 45] [120] 11 11 _ rfl hR0 (.inr ⟨_, _, rfl⟩) (Nat.le_refl _) (by unfold maxLen; omega) (by omega) (by simp)
  unfold RSpl at hsp
  rw [ex_split] at hsp
  have kc := Lib.run_convert_bytes_const (P := Tryz.prog) w 22 5 #[.int .u8 45, .int .u8 45, .int .u8 120, .int .u8 10, .int .u8 97, .int .u8 10, .int .u8 45, .int .u8 45, .int .u8 120, .int .u8 45, .int .u8 45] 11 11 Tryz.underlying22 Tryz.underlying5
  go_enter Tryz.func7, Tryz.ntmps7
  go_wp2_with fail
  refine hsp.mono ?_
  rintro e w1 ⟨A1, c1, rfl, _, hr1, hb1⟩
  have hB1 := hB0.trans (hb1.mono hB0.size)
  clear hsp hR0
  go_wp2_with fail
  refine (mread0_any w1).mono ?_
  rintro e w2 ⟨⟨A2, c2, rfl⟩, hb2⟩
  have hB2 := hB1.trans (hb2.mono hB1.size)
  obtain ⟨b, o, B, d, l, rfl, hl, cl, hld, _, _, _, hRl⟩ := (hr1.below hb2).one (k := 0) (by simp)
  have hl97 : l = [97] := by have := hl.out; simp at this; exact this.symm
  subst hl97
  have hcv : ∀ W, Rb W B [97] → (convert 22 9 (.slice B 1 d)).run Tryz.prog W = .ok (.string (bs [97])) W := fun W h => conv_str (P := Tryz.prog) Tryz.underlying22 Tryz.underlying5 Tryz.underlying9 h rfl
  have cl' : w2.cell? ⟨b, o, none⟩ = some (.slice B 1 d) := cl
  have hbl : b < w2.heap.size := cell_lt cl'
  have hRa : ∀ O, Rb (w2.alloc O) B [97] := fun O => hRl.below ((Below.refl _ _).alloc (Nat.le_refl _) O)
  have hcv2 := fun O => hcv _ (hRa O)
  clear hr1 hcv hl cl
  go_wp2_with fail
  go_ret
  exact ⟨rfl, hB2.trans (((Below.refl _ _).alloc (Nat.le_refl _) _).mono hB2.size)⟩
end Go.Proofs.YtfdkcgdanhlfkaaGreatDoor

namespace Go.Proofs.YtfdkcgdanhlfkaaGreatDoor
namespace Fd
set_option linter.unusedVariables false
set_option linter.unusedSimpArgs false
open Go.RowKit

set_option maxHeartbeats 400000 in
theorem fblank_any (c : UInt8) (w : World) :
    Calls Tryz.prog 142 #[.int .u8 (c.toNat : Int)] w fun e w' => e = .returned (.bool (blk c)) ∧ w = w' := by
  rcases blk_cases c with ⟨hb, h | ⟨h', h⟩⟩ | ⟨hb, h, h'⟩
  all_goals
    have HB := Lib.hid hb
    clear hb
    go_enter Tryz.func142, Tryz.ntmps142
    go_wp2_with fail
    go_ret
    exact ⟨ret_bool (by rw [HB.out]; all_goals (simp [h] <;> omega)), rfl⟩

set_option maxRecDepth 100000 in
set_option maxHeartbeats 400000 in
theorem fname_any (l : List UInt8) (w : World) (hl : l.length ≤ 9223372036854775807) :
    Calls Tryz.prog 117 #[.string (bs l)] w fun e w' => e = .returned (.bool (nmOk l)) ∧ Below w.heap.size w w' := by
  obtain ⟨c, W, hcv, hown, hB, _⟩ := conv_bs (P := Tryz.prog) (src := 9) (dst := 22) Tryz.underlying9 Tryz.underlying22 Tryz.underlying5 w l (by unfold maxLen; omega)
  go_enter Tryz.func117, Tryz.ntmps117
  obtain ⟨g, hg⟩ : ∃ g, decide (1 ≤ l.length ∧ l.length ≤ 64) = g := ⟨_, rfl⟩
  obtain ⟨A, _, hA, _, _, hR, _⟩ := hown.form
  cases hA
  have hRb : Rb W _ l := hR
  have hres : nmOk l = (l.all nmc && g) := by rw [← hg]; rfl
  have HR := Lib.hid hres
  have HG := Lib.hid hg
  clear hres hR hown hg
  rcases (by omega : l.length = 0 ∨ (1 ≤ l.length ∧ l.length ≤ 64) ∨ (1 ≤ l.length ∧ ¬ l.length ≤ 64)) with h1 | h1
  · have h0 : nmOk l = false := by rw [List.eq_nil_of_length_eq_zero h1]; rfl
    have H0 := Lib.hid h0
    clear h0
    go_wp2_with fail
    go_loopw [3, 17] (fun v i wr => v = .bool false ∧ i = .int .i64 0 ∧ wr = W) (fun _ _ _ => 0)
    case atStart => exact ⟨rfl, rfl, rfl⟩
    case round =>
      obtain ⟨rfl, rfl, rfl⟩ := hrel
      go_wp2_with fail
      go_ret
      exact ⟨ret_bool H0.out.symm, hB⟩
  rcases h1 with ⟨h1, h2⟩ | ⟨h1, h2⟩
  all_goals
    go_wp2_with fail
    go_loopw [3, 17] (fun v i wr => ∃ q : Nat, i = .int .i64 q ∧ q ≤ l.length ∧ v = .bool (g && (l.take q).all nmc) ∧ Dn W wr) (fun _ i _ => l.length - (intOf i).toNat)
    case atStart =>
      refine ⟨0, rfl, by omega, ?_, Dn.refl _⟩
      refine congrArg Value.bool ?_
      rw [← HG.out, Bool.eq_iff_iff]
      first
        | (simp only [List.take_zero, List.all_nil, Bool.and_true, decide_eq_true_eq]; omega)
        | (simp; omega)
    case round =>
      obtain ⟨q, rfl, hq, rfl, hd⟩ := hrel
      by_cases hlt : q < l.length
      · obtain ⟨b, o, x, e, hx, hcell⟩ := (hRb.below (hd.below _)).one hlt
        cases e
        rw [Nat.zero_add] at hcell
        have hst : (g && (l.take (q + 1)).all nmc) = ((g && (l.take q).all nmc) && nmc x) := by rw [all_take nmc _ hx.out, Bool.and_assoc]
        have HST := Lib.hid hst
        clear hst
        rcases Bool.eq_false_or_eq_true (g && (l.take q).all nmc) with hG | hG
        · rw [hG] at HST ⊢
          have hx2 : (nmc x = true ∧ (32 : Int) < (x.toNat : Int) ∧ (x.toNat : Int) ≤ 126 ∧ ((x.toNat : Int) != 58) = true) ∨ (nmc x = false ∧ (¬ (32 : Int) < (x.toNat : Int) ∨ ((32 : Int) < (x.toNat : Int) ∧ ¬ (x.toNat : Int) ≤ 126) ∨ ((32 : Int) < (x.toNat : Int) ∧ (x.toNat : Int) ≤ 126 ∧ ((x.toNat : Int) != 58) = false))) := by
            rcases Bool.eq_false_or_eq_true (nmc x) with h | h
            · have := (nmc_iff x).1 h
              exact .inl ⟨h, by omega, by omega, by rw [bne_iff_ne]; omega⟩
            · refine .inr ⟨h, ?_⟩
              have h' : ¬ nmc x = true := by simp [h]
              rw [nmc_iff] at h'
              rw [bne_eq_false_iff_eq]
              omega
          rcases hx2 with ⟨hn, k1, k2, k3⟩ | ⟨hn, k1 | ⟨k1, k2⟩ | ⟨k1, k2, k3⟩⟩
          all_goals
            rw [hn] at HST
            clear hn
            go_wp2_with fail
            go_roundw
            case rel => exact ⟨q + 1, by go_num, by omega, by rw [HST.out]; rfl, hd⟩
            case measure => simp [intOf]; omega
        · rw [hG] at HST ⊢
          go_wp2_with fail
          go_roundw
          case rel => exact ⟨q + 1, by go_num, by omega, by rw [HST.out]; rfl, hd⟩
          case measure => simp [intOf]; omega
      · obtain rfl : q = l.length := by omega
        have ha : (g && (l.take l.length).all nmc) = nmOk l := by rw [List.take_length, Bool.and_comm]; exact HR.out.symm
        rw [ha]
        clear ha
        go_wp2_with fail
        go_ret
        exact ⟨rfl, hB.trans ((hd.below _).mono hB.size)⟩
end Fd
end Go.Proofs.YtfdkcgdanhlfkaaGreatDoor

namespace Go.Proofs.YtfdkcgdanhlfkaaGreatDoor
namespace Fd
set_option linter.unusedVariables false
set_option linter.unusedSimpArgs false
open Go.RowKit Go.Shelf

theorem trimB_edges (l : List UInt8) : trimB l = l ↔ edges l = true := by
  have hc : ∀ c : UInt8, ([32, 9] : List UInt8).contains c = blk c := by
    intro c
    unfold blk
    simp [List.contains, List.elem]
    cases c == 32 <;> cases c == 9 <;> rfl
  unfold trimB Lib.trimS Lib.trimLeftS Lib.trimRightS edges
  simp only [hc]
  have hlen : ∀ (m : List UInt8), (m.dropWhile blk).length ≤ m.length := fun m => (List.dropWhile_sublist _).length_le
  have hdw : ∀ m : List UInt8, m.dropWhile blk = m ↔ m.head?.all (fun c => !blk c) = true := by
    intro m
    cases m with
    | nil => simp
    | cons a r =>
      by_cases ha : blk a = true
      · rw [List.dropWhile_cons_of_pos ha]
        simp only [List.head?_cons, Option.all_some, ha]
        constructor
        · intro e
          have := hlen r
          rw [e] at this
          simp at this
          omega
        · intro h
          cases h
      · rw [List.dropWhile_cons_of_neg ha]
        simp [ha]
  rw [Bool.and_eq_true]
  have hrev : l.reverse.head? = l.getLast? := by simp
  constructor
  · intro h
    have h1 : (l.reverse.dropWhile blk).reverse.length = l.length := by
      have a1 := hlen (l.reverse.dropWhile blk).reverse
      have a2 := hlen l.reverse
      rw [h] at a1
      simp only [List.length_reverse] at a1 a2 ⊢
      omega
    have h2 : l.reverse.dropWhile blk = l.reverse := by
      have hs := List.dropWhile_suffix blk (l := l.reverse)
      exact hs.eq_of_length (by simpa using h1)
    rw [h2, List.reverse_reverse] at h
    have h3 := (hdw l.reverse).1 h2
    rw [hrev] at h3
    exact ⟨(hdw l).1 h, h3⟩
  · rintro ⟨h1, h2⟩
    have h3 := (hdw l.reverse).2 (by rw [hrev]; exact h2)
    rw [h3, List.reverse_reverse]
    exact (hdw l).2 h1
theorem trimB_len (l : List UInt8) : (trimB l).length ≤ l.length := by
  unfold trimB Lib.trimS Lib.trimLeftS Lib.trimRightS
  have h1 := (List.dropWhile_sublist (l := ((l.reverse.dropWhile (([32, 9] : List UInt8).contains ·)).reverse)) (([32, 9] : List UInt8).contains ·)).length_le
  have h2 := (List.dropWhile_sublist (l := l.reverse) (([32, 9] : List UInt8).contains ·)).length_le
  simp only [List.length_reverse] at h1 h2 ⊢
  omega

set_option maxHeartbeats 400000 in
theorem signs1_any (c : UInt8) (w : World) :
    Calls Tryz.prog 164 #[.int .u8 (c.toNat : Int)] w fun e w' => e = .returned (.bool (!sgc c)) ∧ w' = w := by
  have h := sgc_iff c
  have h1 : (sgc c = true ∧ (((c.toNat : Int) != 9) = false)) ∨ (sgc c = true ∧ ((c.toNat : Int) != 9) = true ∧ ¬ (c.toNat : Int) < 32 ∧ ¬ (126 : Int) < (c.toNat : Int)) ∨ (sgc c = false ∧ ((c.toNat : Int) != 9) = true ∧ (c.toNat : Int) < 32) ∨ (sgc c = false ∧ ((c.toNat : Int) != 9) = true ∧ ¬ (c.toNat : Int) < 32 ∧ (126 : Int) < (c.toNat : Int)) := by
    have h' : sgc c = false ↔ ¬ (c.toNat = 9 ∨ 32 ≤ c.toNat ∧ c.toNat ≤ 126) := by rw [← Bool.not_eq_true, h]
    simp only [h, h', bne_iff_ne, bne_eq_false_iff_eq, ne_eq]
    omega
  clear h
  rcases h1 with ⟨hs, h1⟩ | ⟨hs, h1, h2, h3⟩ | ⟨hs, h1, h2⟩ | ⟨hs, h1, h2, h3⟩
  all_goals
    rw [hs]
    clear hs
    go_enter Tryz.func164, Tryz.ntmps164
    go_wp2_with fail
    go_ret
    exact ⟨rfl, rfl⟩
theorem eg_signs : ∀ args w, (callFunc 164 args).run Tryz.prog w = .ok (.enter 164 args) w := enters_of Tryz.func164 (by kernel_rfl) rfl

set_option maxHeartbeats 400000 in
theorem signs_any (l : List UInt8) (w : World) (hl : l.length ≤ 1000000000) :
    Calls Tryz.prog 141 #[.string (bs l)] w fun e w' => e = .returned (.bool (l.all sgc)) ∧ Below w.heap.size w w' := by
  obtain ⟨c, W, hcv, hown, hB, _⟩ := conv_bs (P := Tryz.prog) (src := 9) (dst := 22) Tryz.underlying9 Tryz.underlying22 Tryz.underlying5 w l (by unfold maxLen; omega)
  obtain ⟨A, _, hA, _, _, hR, _⟩ := hown.form
  cases hA
  have hres : (!l.any fun c => !sgc c) = l.all sgc := by rw [List.all_eq_not_any_not]
  have HR := Lib.hid hres
  have hc : Calls Tryz.prog 163 #[.slice (some ⟨w.heap.size, 0, none⟩) l.length c, .func (.func 164) #[] #[]] W fun e w' => e = .returned (.bool (l.any fun c => !sgc c)) ∧ Dn W w' := by
    have h := AnyE.slices_ContainsFunc Tryz.containsB bv (fun c => !sgc c) 164 #[] eg_signs w.heap.size 0 l.length c l W
      (fun W' x _ => (signs1_any x W').mono (by rintro e w' ⟨rfl, rfl⟩; exact ⟨rfl, 0, rfl⟩)) (Nat.le_refl _) (by omega) (fun j hj => by
        obtain ⟨b, o, x, e, hx, hcell⟩ := (show Rb W _ l from hR).one hj
        cases e
        rw [hcell]
        have : l[j]! = x := by rw [List.getElem!_eq_getElem?_getD, hx.out]; rfl
        rw [this]
        rfl)
    rw [List.take_length] at h
    exact h
  clear hres hown hR
  generalize (l.any fun c => !sgc c) = g at *
  go_enter Tryz.func141, Tryz.ntmps141
  go_wp2_with fail
  refine hc.mono ?_
  rintro e w' ⟨rfl, hd⟩
  go_wp2_with fail
  go_ret
  exact ⟨ret_bool HR.out, hB.trans ((hd.below _).mono hB.size)⟩

set_option maxHeartbeats 400000 in
theorem value_any (l : List UInt8) (w : World) (hl : l.length ≤ 9223372036854775807) :
    Calls Tryz.prog 118 #[.string (bs l)] w fun e w' => e = .returned (.bool (vlOk l)) ∧ Below w.heap.size w w' := by
  have hv : vlOk l = (l.all sgc && decide (l.length ≤ 8192) && edges l) := rfl
  have HV := Lib.hid hv
  have hte := trimB_edges l
  have HT := Lib.hid hte
  clear hv hte
  go_enter Tryz.func118, Tryz.ntmps118
  by_cases h2 : l.length ≤ 8192
  · go_wp2_with fail
    refine (signs_any l _ (by omega)).mono ?_
    rintro e w1 ⟨rfl, hb1⟩
    rcases Bool.eq_false_or_eq_true (l.all sgc) with h | h
    · rw [h]
      go_wp2_with fail
      refine (trim_any l _ (by omega)).mono ?_
      rintro e w2 ⟨rfl, hb2⟩
      have hB := hb1.trans (hb2.mono hb1.size)
      generalize trimB l = m at *
      go_wp2_with fail
      go_ret
      refine ⟨ret_bool ?_, hB⟩
      rw [HV.out, h, decide_eq_true h2, Bool.eq_iff_iff]
      simp only [Bool.and_self, Bool.true_and, beq_iff_eq]
      rw [← HT.out]
      exact eq_comm
    · rw [h]
      go_wp2_with fail
      go_ret
      exact ⟨ret_bool (by rw [HV.out, h]; rfl), hb1⟩
  · go_wp2_with fail
    go_ret
    exact ⟨ret_bool (by rw [HV.out, decide_eq_false h2]; simp), Below.refl _ _⟩
end Fd
end Go.Proofs.YtfdkcgdanhlfkaaGreatDoor

namespace Go.Proofs.YtfdkcgdanhlfkaaGreatDoor
namespace Fd
set_option linter.unusedVariables false
set_option linter.unusedSimpArgs false
open Go.RowKit

theorem nmOk_no {l : List UInt8} {q : Nat} {c : UInt8} (h : l[q]? = some c) (hc : nmc c = false) : nmOk l = false := by
  unfold nmOk
  rw [all_hit nmc h hc]
  rfl




theorem edges_one {l : List UInt8} {a b : UInt8} (ha : l[0]? = some a) (hb : l[l.length - 1]? = some b) : edges l = (!blk a && !blk b) := by
  unfold edges
  rw [List.head?_eq_getElem?, ha, List.getLast?_eq_getElem?, hb]
  rfl



theorem sameN_no {a b : List UInt8} {q : Nat} {x y : UInt8} (hx : a[q]? = some x) (hy : b[q]? = some y) (h : small x ≠ small y) : sameN a b = false := by
  unfold sameN
  rw [decide_eq_false_iff_not]
  intro e
  have := congrArg (fun l => l[q]?) e
  simp only [List.getElem?_map, hx, hy, Option.map_some, Option.some.injEq] at this
  exact h this
theorem sameN_len {a b : List UInt8} (h : a.length ≠ b.length) : sameN a b = false := by
  unfold sameN
  rw [decide_eq_false_iff_not]
  intro e
  have := congrArg List.length e
  simp only [List.length_map] at this
  exact h this
theorem small_ne {x y : UInt8} : (((small x).toNat : Int) != ((small y).toNat : Int)) = decide (small x ≠ small y) := by
  rw [Bool.eq_iff_iff, bne_iff_ne, decide_eq_true_iff]
  exact not_congr u8_eq


end Fd
end Go.Proofs.YtfdkcgdanhlfkaaGreatDoor
