/- The program's squeezed: a text without blanks, and with small letters. · Names and values: field's own tests. · Values, and whether two names are one: field's own tests. -/
import Derived.Test.YtcagkoakbdbbaaaGreatDoorJ16
import Derived.Test.YtcagkoakbdbbaaaGreatDoorJ05
import Derived.Test.YtcagkoakbdbbaaaGreatDoorChecked
import Derived.Test.YtcagkoakbdbbaaaGreatDoorJ06
namespace Go.Proofs.YtcagkoakbdbbaaaGreatDoor
set_option linter.unusedVariables false
set_option linter.unusedSimpArgs false
open Go.RowKit Go.Shelf

def sqF (x : Int) : Int := if x = 32 ∨ x = 9 ∨ x = 13 ∨ x = 10 then -1 else if 65 ≤ x ∧ x ≤ 90 then x + 32 else x
set_option maxHeartbeats 400000 in
theorem squeezed1_any (x : Nat) (w : World) (hx : x ≤ 1114111) :
    Calls Tryz.prog 95 #[.int .i32 (x : Int)] w fun e w' => e = .returned (.int .i32 (sqF x)) ∧ Below w.heap.size w w' := by
  by_cases h0 : x = 32 ∨ x = 9 ∨ x = 13 ∨ x = 10
  · rcases h0 with rfl | rfl | rfl | rfl
    all_goals
      go_enter Tryz.func95, Tryz.ntmps95
      go_wp2_with fail
      go_ret
      exact ⟨rfl, Below.refl _ _⟩
  · have e1 : ((x : Int) == 32) = false := by rw [beq_eq_false_iff_ne]; omega
    have e2 : ((x : Int) == 9) = false := by rw [beq_eq_false_iff_ne]; omega
    have e3 : ((x : Int) == 13) = false := by rw [beq_eq_false_iff_ne]; omega
    have e4 : ((x : Int) == 10) = false := by rw [beq_eq_false_iff_ne]; omega
    unfold sqF
    rw [if_neg (by omega)]
    rcases (by omega : (65 ≤ x ∧ x ≤ 90) ∨ x < 65 ∨ (65 ≤ x ∧ 90 < x)) with ⟨h1, h2⟩ | h1 | ⟨h1, h2⟩
    · rw [if_pos ⟨by omega, by omega⟩]
      clear h0
      go_enter Tryz.func95, Tryz.ntmps95
      go_wp2_with fail
      go_ret
      exact ⟨ret_int (by go_num), Below.refl _ _⟩
    all_goals
      rw [if_neg (by omega)]
      clear h0
      go_enter Tryz.func95, Tryz.ntmps95
      go_wp2_with fail
      go_ret
      exact ⟨ret_int (by go_num), Below.refl _ _⟩
theorem eg_squeezed : ∀ args w, (callFunc 95 args).run Tryz.prog w = .ok (.enter 95 args) w := enters_of Tryz.func95 (by kernel_rfl) rfl
set_option maxHeartbeats 400000 in
theorem squeezed_any (A : Option Addr) (l : List UInt8) (n c : Nat) (w : World) (hT : Lib.Utf8Tabs 3 4 w) (hn : l.length = n) (hA : Rb w A l) (hl : n ≤ 1000000000) :
    Calls Tryz.prog 74 #[.slice A n c] w fun e w' => e = .returned (.string (bs (Lib.mapD sqF l))) ∧ Below w.heap.size w w' := by
  have h := Tryz.strings_Map_grows 95 #[] eg_squeezed sqF (bs l) w (by rw [bs_size]; omega) (fun W x hx _ => squeezed1_any x W hx) (fun x hx => by unfold sqF; split <;> (try split) <;> omega) hT
  rw [bs_toList] at h
  have h2 : Calls Tryz.prog 93 #[.func (.func 95) #[] #[], .string (bs l)] w fun e w' => e = .returned (.string (bs (Lib.mapD sqF l))) ∧ Below w.heap.size w w' := h
  have hcs := conv_str (P := Tryz.prog) Tryz.underlying22 Tryz.underlying5 Tryz.underlying9 (n := n) (c := c) hA hn
  clear h hn
  generalize Lib.mapD sqF l = m at *
  go_enter Tryz.func74, Tryz.ntmps74
  go_wp2_with fail
  refine h2.mono ?_
  rintro e w' ⟨rfl, hb⟩
  go_wp2_with fail
  go_ret
  exact ⟨rfl, hb⟩
end Go.Proofs.YtcagkoakbdbbaaaGreatDoor

namespace Go.Proofs.YtcagkoakbdbbaaaGreatDoor
set_option linter.unusedVariables false
set_option linter.unusedSimpArgs false
open Go.RowKit

set_option maxHeartbeats 400000 in
theorem fblank_any (c : UInt8) (w : World) :
    Calls Tryz.prog 103 #[.int .u8 (c.toNat : Int)] w fun e w' => e = .returned (.bool (blk c)) ∧ w = w' := by
  rcases blk_cases c with ⟨hb, h | ⟨h', h⟩⟩ | ⟨hb, h, h'⟩
  all_goals
    have HB := Lib.hid hb
    clear hb
    go_enter Tryz.func103, Tryz.ntmps103
    go_wp2_with fail
    go_ret
    exact ⟨ret_bool (by rw [HB.out]; all_goals (simp [h] <;> omega)), rfl⟩

set_option maxRecDepth 100000 in
set_option maxHeartbeats 400000 in
theorem fname_any (l : List UInt8) (w : World) (hl : l.length ≤ 9223372036854775807) :
    Calls Tryz.prog 79 #[.string (bs l)] w fun e w' => e = .returned (.bool (nmOk l)) ∧ Below w.heap.size w w' := by
  obtain ⟨c, W, hcv, hown, hB, _⟩ := conv_bs (P := Tryz.prog) (src := 9) (dst := 22) Tryz.underlying9 Tryz.underlying22 Tryz.underlying5 w l (by unfold maxLen; omega)
  go_enter Tryz.func79, Tryz.ntmps79
  obtain ⟨g, hg⟩ : ∃ g, decide (1 ≤ l.length ∧ l.length ≤ 64) = g := ⟨_, rfl⟩
  obtain ⟨A, _, hA, _, _, hR, _⟩ := hown.form
  cases hA
  have hRb : Rb W _ l := hR
  have hres : nmOk l = (l.all nmc && g) := by rw [← hg]; rfl
  have HR := Lib.hid hres
  have HG := Lib.hid hg
  clear hres hR hown hg
  rcases (by omega : l.length = 0 ∨ (1 ≤ l.length ∧ l.length ≤ 64) ∨ (1 ≤ l.length ∧ ¬ l.length ≤ 64)) with h1 | h1
  · have h0 : nmOk l = false := by rw [List.eq_nil_of_length_eq_zero h1]; rfl
    have H0 := Lib.hid h0
    clear h0
    go_wp2_with fail
    go_loopw [3, 17] (fun v i wr => v = .bool false ∧ i = .int .i64 0 ∧ wr = W) (fun _ _ _ => 0)
    case atStart => exact ⟨rfl, rfl, rfl⟩
    case round =>
      obtain ⟨rfl, rfl, rfl⟩ := hrel
      go_wp2_with fail
      go_ret
      exact ⟨ret_bool H0.out.symm, hB⟩
  rcases h1 with ⟨h1, h2⟩ | ⟨h1, h2⟩
  all_goals
    go_wp2_with fail
    go_loopw [3, 17] (fun v i wr => ∃ q : Nat, i = .int .i64 q ∧ q ≤ l.length ∧ v = .bool (g && (l.take q).all nmc) ∧ Dn W wr) (fun _ i _ => l.length - (intOf i).toNat)
    case atStart =>
      refine ⟨0, rfl, by omega, ?_, Dn.refl _⟩
      refine congrArg Value.bool ?_
      rw [← HG.out, Bool.eq_iff_iff]
      first
        | (simp only [List.take_zero, List.all_nil, Bool.and_true, decide_eq_true_eq]; omega)
        | (simp; omega)
    case round =>
      obtain ⟨q, rfl, hq, rfl, hd⟩ := hrel
      by_cases hlt : q < l.length
      · obtain ⟨b, o, x, e, hx, hcell⟩ := (hRb.below (hd.below _)).one hlt
        cases e
        rw [Nat.zero_add] at hcell
        have hst : (g && (l.take (q + 1)).all nmc) = ((g && (l.take q).all nmc) && nmc x) := by rw [all_take nmc _ hx.out, Bool.and_assoc]
        have HST := Lib.hid hst
        clear hst
        rcases Bool.eq_false_or_eq_true (g && (l.take q).all nmc) with hG | hG
        · rw [hG] at HST ⊢
          have hx2 : (nmc x = true ∧ (32 : Int) < (x.toNat : Int) ∧ (x.toNat : Int) ≤ 126 ∧ ((x.toNat : Int) != 58) = true) ∨ (nmc x = false ∧ (¬ (32 : Int) < (x.toNat : Int) ∨ ((32 : Int) < (x.toNat : Int) ∧ ¬ (x.toNat : Int) ≤ 126) ∨ ((32 : Int) < (x.toNat : Int) ∧ (x.toNat : Int) ≤ 126 ∧ ((x.toNat : Int) != 58) = false))) := by
            rcases Bool.eq_false_or_eq_true (nmc x) with h | h
            · have := (nmc_iff x).1 h
              exact .inl ⟨h, by omega, by omega, by rw [bne_iff_ne]; omega⟩
            · refine .inr ⟨h, ?_⟩
              have h' : ¬ nmc x = true := by simp [h]
              rw [nmc_iff] at h'
              rw [bne_eq_false_iff_eq]
              omega
          rcases hx2 with ⟨hn, k1, k2, k3⟩ | ⟨hn, k1 | ⟨k1, k2⟩ | ⟨k1, k2, k3⟩⟩
          all_goals
            rw [hn] at HST
            clear hn
            go_wp2_with fail
            go_roundw
            case rel => exact ⟨q + 1, by go_num, by omega, by rw [HST.out]; rfl, hd⟩
            case measure => simp [intOf]; omega
        · rw [hG] at HST ⊢
          go_wp2_with fail
          go_roundw
          case rel => exact ⟨q + 1, by go_num, by omega, by rw [HST.out]; rfl, hd⟩
          case measure => simp [intOf]; omega
      · obtain rfl : q = l.length := by omega
        have ha : (g && (l.take l.length).all nmc) = nmOk l := by rw [List.take_length, Bool.and_comm]; exact HR.out.symm
        rw [ha]
        clear ha
        go_wp2_with fail
        go_ret
        exact ⟨rfl, hB.trans ((hd.below _).mono hB.size)⟩
end Go.Proofs.YtcagkoakbdbbaaaGreatDoor

namespace Go.Proofs.YtcagkoakbdbbaaaGreatDoor
set_option linter.unusedVariables false
set_option linter.unusedSimpArgs false
open Go.RowKit Go.Shelf

theorem trimB_edges (l : List UInt8) : trimB l = l ↔ edges l = true := by
  have hc : ∀ c : UInt8, ([32, 9] : List UInt8).contains c = blk c := by
    intro c
    unfold blk
    simp [List.contains, List.elem]
    cases c == 32 <;> cases c == 9 <;> rfl
  unfold trimB Lib.trimS Lib.trimLeftS Lib.trimRightS edges
  simp only [hc]
  have hlen : ∀ (m : List UInt8), (m.dropWhile blk).length ≤ m.length := fun m => (List.dropWhile_sublist _).length_le
  have hdw : ∀ m : List UInt8, m.dropWhile blk = m ↔ m.head?.all (fun c => !blk c) = true := by
    intro m
    cases m with
    | nil => simp
    | cons a r =>
      by_cases ha : blk a = true
      · rw [List.dropWhile_cons_of_pos ha]
        simp only [List.head?_cons, Option.all_some, ha]
        constructor
        · intro e
          have := hlen r
          rw [e] at this
          simp at this
          omega
        · intro h
          cases h
      · rw [List.dropWhile_cons_of_neg ha]
        simp [ha]
  rw [Bool.and_eq_true]
  have hrev : l.reverse.head? = l.getLast? := by simp
  constructor
  · intro h
    have h1 : (l.reverse.dropWhile blk).reverse.length = l.length := by
      have a1 := hlen (l.reverse.dropWhile blk).reverse
      have a2 := hlen l.reverse
      rw [h] at a1
      simp only [List.length_reverse] at a1 a2 ⊢
      omega
    have h2 : l.reverse.dropWhile blk = l.reverse := by
      have hs := List.dropWhile_suffix blk (l := l.reverse)
      exact hs.eq_of_length (by simpa using h1)
    rw [h2, List.reverse_reverse] at h
    have h3 := (hdw l.reverse).1 h2
    rw [hrev] at h3
    exact ⟨(hdw l).1 h, h3⟩
  · rintro ⟨h1, h2⟩
    have h3 := (hdw l.reverse).2 (by rw [hrev]; exact h2)
    rw [h3, List.reverse_reverse]
    exact (hdw l).2 h1
theorem trimB_len (l : List UInt8) : (trimB l).length ≤ l.length := by
  unfold trimB Lib.trimS Lib.trimLeftS Lib.trimRightS
  have h1 := (List.dropWhile_sublist (l := ((l.reverse.dropWhile (([32, 9] : List UInt8).contains ·)).reverse)) (([32, 9] : List UInt8).contains ·)).length_le
  have h2 := (List.dropWhile_sublist (l := l.reverse) (([32, 9] : List UInt8).contains ·)).length_le
  simp only [List.length_reverse] at h1 h2 ⊢
  omega

set_option maxHeartbeats 400000 in
theorem signs1_any (c : UInt8) (w : World) :
    Calls Tryz.prog 60 #[.int .u8 (c.toNat : Int)] w fun e w' => e = .returned (.bool (!sgc c)) ∧ w' = w := by
  have h := sgc_iff c
  have h1 : (sgc c = true ∧ (((c.toNat : Int) != 9) = false)) ∨ (sgc c = true ∧ ((c.toNat : Int) != 9) = true ∧ ¬ (c.toNat : Int) < 32 ∧ ¬ (126 : Int) < (c.toNat : Int)) ∨ (sgc c = false ∧ ((c.toNat : Int) != 9) = true ∧ (c.toNat : Int) < 32) ∨ (sgc c = false ∧ ((c.toNat : Int) != 9) = true ∧ ¬ (c.toNat : Int) < 32 ∧ (126 : Int) < (c.toNat : Int)) := by
    have h' : sgc c = false ↔ ¬ (c.toNat = 9 ∨ 32 ≤ c.toNat ∧ c.toNat ≤ 126) := by rw [← Bool.not_eq_true, h]
    simp only [h, h', bne_iff_ne, bne_eq_false_iff_eq, ne_eq]
    omega
  clear h
  rcases h1 with ⟨hs, h1⟩ | ⟨hs, h1, h2, h3⟩ | ⟨hs, h1, h2⟩ | ⟨hs, h1, h2, h3⟩
  all_goals
    rw [hs]
    clear hs
    go_enter Tryz.func60, Tryz.ntmps60
    go_wp2_with fail
    go_ret
    exact ⟨rfl, rfl⟩
theorem eg_signs : ∀ args w, (callFunc 60 args).run Tryz.prog w = .ok (.enter 60 args) w := enters_of Tryz.func60 (by kernel_rfl) rfl

set_option maxHeartbeats 400000 in
theorem signs_any (l : List UInt8) (w : World) (hl : l.length ≤ 1000000000) :
    Calls Tryz.prog 35 #[.string (bs l)] w fun e w' => e = .returned (.bool (l.all sgc)) ∧ Below w.heap.size w w' := by
  obtain ⟨c, W, hcv, hown, hB, _⟩ := conv_bs (P := Tryz.prog) (src := 9) (dst := 22) Tryz.underlying9 Tryz.underlying22 Tryz.underlying5 w l (by unfold maxLen; omega)
  obtain ⟨A, _, hA, _, _, hR, _⟩ := hown.form
  cases hA
  have hres : (!l.any fun c => !sgc c) = l.all sgc := by rw [List.all_eq_not_any_not]
  have HR := Lib.hid hres
  have hc : Calls Tryz.prog 59 #[.slice (some ⟨w.heap.size, 0, none⟩) l.length c, .func (.func 60) #[] #[]] W fun e w' => e = .returned (.bool (l.any fun c => !sgc c)) ∧ Dn W w' := by
    have h := AnyE.slices_ContainsFunc Tryz.containsB bv (fun c => !sgc c) 60 #[] eg_signs w.heap.size 0 l.length c l W
      (fun W' x _ => (signs1_any x W').mono (by rintro e w' ⟨rfl, rfl⟩; exact ⟨rfl, 0, rfl⟩)) (Nat.le_refl _) (by omega) (fun j hj => by
        obtain ⟨b, o, x, e, hx, hcell⟩ := (show Rb W _ l from hR).one hj
        cases e
        rw [hcell]
        have : l[j]! = x := by rw [List.getElem!_eq_getElem?_getD, hx.out]; rfl
        rw [this]
        rfl)
    rw [List.take_length] at h
    exact h
  clear hres hown hR
  generalize (l.any fun c => !sgc c) = g at *
  go_enter Tryz.func35, Tryz.ntmps35
  go_wp2_with fail
  refine hc.mono ?_
  rintro e w' ⟨rfl, hd⟩
  go_wp2_with fail
  go_ret
  exact ⟨ret_bool HR.out, hB.trans ((hd.below _).mono hB.size)⟩

set_option maxHeartbeats 400000 in
theorem value_any (l : List UInt8) (w : World) (hl : l.length ≤ 9223372036854775807) :
    Calls Tryz.prog 18 #[.string (bs l)] w fun e w' => e = .returned (.bool (vlOk l)) ∧ Below w.heap.size w w' := by
  have hv : vlOk l = (l.all sgc && decide (l.length ≤ 8192) && edges l) := rfl
  have HV := Lib.hid hv
  have hte := trimB_edges l
  have HT := Lib.hid hte
  clear hv hte
  go_enter Tryz.func18, Tryz.ntmps18
  by_cases h2 : l.length ≤ 8192
  · go_wp2_with fail
    refine (signs_any l _ (by omega)).mono ?_
    rintro e w1 ⟨rfl, hb1⟩
    rcases Bool.eq_false_or_eq_true (l.all sgc) with h | h
    · rw [h]
      go_wp2_with fail
      refine (trim_any l _ (by omega)).mono ?_
      rintro e w2 ⟨rfl, hb2⟩
      have hB := hb1.trans (hb2.mono hb1.size)
      generalize trimB l = m at *
      go_wp2_with fail
      go_ret
      refine ⟨ret_bool ?_, hB⟩
      rw [HV.out, h, decide_eq_true h2, Bool.eq_iff_iff]
      simp only [Bool.and_self, Bool.true_and, beq_iff_eq]
      rw [← HT.out]
      exact eq_comm
    · rw [h]
      go_wp2_with fail
      go_ret
      exact ⟨ret_bool (by rw [HV.out, h]; rfl), hb1⟩
  · go_wp2_with fail
    go_ret
    exact ⟨ret_bool (by rw [HV.out, decide_eq_false h2]; simp), Below.refl _ _⟩
end Go.Proofs.YtcagkoakbdbbaaaGreatDoor
