/- Values, and whether two names are one: field's own tests. · The document's names and values. -/
import Derived.Test.YtkllecicddfjpaaGreatDoorJ17
import Derived.Test.YtkllecicddfjpaaGreatDoorJ05
import Derived.Test.YtkllecicddfjpaaGreatDoorChecked
namespace Go.Proofs.YtkllecicddfjpaaGreatDoor
namespace Fd
set_option linter.unusedVariables false
set_option linter.unusedSimpArgs false
open Go.RowKit Go.Shelf

theorem trimB_edges (l : List UInt8) : trimB l = l ↔ edges l = true := by
  have hc : ∀ c : UInt8, ([32, 9] : List UInt8).contains c = blk c := by
    intro c
    unfold blk
    simp [List.contains, List.elem]
    cases c == 32 <;> cases c == 9 <;> rfl
  unfold trimB Lib.trimS Lib.trimLeftS Lib.trimRightS edges
  simp only [hc]
  have hlen : ∀ (m : List UInt8), (m.dropWhile blk).length ≤ m.length := fun m => (List.dropWhile_sublist _).length_le
  have hdw : ∀ m : List UInt8, m.dropWhile blk = m ↔ m.head?.all (fun c => !blk c) = true := by
    intro m
    cases m with
    | nil => simp
    | cons a r =>
      by_cases ha : blk a = true
      · rw [List.dropWhile_cons_of_pos ha]
        simp only [List.head?_cons, Option.all_some, ha]
        constructor
        · intro e
          have := hlen r
          rw [e] at this
          simp at this
          omega
        · intro h
          cases h
      · rw [List.dropWhile_cons_of_neg ha]
        simp [ha]
  rw [Bool.and_eq_true]
  have hrev : l.reverse.head? = l.getLast? := by simp
  constructor
  · intro h
    have h1 : (l.reverse.dropWhile blk).reverse.length = l.length := by
      have a1 := hlen (l.reverse.dropWhile blk).reverse
      have a2 := hlen l.reverse
      rw [h] at a1
      simp only [List.length_reverse] at a1 a2 ⊢
      omega
    have h2 : l.reverse.dropWhile blk = l.reverse := by
      have hs := List.dropWhile_suffix blk (l := l.reverse)
      exact hs.eq_of_length (by simpa using h1)
    rw [h2, List.reverse_reverse] at h
    have h3 := (hdw l.reverse).1 h2
    rw [hrev] at h3
    exact ⟨(hdw l).1 h, h3⟩
  · rintro ⟨h1, h2⟩
    have h3 := (hdw l.reverse).2 (by rw [hrev]; exact h2)
    rw [h3, List.reverse_reverse]
    exact (hdw l).2 h1
theorem trimB_len (l : List UInt8) : (trimB l).length ≤ l.length := by
  unfold trimB Lib.trimS Lib.trimLeftS Lib.trimRightS
  have h1 := (List.dropWhile_sublist (l := ((l.reverse.dropWhile (([32, 9] : List UInt8).contains ·)).reverse)) (([32, 9] : List UInt8).contains ·)).length_le
  have h2 := (List.dropWhile_sublist (l := l.reverse) (([32, 9] : List UInt8).contains ·)).length_le
  simp only [List.length_reverse] at h1 h2 ⊢
  omega

set_option maxHeartbeats 400000 in
theorem signs1_any (c : UInt8) (w : World) :
    Calls Tryz.prog 202 #[.int .u8 (c.toNat : Int)] w fun e w' => e = .returned (.bool (!sgc c)) ∧ w' = w := by
  have h := sgc_iff c
  have h1 : (sgc c = true ∧ (((c.toNat : Int) != 9) = false)) ∨ (sgc c = true ∧ ((c.toNat : Int) != 9) = true ∧ ¬ (c.toNat : Int) < 32 ∧ ¬ (126 : Int) < (c.toNat : Int)) ∨ (sgc c = false ∧ ((c.toNat : Int) != 9) = true ∧ (c.toNat : Int) < 32) ∨ (sgc c = false ∧ ((c.toNat : Int) != 9) = true ∧ ¬ (c.toNat : Int) < 32 ∧ (126 : Int) < (c.toNat : Int)) := by
    have h' : sgc c = false ↔ ¬ (c.toNat = 9 ∨ 32 ≤ c.toNat ∧ c.toNat ≤ 126) := by rw [← Bool.not_eq_true, h]
    simp only [h, h', bne_iff_ne, bne_eq_false_iff_eq, ne_eq]
    omega
  clear h
  rcases h1 with ⟨hs, h1⟩ | ⟨hs, h1, h2, h3⟩ | ⟨hs, h1, h2⟩ | ⟨hs, h1, h2, h3⟩
  all_goals
    rw [hs]
    clear hs
    go_enter Tryz.func202, Tryz.ntmps202
    go_wp2_with fail
    go_ret
    exact ⟨rfl, rfl⟩
theorem eg_signs : ∀ args w, (callFunc 202 args).run Tryz.prog w = .ok (.enter 202 args) w := enters_of Tryz.func202 (by kernel_rfl) rfl

set_option maxHeartbeats 400000 in
theorem signs_any (l : List UInt8) (w : World) (hl : l.length ≤ 1000000000) :
    Calls Tryz.prog 152 #[.string (bs l)] w fun e w' => e = .returned (.bool (l.all sgc)) ∧ Below w.heap.size w w' := by
  obtain ⟨c, W, hcv, hown, hB, _⟩ := conv_bs (P := Tryz.prog) (src := 9) (dst := 22) Tryz.underlying9 Tryz.underlying22 Tryz.underlying5 w l (by unfold maxLen; omega)
  obtain ⟨A, _, hA, _, _, hR, _⟩ := hown.form
  cases hA
  have hres : (!l.any fun c => !sgc c) = l.all sgc := by rw [List.all_eq_not_any_not]
  have HR := Lib.hid hres
  have hc : Calls Tryz.prog 201 #[.slice (some ⟨w.heap.size, 0, none⟩) l.length c, .func (.func 202) #[] #[]] W fun e w' => e = .returned (.bool (l.any fun c => !sgc c)) ∧ Dn W w' := by
    have h := AnyE.slices_ContainsFunc Tryz.containsB bv (fun c => !sgc c) 202 #[] eg_signs w.heap.size 0 l.length c l W
      (fun W' x _ => (signs1_any x W').mono (by rintro e w' ⟨rfl, rfl⟩; exact ⟨rfl, 0, rfl⟩)) (Nat.le_refl _) (by omega) (fun j hj => by
        obtain ⟨b, o, x, e, hx, hcell⟩ := (show Rb W _ l from hR).one hj
        cases e
        rw [hcell]
        have : l[j]! = x := by rw [List.getElem!_eq_getElem?_getD, hx.out]; rfl
        rw [this]
        rfl)
    rw [List.take_length] at h
    exact h
  clear hres hown hR
  generalize (l.any fun c => !sgc c) = g at *
  go_enter Tryz.func152, Tryz.ntmps152
  go_wp2_with fail
  refine hc.mono ?_
  rintro e w' ⟨rfl, hd⟩
  go_wp2_with fail
  go_ret
  exact ⟨ret_bool HR.out, hB.trans ((hd.below _).mono hB.size)⟩

set_option maxHeartbeats 400000 in
theorem value_any (l : List UInt8) (w : World) (hl : l.length ≤ 9223372036854775807) :
    Calls Tryz.prog 107 #[.string (bs l)] w fun e w' => e = .returned (.bool (vlOk l)) ∧ Below w.heap.size w w' := by
  have hv : vlOk l = (l.all sgc && decide (l.length ≤ 8192) && edges l) := rfl
  have HV := Lib.hid hv
  have hte := trimB_edges l
  have HT := Lib.hid hte
  clear hv hte
  go_enter Tryz.func107, Tryz.ntmps107
  by_cases h2 : l.length ≤ 8192
  · go_wp2_with fail
    refine (signs_any l _ (by omega)).mono ?_
    rintro e w1 ⟨rfl, hb1⟩
    rcases Bool.eq_false_or_eq_true (l.all sgc) with h | h
    · rw [h]
      go_wp2_with fail
      refine (trim_any l _ (by omega)).mono ?_
      rintro e w2 ⟨rfl, hb2⟩
      have hB := hb1.trans (hb2.mono hb1.size)
      generalize trimB l = m at *
      go_wp2_with fail
      go_ret
      refine ⟨ret_bool ?_, hB⟩
      rw [HV.out, h, decide_eq_true h2, Bool.eq_iff_iff]
      simp only [Bool.and_self, Bool.true_and, beq_iff_eq]
      rw [← HT.out]
      exact eq_comm
    · rw [h]
      go_wp2_with fail
      go_ret
      exact ⟨ret_bool (by rw [HV.out, h]; rfl), hb1⟩
  · go_wp2_with fail
    go_ret
    exact ⟨ret_bool (by rw [HV.out, decide_eq_false h2]; simp), Below.refl _ _⟩
end Fd
end Go.Proofs.YtkllecicddfjpaaGreatDoor

namespace Go.Proofs.YtkllecicddfjpaaGreatDoor
namespace Fd
set_option linter.unusedVariables false
set_option linter.unusedSimpArgs false
open Go.RowKit

theorem nmOk_no {l : List UInt8} {q : Nat} {c : UInt8} (h : l[q]? = some c) (hc : nmc c = false) : nmOk l = false := by
  unfold nmOk
  rw [all_hit nmc h hc]
  rfl

set_option maxHeartbeats 400000 in
theorem rname_any (l : List UInt8) (w : World) (hl : l.length ≤ 9223372036854775807) :
    Calls Tryz.prog 36 #[.string (bs l)] w fun e w' => e = .returned (.bool (nmOk l)) ∧ Dn w w' := by
  go_enter Tryz.func36, Tryz.ntmps36
  go_wp2_with fail
  go_loopw [3] (fun i wr => ∃ q : Nat, i = .int .i64 q ∧ q ≤ l.length ∧ Hid ((l.take q).all nmc = true) ∧ Dn w wr) (fun i _ => l.length - (intOf i).toNat)
  case atStart => exact ⟨0, rfl, by omega, Lib.hid (by simp), Dn.refl _⟩
  case round =>
    obtain ⟨q, rfl, hq, ha, hd⟩ := hrel
    by_cases hlt : q < l.length
    · obtain ⟨c, hc⟩ : ∃ c, l[q]? = some c := ⟨_, List.getElem?_eq_getElem hlt⟩
      have hi := str_index (P := Tryz.prog) Tryz.underlying9 hc .i64
      have HC := Lib.hid hc
      clear hc
      by_cases h : nmc c = true
      · have h1 := (nmc_iff c).1 h
        have h2 : ¬ (c.toNat : Int) < 33 := by omega
        have h3 : ¬ (126 : Int) < (c.toNat : Int) := by omega
        have h4 : ((c.toNat : Int) == 58) = false := by rw [beq_eq_false_iff_ne]; omega
        have HN := Lib.hid h
        clear h h1
        go_wp2_with fail
        go_roundw
        case rel => exact ⟨q + 1, by go_num, by omega, Lib.hid (by rw [all_take nmc _ HC.out, ha.out, HN.out]; rfl), hd⟩
        case measure => simp [intOf]; omega
      · have hno := nmOk_no HC.out (by simpa using h)
        have h1 : (c.toNat : Int) < 33 ∨ (¬ (c.toNat : Int) < 33 ∧ (126 : Int) < (c.toNat : Int)) ∨ (¬ (c.toNat : Int) < 33 ∧ ¬ (126 : Int) < (c.toNat : Int) ∧ ((c.toNat : Int) == 58) = true) := by
          rw [nmc_iff] at h
          rw [beq_iff_eq]
          omega
        have HNO := Lib.hid hno
        clear h hno
        rcases h1 with h1 | ⟨h1, h2⟩ | ⟨h1, h2, h3⟩
        all_goals
          go_wp2_with fail
          go_ret
          exact ⟨ret_bool HNO.out.symm, hd⟩
    · obtain rfl : q = l.length := by omega
      have hall : l.all nmc = true := by have := ha.out; rwa [List.take_length] at this
      have hres : nmOk l = (decide (1 ≤ l.length) && decide (l.length ≤ 64)) := by
        unfold nmOk
        rw [hall, Bool.true_and, Bool.decide_and]
      have HR := Lib.hid hres
      clear hres hall
      rcases (by omega : (1 ≤ l.length ∧ l.length ≤ 64) ∨ (1 ≤ l.length ∧ ¬ l.length ≤ 64) ∨ l.length = 0) with ⟨h1, h2⟩ | ⟨h1, h2⟩ | h1
      all_goals
        go_wp2_with fail
        go_ret
        exact ⟨ret_bool (by rw [HR.out, Bool.eq_iff_iff]; first | (simp only [Bool.and_eq_true, decide_eq_true_eq]; omega) | (simp; omega)), hd⟩

set_option maxHeartbeats 400000 in
theorem rblank_any (c : UInt8) (w : World) :
    Calls Tryz.prog 80 #[.int .u8 (c.toNat : Int)] w fun e w' => e = .returned (.bool (blk c)) ∧ w = w' := by
  rcases blk_cases c with ⟨hb, h | ⟨h', h⟩⟩ | ⟨hb, h, h'⟩
  all_goals
    have HB := Lib.hid hb
    clear hb
    go_enter Tryz.func80, Tryz.ntmps80
    go_wp2_with fail
    go_ret
    exact ⟨ret_bool (by rw [HB.out]; all_goals (simp [h] <;> omega)), rfl⟩

set_option maxHeartbeats 400000 in
theorem rsigns_any (l : List UInt8) (w : World) (hl : l.length ≤ 9223372036854775807) :
    Calls Tryz.prog 79 #[.string (bs l)] w fun e w' => e = .returned (.bool (l.all sgc)) ∧ Dn w w' := by
  go_enter Tryz.func79, Tryz.ntmps79
  go_wp2_with fail
  go_loopw [3] (fun i wr => ∃ q : Nat, i = .int .i64 q ∧ q ≤ l.length ∧ Hid ((l.take q).all sgc = true) ∧ Dn w wr) (fun i _ => l.length - (intOf i).toNat)
  case atStart => exact ⟨0, rfl, by omega, Lib.hid (by simp), Dn.refl _⟩
  case round =>
    obtain ⟨q, rfl, hq, ha, hd⟩ := hrel
    by_cases hlt : q < l.length
    · obtain ⟨c, hc⟩ : ∃ c, l[q]? = some c := ⟨_, List.getElem?_eq_getElem hlt⟩
      have hi := str_index (P := Tryz.prog) Tryz.underlying9 hc .i64
      have HC := Lib.hid hc
      clear hc
      by_cases h : sgc c = true
      · have h1 : ((c.toNat : Int) != 9) = false ∨ (((c.toNat : Int) != 9) = true ∧ ¬ (c.toNat : Int) < 32 ∧ ¬ (126 : Int) < (c.toNat : Int)) := by
          have := (sgc_iff c).1 h
          rw [bne_iff_ne, bne_eq_false_iff_eq]
          omega
        have HN := Lib.hid h
        clear h
        rcases h1 with h1 | ⟨h1, h2, h3⟩
        all_goals
          go_wp2_with fail
          go_roundw
          case rel => exact ⟨q + 1, by go_num, by omega, Lib.hid (by rw [all_take sgc _ HC.out, ha.out, HN.out]; rfl), hd⟩
          case measure => simp [intOf]; omega
      · have hno := all_hit sgc HC.out (by simpa using h)
        have h1 : ((c.toNat : Int) != 9) = true ∧ ((c.toNat : Int) < 32 ∨ (¬ (c.toNat : Int) < 32 ∧ (126 : Int) < (c.toNat : Int))) := by
          rw [sgc_iff] at h
          rw [bne_iff_ne]
          omega
        have HNO := Lib.hid hno
        clear h hno
        rcases h1 with ⟨h0, h1 | ⟨h1, h2⟩⟩
        all_goals
          go_wp2_with fail
          go_ret
          exact ⟨ret_bool HNO.out.symm, hd⟩
    · obtain rfl : q = l.length := by omega
      have hall : l.all sgc = true := by have := ha.out; rwa [List.take_length] at this
      have HR := Lib.hid hall
      clear hall
      go_wp2_with fail
      go_ret
      exact ⟨ret_bool HR.out.symm, hd⟩

theorem edges_one {l : List UInt8} {a b : UInt8} (ha : l[0]? = some a) (hb : l[l.length - 1]? = some b) : edges l = (!blk a && !blk b) := by
  unfold edges
  rw [List.head?_eq_getElem?, ha, List.getLast?_eq_getElem?, hb]
  rfl

set_option maxHeartbeats 400000 in
theorem rvalue_any (l : List UInt8) (w : World) (hl : l.length ≤ 9223372036854775807) :
    Calls Tryz.prog 37 #[.string (bs l)] w fun e w' => e = .returned (.bool (vlOk l)) ∧ Dn w w' := by
  go_enter Tryz.func37, Tryz.ntmps37
  go_wp2_with fail
  refine (rsigns_any l w hl).mono ?_
  rintro e w1 ⟨rfl, hd⟩
  have hv : vlOk l = (l.all sgc && decide (l.length ≤ 8192) && edges l) := rfl
  have HV := Lib.hid hv
  clear hv
  rcases Bool.eq_false_or_eq_true (l.all sgc) with h | h
  · by_cases h2 : l.length ≤ 8192
    · by_cases h3 : l.length = 0
      · have he : edges l = true := by rw [List.eq_nil_of_length_eq_zero h3]; rfl
        have HE := Lib.hid he
        clear he
        go_wp2_with fail
        go_ret
        exact ⟨ret_bool (by rw [HV.out, h, HE.out]; simp [h2]), hd⟩
      · obtain ⟨a, ha⟩ : ∃ c, l[0]? = some c := ⟨_, List.getElem?_eq_getElem (by omega)⟩
        obtain ⟨b, hb⟩ : ∃ c, l[l.length - 1]? = some c := ⟨_, List.getElem?_eq_getElem (by omega)⟩
        have hi : ∀ W, (Instr.index 9 (.string (bs l)) (.int .i64 0)).run Tryz.prog W = .ok (.int .u8 (a.toNat : Int)) W := str_index (P := Tryz.prog) Tryz.underlying9 ha .i64
        have hj : ∀ W, (Instr.index 9 (.string (bs l)) (.int .i64 ((l.length : Int) - 1))).run Tryz.prog W = .ok (.int .u8 (b.toNat : Int)) W := by
          rw [show ((l.length : Int) - 1) = ((l.length - 1 : Nat) : Int) by omega]
          exact str_index (P := Tryz.prog) Tryz.underlying9 hb .i64
        have he := edges_one ha hb
        have HE := Lib.hid he
        have hne : l ≠ [] := fun e => h3 (by rw [e]; rfl)
        clear he ha hb
        go_wp2_with fail
        refine (rblank_any a _).mono ?_
        rintro e w2 ⟨rfl, rfl⟩
        rcases Bool.eq_false_or_eq_true (blk a) with h5 | h5
        · rw [h5]
          go_wp2_with fail
          go_ret
          exact ⟨ret_bool (by rw [HV.out, HE.out, h, h5]; simp [hne]), hd⟩
        · rw [h5]
          go_wp2_with fail
          refine (rblank_any b _).mono ?_
          rintro e w3 ⟨rfl, rfl⟩
          go_wp2_with fail
          go_ret
          exact ⟨ret_bool (by rw [HV.out, HE.out, h, h5]; simp [h2, hne]), hd⟩
    · go_wp2_with fail
      go_ret
      exact ⟨ret_bool (by rw [HV.out, h]; simp [h2]), hd⟩
  · rw [h]
    go_wp2_with fail
    go_ret
    exact ⟨ret_bool (by rw [HV.out, h]; rfl), hd⟩

set_option maxHeartbeats 400000 in
theorem rsmall_any (c : UInt8) (w : World) :
    Calls Tryz.prog 212 #[.int .u8 (c.toNat : Int)] w fun e w' => e = .returned (.int .u8 ((small c).toNat : Int)) ∧ w = w' := by
  have hc := c.toNat_lt
  have hs := small_nat c
  have HS := Lib.hid hs
  clear hs
  rcases (by omega : (65 ≤ c.toNat ∧ c.toNat ≤ 90) ∨ (c.toNat < 65) ∨ (65 ≤ c.toNat ∧ 90 < c.toNat)) with ⟨h1, h2⟩ | h1 | ⟨h1, h2⟩
  all_goals
    go_enter Tryz.func212, Tryz.ntmps212
    go_wp2_with fail
    go_ret
    exact ⟨ret_int (by rw [HS.out]; split <;> omega), rfl⟩

theorem sameN_no {a b : List UInt8} {q : Nat} {x y : UInt8} (hx : a[q]? = some x) (hy : b[q]? = some y) (h : small x ≠ small y) : sameN a b = false := by
  unfold sameN
  rw [decide_eq_false_iff_not]
  intro e
  have := congrArg (fun l => l[q]?) e
  simp only [List.getElem?_map, hx, hy, Option.map_some, Option.some.injEq] at this
  exact h this
theorem sameN_len {a b : List UInt8} (h : a.length ≠ b.length) : sameN a b = false := by
  unfold sameN
  rw [decide_eq_false_iff_not]
  intro e
  have := congrArg List.length e
  simp only [List.length_map] at this
  exact h this
theorem small_ne {x y : UInt8} : (((small x).toNat : Int) != ((small y).toNat : Int)) = decide (small x ≠ small y) := by
  rw [Bool.eq_iff_iff, bne_iff_ne, decide_eq_true_iff]
  exact not_congr u8_eq

set_option maxRecDepth 100000 in
set_option maxHeartbeats 1000000 in
theorem rsame_any (a b : List UInt8) (w : World) (ha : a.length ≤ 1000000000) (hb : b.length ≤ 1000000000) :
    Calls Tryz.prog 164 #[.string (bs a), .string (bs b)] w fun e w' => e = .returned (.bool (sameN a b)) ∧ Dn w w' := by
  by_cases hl : a.length = b.length
  · obtain ⟨n, hn⟩ : ∃ n, a.length = n := ⟨_, rfl⟩
    have hm : b.length = n := by omega
    rw [hn] at ha
    go_enter Tryz.func164, Tryz.ntmps164
    go_wp2_with fail
    go_loopw [5] (fun i wr => ∃ q : Nat, i = .int .i64 q ∧ q ≤ n ∧ Hid ((a.take q).map small = (b.take q).map small) ∧ Dn w wr) (fun i _ => n - (intOf i).toNat)
    case atStart => exact ⟨0, rfl, by omega, Lib.hid (by simp), Dn.refl _⟩
    case round =>
      obtain ⟨q, rfl, hq, he, hd⟩ := hrel
      by_cases hlt : q < n
      · obtain ⟨x, hx⟩ : ∃ c, a[q]? = some c := ⟨_, List.getElem?_eq_getElem (by omega)⟩
        obtain ⟨y, hy⟩ : ∃ c, b[q]? = some c := ⟨_, List.getElem?_eq_getElem (by omega)⟩
        have hi := str_index (P := Tryz.prog) Tryz.underlying9 hx .i64
        have hj := str_index (P := Tryz.prog) Tryz.underlying9 hy .i64
        have HX := Lib.hid hx
        have HY := Lib.hid hy
        clear hx hy
        have hbb := @small_ne x y
        by_cases h : small x = small y
        · have hbf : (((small x).toNat : Int) != ((small y).toNat : Int)) = false := by rw [hbb, decide_eq_false_iff_not]; simpa using h
          have HH := Lib.hid h
          clear hbb h
          go_wp2_with fail
          go_region_with (go_at_call 212; refine (rsmall_any _ _).mono ?_; rintro e w2 ⟨rfl, rfl⟩)
          all_goals
            go_wp2_with fail
            go_roundw
            case rel => exact ⟨q + 1, by go_num, by omega, Lib.hid (by rw [take_succ_of HX.out, take_succ_of HY.out, List.map_append, List.map_append, he.out]; simp [HH.out]), by first | exact hd | exact hd.drewN _ | exact hd.drew⟩
            case measure => simp [intOf]; omega
        · have hbf : (((small x).toNat : Int) != ((small y).toNat : Int)) = true := by rw [hbb, decide_eq_true_iff]; exact h
          have hno := Lib.hid (sameN_no HX.out HY.out h)
          clear hbb h
          go_wp2_with fail
          go_region_with (go_at_call 212; refine (rsmall_any _ _).mono ?_; rintro e w2 ⟨rfl, rfl⟩)
          all_goals
            go_wp2_with fail
            go_ret
            exact ⟨ret_bool hno.out.symm, by first | exact hd | exact hd.drewN _ | exact hd.drew⟩
      · obtain rfl : q = n := by omega
        have hall : sameN a b = true := by
          have := he.out
          rw [take_all a (by omega), take_all b (by omega)] at this
          unfold sameN
          rw [decide_eq_true_iff]
          exact this
        have HR := Lib.hid hall
        clear hall
        go_wp2_with fail
        go_ret
        exact ⟨ret_bool HR.out.symm, hd⟩
  · have hno := Lib.hid (sameN_len hl)
    have hbb : ((a.length : Int) != (b.length : Int)) = true := by rw [bne_iff_ne]; omega
    go_enter Tryz.func164, Tryz.ntmps164
    go_wp2_with fail
    go_ret
    exact ⟨ret_bool hno.out.symm, Dn.refl _⟩
end Fd
end Go.Proofs.YtkllecicddfjpaaGreatDoor
