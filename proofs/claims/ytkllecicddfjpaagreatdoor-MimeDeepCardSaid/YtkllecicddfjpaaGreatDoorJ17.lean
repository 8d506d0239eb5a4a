/- The document's names and values. · Whether two names are one: field's own test. -/
import Derived.Test.YtkllecicddfjpaaGreatDoorJ05
import Derived.Test.YtkllecicddfjpaaGreatDoorChecked
import Derived.Test.YtkllecicddfjpaaGreatDoorJ16
import Derived.Deep.RegionHeld3
import Derived.Deep.RegionHeldLaw
namespace Go.Proofs.YtkllecicddfjpaaGreatDoor
namespace Fd
set_option linter.unusedVariables false
set_option linter.unusedSimpArgs false
open Go.RowKit

theorem nmOk_no {l : List UInt8} {q : Nat} {c : UInt8} (h : l[q]? = some c) (hc : nmc c = false) : nmOk l = false := by
  unfold nmOk
  rw [all_hit nmc h hc]
  rfl

set_option maxHeartbeats 400000 in
theorem rname_any (l : List UInt8) (w : World) (hl : l.length ≤ 9223372036854775807) :
    Calls Tryz.prog 36 #[.string (bs l)] w fun e w' => e = .returned (.bool (nmOk l)) ∧ Dn w w' := by
  go_enter Tryz.func36, Tryz.ntmps36
  go_wp2_with fail
  go_loopw [3] (fun i wr => ∃ q : Nat, i = .int .i64 q ∧ q ≤ l.length ∧ Hid ((l.take q).all nmc = true) ∧ Dn w wr) (fun i _ => l.length - (intOf i).toNat)
  case atStart => exact ⟨0, rfl, by omega, Lib.hid (by simp), Dn.refl _⟩
  case round =>
    obtain ⟨q, rfl, hq, ha, hd⟩ := hrel
    by_cases hlt : q < l.length
    · obtain ⟨c, hc⟩ : ∃ c, l[q]? = some c := ⟨_, List.getElem?_eq_getElem hlt⟩
      have hi := str_index (P := Tryz.prog) Tryz.underlying9 hc .i64
      have HC := Lib.hid hc
      clear hc
      by_cases h : nmc c = true
      · have h1 := (nmc_iff c).1 h
        have h2 : ¬ (c.toNat : Int) < 33 := by omega
        have h3 : ¬ (126 : Int) < (c.toNat : Int) := by omega
        have h4 : ((c.toNat : Int) == 58) = false := by rw [beq_eq_false_iff_ne]; omega
        have HN := Lib.hid h
        clear h h1
        go_wp2_with fail
        go_roundw
        case rel => exact ⟨q + 1, by go_num, by omega, Lib.hid (by rw [all_take nmc _ HC.out, ha.out, HN.out]; rfl), hd⟩
        case measure => simp [intOf]; omega
      · have hno := nmOk_no HC.out (by simpa using h)
        have h1 : (c.toNat : Int) < 33 ∨ (¬ (c.toNat : Int) < 33 ∧ (126 : Int) < (c.toNat : Int)) ∨ (¬ (c.toNat : Int) < 33 ∧ ¬ (126 : Int) < (c.toNat : Int) ∧ ((c.toNat : Int) == 58) = true) := by
          rw [nmc_iff] at h
          rw [beq_iff_eq]
          omega
        have HNO := Lib.hid hno
        clear h hno
        rcases h1 with h1 | ⟨h1, h2⟩ | ⟨h1, h2, h3⟩
        all_goals
          go_wp2_with fail
          go_ret
          exact ⟨ret_bool HNO.out.symm, hd⟩
    · obtain rfl : q = l.length := by omega
      have hall : l.all nmc = true := by have := ha.out; rwa [List.take_length] at this
      have hres : nmOk l = (decide (1 ≤ l.length) && decide (l.length ≤ 64)) := by
        unfold nmOk
        rw [hall, Bool.true_and, Bool.decide_and]
      have HR := Lib.hid hres
      clear hres hall
      rcases (by omega : (1 ≤ l.length ∧ l.length ≤ 64) ∨ (1 ≤ l.length ∧ ¬ l.length ≤ 64) ∨ l.length = 0) with ⟨h1, h2⟩ | ⟨h1, h2⟩ | h1
      all_goals
        go_wp2_with fail
        go_ret
        exact ⟨ret_bool (by rw [HR.out, Bool.eq_iff_iff]; first | (simp only [Bool.and_eq_true, decide_eq_true_eq]; omega) | (simp; omega)), hd⟩

set_option maxHeartbeats 400000 in
theorem rblank_any (c : UInt8) (w : World) :
    Calls Tryz.prog 80 #[.int .u8 (c.toNat : Int)] w fun e w' => e = .returned (.bool (blk c)) ∧ w = w' := by
  rcases blk_cases c with ⟨hb, h | ⟨h', h⟩⟩ | ⟨hb, h, h'⟩
  all_goals
    have HB := Lib.hid hb
    clear hb
    go_enter Tryz.func80, Tryz.ntmps80
    go_wp2_with fail
    go_ret
    exact ⟨ret_bool (by rw [HB.out]; all_goals (simp [h] <;> omega)), rfl⟩

set_option maxHeartbeats 400000 in
theorem rsigns_any (l : List UInt8) (w : World) (hl : l.length ≤ 9223372036854775807) :
    Calls Tryz.prog 79 #[.string (bs l)] w fun e w' => e = .returned (.bool (l.all sgc)) ∧ Dn w w' := by
  go_enter Tryz.func79, Tryz.ntmps79
  go_wp2_with fail
  go_loopw [3] (fun i wr => ∃ q : Nat, i = .int .i64 q ∧ q ≤ l.length ∧ Hid ((l.take q).all sgc = true) ∧ Dn w wr) (fun i _ => l.length - (intOf i).toNat)
  case atStart => exact ⟨0, rfl, by omega, Lib.hid (by simp), Dn.refl _⟩
  case round =>
    obtain ⟨q, rfl, hq, ha, hd⟩ := hrel
    by_cases hlt : q < l.length
    · obtain ⟨c, hc⟩ : ∃ c, l[q]? = some c := ⟨_, List.getElem?_eq_getElem hlt⟩
      have hi := str_index (P := Tryz.prog) Tryz.underlying9 hc .i64
      have HC := Lib.hid hc
      clear hc
      by_cases h : sgc c = true
      · have h1 : ((c.toNat : Int) != 9) = false ∨ (((c.toNat : Int) != 9) = true ∧ ¬ (c.toNat : Int) < 32 ∧ ¬ (126 : Int) < (c.toNat : Int)) := by
          have := (sgc_iff c).1 h
          rw [bne_iff_ne, bne_eq_false_iff_eq]
          omega
        have HN := Lib.hid h
        clear h
        rcases h1 with h1 | ⟨h1, h2, h3⟩
        all_goals
          go_wp2_with fail
          go_roundw
          case rel => exact ⟨q + 1, by go_num, by omega, Lib.hid (by rw [all_take sgc _ HC.out, ha.out, HN.out]; rfl), hd⟩
          case measure => simp [intOf]; omega
      · have hno := all_hit sgc HC.out (by simpa using h)
        have h1 : ((c.toNat : Int) != 9) = true ∧ ((c.toNat : Int) < 32 ∨ (¬ (c.toNat : Int) < 32 ∧ (126 : Int) < (c.toNat : Int))) := by
          rw [sgc_iff] at h
          rw [bne_iff_ne]
          omega
        have HNO := Lib.hid hno
        clear h hno
        rcases h1 with ⟨h0, h1 | ⟨h1, h2⟩⟩
        all_goals
          go_wp2_with fail
          go_ret
          exact ⟨ret_bool HNO.out.symm, hd⟩
    · obtain rfl : q = l.length := by omega
      have hall : l.all sgc = true := by have := ha.out; rwa [List.take_length] at this
      have HR := Lib.hid hall
      clear hall
      go_wp2_with fail
      go_ret
      exact ⟨ret_bool HR.out.symm, hd⟩

theorem edges_one {l : List UInt8} {a b : UInt8} (ha : l[0]? = some a) (hb : l[l.length - 1]? = some b) : edges l = (!blk a && !blk b) := by
  unfold edges
  rw [List.head?_eq_getElem?, ha, List.getLast?_eq_getElem?, hb]
  rfl

set_option maxHeartbeats 400000 in
theorem rvalue_any (l : List UInt8) (w : World) (hl : l.length ≤ 9223372036854775807) :
    Calls Tryz.prog 37 #[.string (bs l)] w fun e w' => e = .returned (.bool (vlOk l)) ∧ Dn w w' := by
  go_enter Tryz.func37, Tryz.ntmps37
  go_wp2_with fail
  refine (rsigns_any l w hl).mono ?_
  rintro e w1 ⟨rfl, hd⟩
  have hv : vlOk l = (l.all sgc && decide (l.length ≤ 8192) && edges l) := rfl
  have HV := Lib.hid hv
  clear hv
  rcases Bool.eq_false_or_eq_true (l.all sgc) with h | h
  · by_cases h2 : l.length ≤ 8192
    · by_cases h3 : l.length = 0
      · have he : edges l = true := by rw [List.eq_nil_of_length_eq_zero h3]; rfl
        have HE := Lib.hid he
        clear he
        go_wp2_with fail
        go_ret
        exact ⟨ret_bool (by rw [HV.out, h, HE.out]; simp [h2]), hd⟩
      · obtain ⟨a, ha⟩ : ∃ c, l[0]? = some c := ⟨_, List.getElem?_eq_getElem (by omega)⟩
        obtain ⟨b, hb⟩ : ∃ c, l[l.length - 1]? = some c := ⟨_, List.getElem?_eq_getElem (by omega)⟩
        have hi : ∀ W, (Instr.index 9 (.string (bs l)) (.int .i64 0)).run Tryz.prog W = .ok (.int .u8 (a.toNat : Int)) W := str_index (P := Tryz.prog) Tryz.underlying9 ha .i64
        have hj : ∀ W, (Instr.index 9 (.string (bs l)) (.int .i64 ((l.length : Int) - 1))).run Tryz.prog W = .ok (.int .u8 (b.toNat : Int)) W := by
          rw [show ((l.length : Int) - 1) = ((l.length - 1 : Nat) : Int) by omega]
          exact str_index (P := Tryz.prog) Tryz.underlying9 hb .i64
        have he := edges_one ha hb
        have HE := Lib.hid he
        have hne : l ≠ [] := fun e => h3 (by rw [e]; rfl)
        clear he ha hb
        go_wp2_with fail
        refine (rblank_any a _).mono ?_
        rintro e w2 ⟨rfl, rfl⟩
        rcases Bool.eq_false_or_eq_true (blk a) with h5 | h5
        · rw [h5]
          go_wp2_with fail
          go_ret
          exact ⟨ret_bool (by rw [HV.out, HE.out, h, h5]; simp [hne]), hd⟩
        · rw [h5]
          go_wp2_with fail
          refine (rblank_any b _).mono ?_
          rintro e w3 ⟨rfl, rfl⟩
          go_wp2_with fail
          go_ret
          exact ⟨ret_bool (by rw [HV.out, HE.out, h, h5]; simp [h2, hne]), hd⟩
    · go_wp2_with fail
      go_ret
      exact ⟨ret_bool (by rw [HV.out, h]; simp [h2]), hd⟩
  · rw [h]
    go_wp2_with fail
    go_ret
    exact ⟨ret_bool (by rw [HV.out, h]; rfl), hd⟩

set_option maxHeartbeats 400000 in
theorem rsmall_any (c : UInt8) (w : World) :
    Calls Tryz.prog 212 #[.int .u8 (c.toNat : Int)] w fun e w' => e = .returned (.int .u8 ((small c).toNat : Int)) ∧ w = w' := by
  have hc := c.toNat_lt
  have hs := small_nat c
  have HS := Lib.hid hs
  clear hs
  rcases (by omega : (65 ≤ c.toNat ∧ c.toNat ≤ 90) ∨ (c.toNat < 65) ∨ (65 ≤ c.toNat ∧ 90 < c.toNat)) with ⟨h1, h2⟩ | h1 | ⟨h1, h2⟩
  all_goals
    go_enter Tryz.func212, Tryz.ntmps212
    go_wp2_with fail
    go_ret
    exact ⟨ret_int (by rw [HS.out]; split <;> omega), rfl⟩

theorem sameN_no {a b : List UInt8} {q : Nat} {x y : UInt8} (hx : a[q]? = some x) (hy : b[q]? = some y) (h : small x ≠ small y) : sameN a b = false := by
  unfold sameN
  rw [decide_eq_false_iff_not]
  intro e
  have := congrArg (fun l => l[q]?) e
  simp only [List.getElem?_map, hx, hy, Option.map_some, Option.some.injEq] at this
  exact h this
theorem sameN_len {a b : List UInt8} (h : a.length ≠ b.length) : sameN a b = false := by
  unfold sameN
  rw [decide_eq_false_iff_not]
  intro e
  have := congrArg List.length e
  simp only [List.length_map] at this
  exact h this
theorem small_ne {x y : UInt8} : (((small x).toNat : Int) != ((small y).toNat : Int)) = decide (small x ≠ small y) := by
  rw [Bool.eq_iff_iff, bne_iff_ne, decide_eq_true_iff]
  exact not_congr u8_eq

set_option maxRecDepth 100000 in
set_option maxHeartbeats 1000000 in
theorem rsame_any (a b : List UInt8) (w : World) (ha : a.length ≤ 1000000000) (hb : b.length ≤ 1000000000) :
    Calls Tryz.prog 164 #[.string (bs a), .string (bs b)] w fun e w' => e = .returned (.bool (sameN a b)) ∧ Dn w w' := by
  by_cases hl : a.length = b.length
  · obtain ⟨n, hn⟩ : ∃ n, a.length = n := ⟨_, rfl⟩
    have hm : b.length = n := by omega
    rw [hn] at ha
    go_enter Tryz.func164, Tryz.ntmps164
    go_wp2_with fail
    go_loopw [5] (fun i wr => ∃ q : Nat, i = .int .i64 q ∧ q ≤ n ∧ Hid ((a.take q).map small = (b.take q).map small) ∧ Dn w wr) (fun i _ => n - (intOf i).toNat)
    case atStart => exact ⟨0, rfl, by omega, Lib.hid (by simp), Dn.refl _⟩
    case round =>
      obtain ⟨q, rfl, hq, he, hd⟩ := hrel
      by_cases hlt : q < n
      · obtain ⟨x, hx⟩ : ∃ c, a[q]? = some c := ⟨_, List.getElem?_eq_getElem (by omega)⟩
        obtain ⟨y, hy⟩ : ∃ c, b[q]? = some c := ⟨_, List.getElem?_eq_getElem (by omega)⟩
        have hi := str_index (P := Tryz.prog) Tryz.underlying9 hx .i64
        have hj := str_index (P := Tryz.prog) Tryz.underlying9 hy .i64
        have HX := Lib.hid hx
        have HY := Lib.hid hy
        clear hx hy
        have hbb := @small_ne x y
        by_cases h : small x = small y
        · have hbf : (((small x).toNat : Int) != ((small y).toNat : Int)) = false := by rw [hbb, decide_eq_false_iff_not]; simpa using h
          have HH := Lib.hid h
          clear hbb h
          go_wp2_with fail
          go_region_with (go_at_call 212; refine (rsmall_any _ _).mono ?_; rintro e w2 ⟨rfl, rfl⟩)
          all_goals
            go_wp2_with fail
            go_roundw
            case rel => exact ⟨q + 1, by go_num, by omega, Lib.hid (by rw [take_succ_of HX.out, take_succ_of HY.out, List.map_append, List.map_append, he.out]; simp [HH.out]), by first | exact hd | exact hd.drewN _ | exact hd.drew⟩
            case measure => simp [intOf]; omega
        · have hbf : (((small x).toNat : Int) != ((small y).toNat : Int)) = true := by rw [hbb, decide_eq_true_iff]; exact h
          have hno := Lib.hid (sameN_no HX.out HY.out h)
          clear hbb h
          go_wp2_with fail
          go_region_with (go_at_call 212; refine (rsmall_any _ _).mono ?_; rintro e w2 ⟨rfl, rfl⟩)
          all_goals
            go_wp2_with fail
            go_ret
            exact ⟨ret_bool hno.out.symm, by first | exact hd | exact hd.drewN _ | exact hd.drew⟩
      · obtain rfl : q = n := by omega
        have hall : sameN a b = true := by
          have := he.out
          rw [take_all a (by omega), take_all b (by omega)] at this
          unfold sameN
          rw [decide_eq_true_iff]
          exact this
        have HR := Lib.hid hall
        clear hall
        go_wp2_with fail
        go_ret
        exact ⟨ret_bool HR.out.symm, hd⟩
  · have hno := Lib.hid (sameN_len hl)
    have hbb : ((a.length : Int) != (b.length : Int)) = true := by rw [bne_iff_ne]; omega
    go_enter Tryz.func164, Tryz.ntmps164
    go_wp2_with fail
    go_ret
    exact ⟨ret_bool hno.out.symm, Dn.refl _⟩
end Fd
end Go.Proofs.YtkllecicddfjpaaGreatDoor

namespace Go.Proofs.YtkllecicddfjpaaGreatDoor
namespace Fd
set_option linter.unusedVariables false
set_option linter.unusedSimpArgs false
open Go.RowKit Go.Shelf

/-- a small letter, as a rune -/
def lowF (x : Int) : Int := if 65 ≤ x ∧ x ≤ 90 then x + 32 else x
theorem lowF_one (c : UInt8) : Lib.mapD lowF [c] = if c.toNat < 128 then [small c] else [239, 191, 189] := by
  have key : ∀ n : Fin 256, Lib.mapD lowF [UInt8.ofNat n.1] = if n.1 < 128 then [small (UInt8.ofNat n.1)] else [239, 191, 189] := by decide +kernel
  have := key ⟨c.toNat, c.toNat_lt⟩
  simpa using this
set_option maxHeartbeats 400000 in
theorem lower1_any (x : Nat) (w : World) (hx : x ≤ 1114111) :
    Calls Tryz.prog 238 #[.int .i32 (x : Int)] w fun e w' => e = .returned (.int .i32 (lowF x)) ∧ Below w.heap.size w w' := by
  unfold lowF
  rcases (by omega : (65 ≤ x ∧ x ≤ 90) ∨ x < 65 ∨ (65 ≤ x ∧ 90 < x)) with ⟨h1, h2⟩ | h1 | ⟨h1, h2⟩
  · rw [if_pos ⟨by omega, by omega⟩]
    go_enter Tryz.func238, Tryz.ntmps238
    go_wp2_with fail
    go_ret
    exact ⟨ret_int (by go_num), Below.refl _ _⟩
  all_goals
    rw [if_neg (by omega)]
    go_enter Tryz.func238, Tryz.ntmps238
    go_wp2_with fail
    go_ret
    exact ⟨ret_int (by go_num), Below.refl _ _⟩
theorem eg_lower : ∀ args w, (callFunc 238 args).run Tryz.prog w = .ok (.enter 238 args) w := enters_of Tryz.func238 (by kernel_rfl) rfl
set_option maxHeartbeats 400000 in
theorem lower_any (l : List UInt8) (w : World) (hT : Lib.Utf8Tabs 2 3 w) (hl : l.length ≤ 1000000000) :
    Calls Tryz.prog 209 #[.string (bs l)] w fun e w' => e = .returned (.string (bs (Lib.mapD lowF l))) ∧ Below w.heap.size w w' := by
  have h := Tryz.strings_Map_grows 238 #[] eg_lower lowF (bs l) w (by rw [bs_size]; omega) (fun W x hx _ => lower1_any x W hx) (fun x hx => by unfold lowF; split <;> omega) hT
  rw [bs_toList] at h
  have h2 : Calls Tryz.prog 237 #[.func (.func 238) #[] #[], .string (bs l)] w fun e w' => e = .returned (.string (bs (Lib.mapD lowF l))) ∧ Below w.heap.size w w' := h
  clear h
  generalize Lib.mapD lowF l = m at *
  go_enter Tryz.func209, Tryz.ntmps209
  go_wp2_with fail
  refine h2.mono ?_
  rintro e w' ⟨rfl, hb⟩
  go_wp2_with fail
  go_ret
  exact ⟨rfl, hb⟩

theorem small_128 (c : UInt8) : (small c).toNat < 128 ↔ c.toNat < 128 := by
  rw [small_nat]
  split <;> omega
theorem sameN_step {x y : UInt8} : small x = small y ↔ (x = y ∨ (Lib.mapD lowF [x] = Lib.mapD lowF [y] ∧ x.toNat < 128)) := by
  rw [lowF_one, lowF_one]
  have hx := small_128 x
  have hy := small_128 y
  constructor
  · intro e
    by_cases h : x.toNat < 128
    · have h2 : y.toNat < 128 := by rw [← hy, ← e, hx]; exact h
      rw [if_pos h, if_pos h2, e]
      exact .inr ⟨rfl, h⟩
    · left
      have h2 : ¬ y.toNat < 128 := by rw [← hy, ← e, hx]; exact h
      have e1 := small_nat x
      have e2 := small_nat y
      rw [if_neg (by omega)] at e1 e2
      exact UInt8.toNat_inj.1 (by rw [← e1, ← e2, e])
  · rintro (rfl | ⟨e, h⟩)
    · rfl
    · rw [if_pos h] at e
      by_cases h2 : y.toNat < 128
      · rw [if_pos h2] at e
        simpa using e
      · rw [if_neg h2] at e
        simp at e

set_option maxRecDepth 100000 in
set_option maxHeartbeats 2000000 in
theorem fsame_any (a b : List UInt8) (w : World) (hT : Lib.Utf8Tabs 2 3 w) (ha : a.length ≤ 1000000000) (hb : b.length ≤ 1000000000) :
    Calls Tryz.prog 160 #[.string (bs a), .string (bs b)] w fun e w' => e = .returned (.bool (sameN a b)) ∧ Below w.heap.size w w' := by
  by_cases hl : a.length = b.length
  · obtain ⟨n, hn⟩ : ∃ n, a.length = n := ⟨_, rfl⟩
    have hm : b.length = n := by omega
    rw [hn] at ha
    go_enter Tryz.func160, Tryz.ntmps160
    go_wp2_with fail
    go_loopw [13] (fun i wr => ∃ q : Nat, i = .int .i64 q ∧ q ≤ n ∧ Hid ((a.take q).map small = (b.take q).map small) ∧ Below w.heap.size w wr) (fun i _ => n - (intOf i).toNat)
    case atStart => exact ⟨0, rfl, by omega, Lib.hid (by simp), Below.refl _ _⟩
    case round =>
      obtain ⟨q, rfl, hq, he, hB⟩ := hrel
      by_cases hlt : q < n
      · obtain ⟨x, hx⟩ : ∃ c, a[q]? = some c := ⟨_, List.getElem?_eq_getElem (by omega)⟩
        obtain ⟨y, hy⟩ : ∃ c, b[q]? = some c := ⟨_, List.getElem?_eq_getElem (by omega)⟩
        have hi := str_index (P := Tryz.prog) Tryz.underlying9 hx .i64
        have hj := str_index (P := Tryz.prog) Tryz.underlying9 hy .i64
        have hxa : (a.drop q).take 1 = [x] := by rw [List.drop_eq_getElem_cons (by omega)]; rw [List.getElem?_eq_getElem (by omega)] at hx; simp [Option.some.inj hx]
        have hyb : (b.drop q).take 1 = [y] := by rw [List.drop_eq_getElem_cons (by omega)]; rw [List.getElem?_eq_getElem (by omega)] at hy; simp [Option.some.inj hy]
        have hst := @sameN_step x y
        have hlx : ∀ W, Below w.heap.size w W → Calls Tryz.prog 209 #[.string (bs [x])] W fun e w' => e = .returned (.string (bs (Lib.mapD lowF [x]))) ∧ Below w.heap.size w w' := fun W hb => (lower_any [x] W (tabs_below hT hb) (by simp)).mono fun e w' h => ⟨h.1, hb.trans (h.2.mono hb.size)⟩
        have hly : ∀ W, Below w.heap.size w W → Calls Tryz.prog 209 #[.string (bs [y])] W fun e w' => e = .returned (.string (bs (Lib.mapD lowF [y]))) ∧ Below w.heap.size w w' := fun W hb => (lower_any [y] W (tabs_below hT hb) (by simp)).mono fun e w' h => ⟨h.1, hb.trans (h.2.mono hb.size)⟩
        have hok : small x = small y → Hid ((a.take (q + 1)).map small = (b.take (q + 1)).map small) := fun h => Lib.hid (by rw [take_succ_of hx, take_succ_of hy, List.map_append, List.map_append, he.out]; simp [h])
        have hno : small x ≠ small y → Hid (sameN a b = false) := fun h => Lib.hid (sameN_no hx hy h)
        clear hx hy he
        have f0 : (0 : Int) ≤ (q : Int) := by omega
        have f1 : (0 : Int) ≤ (q : Int) + 1 := by omega
        have f2 : (q : Int) ≤ (q : Int) + 1 := by omega
        have f3 : (q : Int) + 1 ≤ (n : Int) := by omega
        have f4 : IntKind.i64.wrap ((q : Int) + 1) = (q : Int) + 1 := by rw [IntKind.wrap_i64]; omega
        generalize Lib.mapD lowF [x] = mx at *
        generalize Lib.mapD lowF [y] = my at *
        by_cases h1 : x = y
        · have hbb : ((x.toNat : Int) != (y.toNat : Int)) = false := by rw [bne_eq_false_iff_eq, h1]
          have hok := hok (by rw [h1])
          clear hlx hly hst hno h1
          go_wp2_with fail
          go_quiet (fail)
          go_wp2_with fail
          go_roundw
          case rel => exact ⟨q + 1, by go_num, by omega, hok, hB.trans (Dn.below (Dn.of _ _) _ |>.mono hB.size)⟩
          case measure => simp [intOf]; omega
        · have hbb : ((x.toNat : Int) != (y.toNat : Int)) = true := by rw [bne_iff_ne]; exact fun h => h1 (u8_eq.1 h)
          by_cases h2 : mx = my
          · have h2b : (mx == my) = true := by simp [h2]
            by_cases h3 : x.toNat < 128
            · have hok := hok (hst.2 (.inr ⟨h2, h3⟩))
              have h3i : ¬ (128 : Int) ≤ (x.toNat : Int) := by omega
              have h3b : decide ((128 : Int) ≤ (x.toNat : Int)) = false := decide_eq_false h3i
              clear hst hno h1 h2 h3
              go_wp2_with fail
              go_region_held3 (fun w' => Below w.heap.size w w') (first | assumption | exact Below.drew (by assumption))
                (first
                | (go_at_call 209; (try simp only [hxa]); refine (hlx _ (by assumption)).mono ?_; rintro e w2 ⟨rfl, hB2⟩)
                | (go_at_call 209; (try simp only [hyb]); refine (hly _ (by assumption)).mono ?_; rintro e w3 ⟨rfl, hB3⟩))
              all_goals
                go_wp2_with fail
                go_roundw
                case rel => exact ⟨q + 1, by go_num, by omega, hok, by first | assumption | exact Below.drew (by assumption)⟩
                case measure => simp [intOf]; omega
            · have hno := hno (fun h => by rcases hst.1 h with h | h; exact h1 h; exact h3 h.2)
              have h3i : (128 : Int) ≤ (x.toNat : Int) := by omega
              clear hst hok h1 h2 h3
              go_wp2_with fail
              go_region_held3 (fun w' => Below w.heap.size w w') (first | assumption | exact Below.drew (by assumption))
                (first
                | (go_at_call 209; (try simp only [hxa]); refine (hlx _ (by assumption)).mono ?_; rintro e w2 ⟨rfl, hB2⟩)
                | (go_at_call 209; (try simp only [hyb]); refine (hly _ (by assumption)).mono ?_; rintro e w3 ⟨rfl, hB3⟩))
              all_goals
                go_wp2_with fail
                go_ret
                exact ⟨ret_bool hno.out.symm, by first | assumption | exact Below.drew (by assumption)⟩
          · have h2b : (mx == my) = false := by simp [h2]
            have hno := hno (fun h => by rcases hst.1 h with h | h; exact h1 h; exact h2 h.1)
            clear hst hok h1 h2
            go_wp2_with fail
            first
            | (go_region_held_law (fun w' => Below w.heap.size w w') (first | assumption | exact Below.drew (by assumption))
              (first
              | (go_at_call 209; (try simp only [hxa]); refine (hlx _ (by assumption)).mono ?_; rintro e w2 ⟨rfl, hB2⟩)
              | (go_at_call 209; (try simp only [hyb]); refine (hly _ (by assumption)).mono ?_; rintro e w3 ⟨rfl, hB3⟩)))
            | fail
            all_goals
              go_wp2_with fail
              go_ret
              exact ⟨ret_bool hno.out.symm, by first | assumption | exact Below.drew (by assumption)⟩
      · obtain rfl : q = n := by omega
        have hall : sameN a b = true := by
          have := he.out
          rw [take_all a (by omega), take_all b (by omega)] at this
          unfold sameN
          rw [decide_eq_true_iff]
          exact this
        have HR := Lib.hid hall
        clear hall
        go_wp2_with fail
        go_ret
        exact ⟨ret_bool HR.out.symm, hB⟩
  · have hno := Lib.hid (sameN_len hl)
    have hbb : ((a.length : Int) != (b.length : Int)) = true := by rw [bne_iff_ne]; omega
    go_enter Tryz.func160, Tryz.ntmps160
    go_wp2_with fail
    go_ret
    exact ⟨ret_bool hno.out.symm, Below.refl _ _⟩
end Fd
end Go.Proofs.YtkllecicddfjpaaGreatDoor
