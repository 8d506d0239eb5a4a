/- The document's names and values. -/
import Derived.Test.YtcagkoakbdbbaaaGreatDoorJ05
import Derived.Test.YtcagkoakbdbbaaaGreatDoorChecked
namespace Go.Proofs.YtcagkoakbdbbaaaGreatDoor
set_option linter.unusedVariables false
set_option linter.unusedSimpArgs false
open Go.RowKit

theorem nmOk_no {l : List UInt8} {q : Nat} {c : UInt8} (h : l[q]? = some c) (hc : nmc c = false) : nmOk l = false := by
  unfold nmOk
  rw [all_hit nmc h hc]
  rfl

set_option maxHeartbeats 400000 in
theorem rname_any (l : List UInt8) (w : World) (hl : l.length ≤ 9223372036854775807) :
    Calls Tryz.prog 25 #[.string (bs l)] w fun e w' => e = .returned (.bool (nmOk l)) ∧ Dn w w' := by
  go_enter Tryz.func25, Tryz.ntmps25
  go_wp2_with fail
  go_loopw [3] (fun i wr => ∃ q : Nat, i = .int .i64 q ∧ q ≤ l.length ∧ Hid ((l.take q).all nmc = true) ∧ Dn w wr) (fun i _ => l.length - (intOf i).toNat)
  case atStart => exact ⟨0, rfl, by omega, Lib.hid (by simp), Dn.refl _⟩
  case round =>
    obtain ⟨q, rfl, hq, ha, hd⟩ := hrel
    by_cases hlt : q < l.length
    · obtain ⟨c, hc⟩ : ∃ c, l[q]? = some c := ⟨_, List.getElem?_eq_getElem hlt⟩
      have hi := str_index (P := Tryz.prog) Tryz.underlying9 hc .i64
      have HC := Lib.hid hc
      clear hc
      by_cases h : nmc c = true
      · have h1 := (nmc_iff c).1 h
        have h2 : ¬ (c.toNat : Int) < 33 := by omega
        have h3 : ¬ (126 : Int) < (c.toNat : Int) := by omega
        have h4 : ((c.toNat : Int) == 58) = false := by rw [beq_eq_false_iff_ne]; omega
        have HN := Lib.hid h
        clear h h1
        go_wp2_with fail
        go_roundw
        case rel => exact ⟨q + 1, by go_num, by omega, Lib.hid (by rw [all_take nmc _ HC.out, ha.out, HN.out]; rfl), hd⟩
        case measure => simp [intOf]; omega
      · have hno := nmOk_no HC.out (by simpa using h)
        have h1 : (c.toNat : Int) < 33 ∨ (¬ (c.toNat : Int) < 33 ∧ (126 : Int) < (c.toNat : Int)) ∨ (¬ (c.toNat : Int) < 33 ∧ ¬ (126 : Int) < (c.toNat : Int) ∧ ((c.toNat : Int) == 58) = true) := by
          rw [nmc_iff] at h
          rw [beq_iff_eq]
          omega
        have HNO := Lib.hid hno
        clear h hno
        rcases h1 with h1 | ⟨h1, h2⟩ | ⟨h1, h2, h3⟩
        all_goals
          go_wp2_with fail
          go_ret
          exact ⟨ret_bool HNO.out.symm, hd⟩
    · obtain rfl : q = l.length := by omega
      have hall : l.all nmc = true := by have := ha.out; rwa [List.take_length] at this
      have hres : nmOk l = (decide (1 ≤ l.length) && decide (l.length ≤ 64)) := by
        unfold nmOk
        rw [hall, Bool.true_and, Bool.decide_and]
      have HR := Lib.hid hres
      clear hres hall
      rcases (by omega : (1 ≤ l.length ∧ l.length ≤ 64) ∨ (1 ≤ l.length ∧ ¬ l.length ≤ 64) ∨ l.length = 0) with ⟨h1, h2⟩ | ⟨h1, h2⟩ | h1
      all_goals
        go_wp2_with fail
        go_ret
        exact ⟨ret_bool (by rw [HR.out, Bool.eq_iff_iff]; first | (simp only [Bool.and_eq_true, decide_eq_true_eq]; omega) | (simp; omega)), hd⟩

set_option maxHeartbeats 400000 in
theorem rblank_any (c : UInt8) (w : World) :
    Calls Tryz.prog 50 #[.int .u8 (c.toNat : Int)] w fun e w' => e = .returned (.bool (blk c)) ∧ w = w' := by
  rcases blk_cases c with ⟨hb, h | ⟨h', h⟩⟩ | ⟨hb, h, h'⟩
  all_goals
    have HB := Lib.hid hb
    clear hb
    go_enter Tryz.func50, Tryz.ntmps50
    go_wp2_with fail
    go_ret
    exact ⟨ret_bool (by rw [HB.out]; all_goals (simp [h] <;> omega)), rfl⟩

set_option maxHeartbeats 400000 in
theorem rsigns_any (l : List UInt8) (w : World) (hl : l.length ≤ 9223372036854775807) :
    Calls Tryz.prog 49 #[.string (bs l)] w fun e w' => e = .returned (.bool (l.all sgc)) ∧ Dn w w' := by
  go_enter Tryz.func49, Tryz.ntmps49
  go_wp2_with fail
  go_loopw [3] (fun i wr => ∃ q : Nat, i = .int .i64 q ∧ q ≤ l.length ∧ Hid ((l.take q).all sgc = true) ∧ Dn w wr) (fun i _ => l.length - (intOf i).toNat)
  case atStart => exact ⟨0, rfl, by omega, Lib.hid (by simp), Dn.refl _⟩
  case round =>
    obtain ⟨q, rfl, hq, ha, hd⟩ := hrel
    by_cases hlt : q < l.length
    · obtain ⟨c, hc⟩ : ∃ c, l[q]? = some c := ⟨_, List.getElem?_eq_getElem hlt⟩
      have hi := str_index (P := Tryz.prog) Tryz.underlying9 hc .i64
      have HC := Lib.hid hc
      clear hc
      by_cases h : sgc c = true
      · have h1 : ((c.toNat : Int) != 9) = false ∨ (((c.toNat : Int) != 9) = true ∧ ¬ (c.toNat : Int) < 32 ∧ ¬ (126 : Int) < (c.toNat : Int)) := by
          have := (sgc_iff c).1 h
          rw [bne_iff_ne, bne_eq_false_iff_eq]
          omega
        have HN := Lib.hid h
        clear h
        rcases h1 with h1 | ⟨h1, h2, h3⟩
        all_goals
          go_wp2_with fail
          go_roundw
          case rel => exact ⟨q + 1, by go_num, by omega, Lib.hid (by rw [all_take sgc _ HC.out, ha.out, HN.out]; rfl), hd⟩
          case measure => simp [intOf]; omega
      · have hno := all_hit sgc HC.out (by simpa using h)
        have h1 : ((c.toNat : Int) != 9) = true ∧ ((c.toNat : Int) < 32 ∨ (¬ (c.toNat : Int) < 32 ∧ (126 : Int) < (c.toNat : Int))) := by
          rw [sgc_iff] at h
          rw [bne_iff_ne]
          omega
        have HNO := Lib.hid hno
        clear h hno
        rcases h1 with ⟨h0, h1 | ⟨h1, h2⟩⟩
        all_goals
          go_wp2_with fail
          go_ret
          exact ⟨ret_bool HNO.out.symm, hd⟩
    · obtain rfl : q = l.length := by omega
      have hall : l.all sgc = true := by have := ha.out; rwa [List.take_length] at this
      have HR := Lib.hid hall
      clear hall
      go_wp2_with fail
      go_ret
      exact ⟨ret_bool HR.out.symm, hd⟩

theorem edges_one {l : List UInt8} {a b : UInt8} (ha : l[0]? = some a) (hb : l[l.length - 1]? = some b) : edges l = (!blk a && !blk b) := by
  unfold edges
  rw [List.head?_eq_getElem?, ha, List.getLast?_eq_getElem?, hb]
  rfl

set_option maxHeartbeats 400000 in
theorem rvalue_any (l : List UInt8) (w : World) (hl : l.length ≤ 9223372036854775807) :
    Calls Tryz.prog 26 #[.string (bs l)] w fun e w' => e = .returned (.bool (vlOk l)) ∧ Dn w w' := by
  go_enter Tryz.func26, Tryz.ntmps26
  go_wp2_with fail
  refine (rsigns_any l w hl).mono ?_
  rintro e w1 ⟨rfl, hd⟩
  have hv : vlOk l = (l.all sgc && decide (l.length ≤ 8192) && edges l) := rfl
  have HV := Lib.hid hv
  clear hv
  rcases Bool.eq_false_or_eq_true (l.all sgc) with h | h
  · by_cases h2 : l.length ≤ 8192
    · by_cases h3 : l.length = 0
      · have he : edges l = true := by rw [List.eq_nil_of_length_eq_zero h3]; rfl
        have HE := Lib.hid he
        clear he
        go_wp2_with fail
        go_ret
        exact ⟨ret_bool (by rw [HV.out, h, HE.out]; simp [h2]), hd⟩
      · obtain ⟨a, ha⟩ : ∃ c, l[0]? = some c := ⟨_, List.getElem?_eq_getElem (by omega)⟩
        obtain ⟨b, hb⟩ : ∃ c, l[l.length - 1]? = some c := ⟨_, List.getElem?_eq_getElem (by omega)⟩
        have hi : ∀ W, (Instr.index 9 (.string (bs l)) (.int .i64 0)).run Tryz.prog W = .ok (.int .u8 (a.toNat : Int)) W := str_index (P := Tryz.prog) Tryz.underlying9 ha .i64
        have hj : ∀ W, (Instr.index 9 (.string (bs l)) (.int .i64 ((l.length : Int) - 1))).run Tryz.prog W = .ok (.int .u8 (b.toNat : Int)) W := by
          rw [show ((l.length : Int) - 1) = ((l.length - 1 : Nat) : Int) by omega]
          exact str_index (P := Tryz.prog) Tryz.underlying9 hb .i64
        have he := edges_one ha hb
        have HE := Lib.hid he
        have hne : l ≠ [] := fun e => h3 (by rw [e]; rfl)
        clear he ha hb
        go_wp2_with fail
        refine (rblank_any a _).mono ?_
        rintro e w2 ⟨rfl, rfl⟩
        rcases Bool.eq_false_or_eq_true (blk a) with h5 | h5
        · rw [h5]
          go_wp2_with fail
          go_ret
          exact ⟨ret_bool (by rw [HV.out, HE.out, h, h5]; simp [hne]), hd⟩
        · rw [h5]
          go_wp2_with fail
          refine (rblank_any b _).mono ?_
          rintro e w3 ⟨rfl, rfl⟩
          go_wp2_with fail
          go_ret
          exact ⟨ret_bool (by rw [HV.out, HE.out, h, h5]; simp [h2, hne]), hd⟩
    · go_wp2_with fail
      go_ret
      exact ⟨ret_bool (by rw [HV.out, h]; simp [h2]), hd⟩
  · rw [h]
    go_wp2_with fail
    go_ret
    exact ⟨ret_bool (by rw [HV.out, h]; rfl), hd⟩

set_option maxHeartbeats 400000 in
theorem rsmall_any (c : UInt8) (w : World) :
    Calls Tryz.prog 48 #[.int .u8 (c.toNat : Int)] w fun e w' => e = .returned (.int .u8 ((small c).toNat : Int)) ∧ w = w' := by
  have hc := c.toNat_lt
  have hs := small_nat c
  have HS := Lib.hid hs
  clear hs
  rcases (by omega : (65 ≤ c.toNat ∧ c.toNat ≤ 90) ∨ (c.toNat < 65) ∨ (65 ≤ c.toNat ∧ 90 < c.toNat)) with ⟨h1, h2⟩ | h1 | ⟨h1, h2⟩
  all_goals
    go_enter Tryz.func48, Tryz.ntmps48
    go_wp2_with fail
    go_ret
    exact ⟨ret_int (by rw [HS.out]; split <;> omega), rfl⟩

theorem sameN_no {a b : List UInt8} {q : Nat} {x y : UInt8} (hx : a[q]? = some x) (hy : b[q]? = some y) (h : small x ≠ small y) : sameN a b = false := by
  unfold sameN
  rw [decide_eq_false_iff_not]
  intro e
  have := congrArg (fun l => l[q]?) e
  simp only [List.getElem?_map, hx, hy, Option.map_some, Option.some.injEq] at this
  exact h this
theorem sameN_len {a b : List UInt8} (h : a.length ≠ b.length) : sameN a b = false := by
  unfold sameN
  rw [decide_eq_false_iff_not]
  intro e
  have := congrArg List.length e
  simp only [List.length_map] at this
  exact h this
theorem small_ne {x y : UInt8} : (((small x).toNat : Int) != ((small y).toNat : Int)) = decide (small x ≠ small y) := by
  rw [Bool.eq_iff_iff, bne_iff_ne, decide_eq_true_iff]
  exact not_congr u8_eq

set_option maxRecDepth 100000 in
set_option maxHeartbeats 1000000 in
theorem rsame_any (a b : List UInt8) (w : World) (ha : a.length ≤ 1000000000) (hb : b.length ≤ 1000000000) :
    Calls Tryz.prog 24 #[.string (bs a), .string (bs b)] w fun e w' => e = .returned (.bool (sameN a b)) ∧ Dn w w' := by
  by_cases hl : a.length = b.length
  · obtain ⟨n, hn⟩ : ∃ n, a.length = n := ⟨_, rfl⟩
    have hm : b.length = n := by omega
    rw [hn] at ha
    go_enter Tryz.func24, Tryz.ntmps24
    go_wp2_with fail
    go_loopw [5] (fun i wr => ∃ q : Nat, i = .int .i64 q ∧ q ≤ n ∧ Hid ((a.take q).map small = (b.take q).map small) ∧ Dn w wr) (fun i _ => n - (intOf i).toNat)
    case atStart => exact ⟨0, rfl, by omega, Lib.hid (by simp), Dn.refl _⟩
    case round =>
      obtain ⟨q, rfl, hq, he, hd⟩ := hrel
      by_cases hlt : q < n
      · obtain ⟨x, hx⟩ : ∃ c, a[q]? = some c := ⟨_, List.getElem?_eq_getElem (by omega)⟩
        obtain ⟨y, hy⟩ : ∃ c, b[q]? = some c := ⟨_, List.getElem?_eq_getElem (by omega)⟩
        have hi := str_index (P := Tryz.prog) Tryz.underlying9 hx .i64
        have hj := str_index (P := Tryz.prog) Tryz.underlying9 hy .i64
        have HX := Lib.hid hx
        have HY := Lib.hid hy
        clear hx hy
        have hbb := @small_ne x y
        by_cases h : small x = small y
        · have hbf : (((small x).toNat : Int) != ((small y).toNat : Int)) = false := by rw [hbb, decide_eq_false_iff_not]; simpa using h
          have HH := Lib.hid h
          clear hbb h
          go_wp2_with fail
          go_region_with (go_at_call 48; refine (rsmall_any _ _).mono ?_; rintro e w2 ⟨rfl, rfl⟩)
          all_goals
            go_wp2_with fail
            go_roundw
            case rel => exact ⟨q + 1, by go_num, by omega, Lib.hid (by rw [take_succ_of HX.out, take_succ_of HY.out, List.map_append, List.map_append, he.out]; simp [HH.out]), by first | exact hd | exact hd.drewN _ | exact hd.drew⟩
            case measure => simp [intOf]; omega
        · have hbf : (((small x).toNat : Int) != ((small y).toNat : Int)) = true := by rw [hbb, decide_eq_true_iff]; exact h
          have hno := Lib.hid (sameN_no HX.out HY.out h)
          clear hbb h
          go_wp2_with fail
          go_region_with (go_at_call 48; refine (rsmall_any _ _).mono ?_; rintro e w2 ⟨rfl, rfl⟩)
          all_goals
            go_wp2_with fail
            go_ret
            exact ⟨ret_bool hno.out.symm, by first | exact hd | exact hd.drewN _ | exact hd.drew⟩
      · obtain rfl : q = n := by omega
        have hall : sameN a b = true := by
          have := he.out
          rw [take_all a (by omega), take_all b (by omega)] at this
          unfold sameN
          rw [decide_eq_true_iff]
          exact this
        have HR := Lib.hid hall
        clear hall
        go_wp2_with fail
        go_ret
        exact ⟨ret_bool HR.out.symm, hd⟩
  · have hno := Lib.hid (sameN_len hl)
    have hbb : ((a.length : Int) != (b.length : Int)) = true := by rw [bne_iff_ne]; omega
    go_enter Tryz.func24, Tryz.ntmps24
    go_wp2_with fail
    go_ret
    exact ⟨ret_bool hno.out.symm, Dn.refl _⟩
end Go.Proofs.YtcagkoakbdbbaaaGreatDoor
