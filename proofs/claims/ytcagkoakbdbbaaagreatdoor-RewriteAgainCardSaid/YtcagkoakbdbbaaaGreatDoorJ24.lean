/- The program's rest: what is left of a number, from 0 on. · The program's marked: does a line begin with two dashes? · Plain: a mail that is read has all its bytes; each field begins without a blank, but the first. · The program's squeezed: a text without blanks, and with small letters. · Names and values: field's own tests. -/
import Derived.Test.YtcagkoakbdbbaaaGreatDoorJ23
import Derived.Test.YtcagkoakbdbbaaaGreatDoorJ05
import Derived.Test.YtcagkoakbdbbaaaGreatDoorJ06
import Derived.Test.YtcagkoakbdbbaaaGreatDoorChecked
namespace Go.Proofs.YtcagkoakbdbbaaaGreatDoor
set_option linter.unusedVariables false
set_option linter.unusedSimpArgs false
open Go.RowKit

theorem rest_eq (z : Int) (p : Nat) (hp : 0 < p) : (z.tmod p + p).tmod p = z % (p : Int) := by
  have h1 : 0 ≤ z.tmod p + p := by
    have := Int.lt_tmod_of_pos z (by omega : (0 : Int) < p)
    omega
  have e : z.tmod p + p = z + p * (1 - z.tdiv p) := by
    rw [Int.tmod_def, Int.mul_sub, Int.mul_one]
    omega
  rw [Int.tmod_eq_emod_of_nonneg h1, e, Int.add_mul_emod_self_left]
theorem rest_any (z : Int) (p : Nat) (w : World) (hp : 0 < p) (hb : p ≤ 1000000) (hz : -9223372036854775808 ≤ z ∧ z ≤ 9223372036854775807) :
    Calls Tryz.prog 20 #[.int .i64 z, .int .i64 (p : Int)] w fun e w' => e = .returned (.int .i64 (z % (p : Int))) ∧ w' = w := by
  have hp0 : ((p : Int) == 0) = false := by rw [beq_eq_false_iff_ne]; omega
  have hp1 : (0 : Int) < (p : Int) := by omega
  have h1 := Int.lt_tmod_of_pos z hp1
  have h2 := Int.tmod_lt_of_pos z hp1
  have h3 := rest_eq z p hp
  go_enter Tryz.func20, Tryz.ntmps20
  go_wp2_with fail
  go_ret
  exact ⟨rfl, rfl⟩
end Go.Proofs.YtcagkoakbdbbaaaGreatDoor

namespace Go.Proofs.YtcagkoakbdbbaaaGreatDoor
set_option linter.unusedVariables false
set_option linter.unusedSimpArgs false
open Go.RowKit

theorem marked_any (A : Option Addr) (l : List UInt8) (n c : Nat) (w : World) (hn : l.length = n) (hA : Rb w A l) (hnc : n ≤ c) :
    Calls Tryz.prog 76 #[.slice A n c] w fun e w' => e = .returned (.bool (Lib.hasPrefix l [45, 45])) ∧ Below w.heap.size w w' := by
  have hcv := Lib.run_convert_bytes_const (P := Tryz.prog) w 22 5 #[.int .u8 45, .int .u8 45] 2 2 Tryz.underlying22 Tryz.underlying5
  have hb1 := mark_below w #[.int .u8 45, .int .u8 45] 5 (2, 3)
  have hx1 : Rb (w.alloc (.cells #[.int .u8 45, .int .u8 45] 5 (2, 3))) (some ⟨w.heap.size, 0, none⟩) [45, 45] := Rb_new w [45, 45] _ _ rfl 2 (2, 3)
  have h : Calls Tryz.prog 97 #[.slice A n c, .slice (some ⟨w.heap.size, 0, none⟩) 2 2] (w.alloc (.cells #[.int .u8 45, .int .u8 45] 5 (2, 3))) fun e w' => e = .returned (.bool (Lib.hasPrefix l [45, 45])) ∧ w' = w.alloc (.cells #[.int .u8 45, .int .u8 45] 5 (2, 3)) := by
    subst hn
    have h := Tryz.bytes_HasPrefix_all A (some ⟨w.heap.size, 0, none⟩) l.length c 2 2 (nums l) (nums [45, 45]) _ (nums_len l) rfl hnc (bytesIn_of (hA.below hb1)) (bytesIn_of hx1)
    rw [bytesOf_nums, bytesOf_nums] at h
    exact h
  obtain ⟨q, hq⟩ : ∃ q, Lib.hasPrefix l [45, 45] = q := ⟨_, rfl⟩
  rw [hq] at h ⊢
  clear hn hq hx1
  go_enter Tryz.func76, Tryz.ntmps76
  go_wp2_with fail
  refine h.mono ?_
  rintro e w1 ⟨rfl, rfl⟩
  go_wp2_with fail
  go_ret
  exact ⟨rfl, hb1⟩
end Go.Proofs.YtcagkoakbdbbaaaGreatDoor

namespace Go.Proofs.YtcagkoakbdbbaaaGreatDoor
set_option linter.unusedVariables false
set_option linter.unusedSimpArgs false
open Go.RowKit

theorem readG_flat : ∀ (ls fs : List (List UInt8)) {fs' : List (List UInt8)} {en bd : List UInt8}, readG fs ls = some (fs', en, bd) → fs'.flatten ++ en ++ bd = fs.flatten ++ ls.flatten
  | [], _, _, _, _, h => by cases h
  | l :: r, fs, fs', en, bd, h => by
    unfold readG at h
    by_cases h1 : textL l = []
    · rw [if_pos h1] at h
      cases h
      simp
    · rw [if_neg h1] at h
      by_cases h2 : blank1 l = true ∧ fs ≠ []
      · rw [if_pos h2] at h
        rw [readG_flat r _ h, jl_flat l h2.2]
        simp
      · rw [if_neg h2] at h
        rw [readG_flat r _ h]
        simp
/-- what has been read is the bytes again -/
theorem read_bytes {b : List UInt8} {fs : List (List UInt8)} {en bd : List UInt8} (h : readG [] (fl b) = some (fs, en, bd)) : fs.flatten ++ en ++ bd = b := by
  rw [readG_flat _ _ h, fl_flat]
  rfl
/-- each field has a sign -/
theorem readG_ne : ∀ (ls fs : List (List UInt8)) {fs' : List (List UInt8)} {en bd : List UInt8}, readG fs ls = some (fs', en, bd) → (∀ l ∈ ls, l ≠ []) → (∀ f ∈ fs, f ≠ []) → (∀ f ∈ fs', f ≠ []) ∧ en ≠ [] ∧ textL en = []
  | [], _, _, _, _, h, _, _ => by cases h
  | l :: r, fs, fs', en, bd, h, hl, hf => by
    have hr : ∀ l ∈ r, l ≠ [] := fun x hx => hl x (List.mem_cons_of_mem _ hx)
    unfold readG at h
    by_cases h1 : textL l = []
    · rw [if_pos h1] at h
      cases h
      exact ⟨hf, hl _ List.mem_cons_self, h1⟩
    · rw [if_neg h1] at h
      by_cases h2 : blank1 l = true ∧ fs ≠ []
      · rw [if_pos h2] at h
        refine readG_ne r _ h hr fun f hm => ?_
        rcases List.mem_append.1 hm with hm | hm
        · exact hf f (List.dropLast_subset _ hm)
        · obtain rfl : f = fs.getLast?.getD [] ++ l := by simpa using hm
          intro e
          exact hl l List.mem_cons_self (List.append_eq_nil_iff.1 e).2
      · rw [if_neg h2] at h
        refine readG_ne r _ h hr fun f hm => ?_
        rcases List.mem_append.1 hm with hm | hm
        · exact hf f hm
        · obtain rfl : f = l := by simpa using hm
          exact hl _ List.mem_cons_self
theorem read_ne {b : List UInt8} {fs : List (List UInt8)} {en bd : List UInt8} (h : readG [] (fl b) = some (fs, en, bd)) : (∀ f ∈ fs, f ≠ []) ∧ en ≠ [] ∧ textL en = [] :=
  readG_ne _ _ h (fun _ hx => fl_ne hx) (fun _ hx => by cases hx)
end Go.Proofs.YtcagkoakbdbbaaaGreatDoor

namespace Go.Proofs.YtcagkoakbdbbaaaGreatDoor
set_option linter.unusedVariables false
set_option linter.unusedSimpArgs false
open Go.RowKit Go.Shelf

def sqF (x : Int) : Int := if x = 32 ∨ x = 9 ∨ x = 13 ∨ x = 10 then -1 else if 65 ≤ x ∧ x ≤ 90 then x + 32 else x
set_option maxHeartbeats 400000 in
theorem squeezed1_any (x : Nat) (w : World) (hx : x ≤ 1114111) :
    Calls Tryz.prog 95 #[.int .i32 (x : Int)] w fun e w' => e = .returned (.int .i32 (sqF x)) ∧ Below w.heap.size w w' := by
  by_cases h0 : x = 32 ∨ x = 9 ∨ x = 13 ∨ x = 10
  · rcases h0 with rfl | rfl | rfl | rfl
    all_goals
      go_enter Tryz.func95, Tryz.ntmps95
      go_wp2_with fail
      go_ret
      exact ⟨rfl, Below.refl _ _⟩
  · have e1 : ((x : Int) == 32) = false := by rw [beq_eq_false_iff_ne]; omega
    have e2 : ((x : Int) == 9) = false := by rw [beq_eq_false_iff_ne]; omega
    have e3 : ((x : Int) == 13) = false := by rw [beq_eq_false_iff_ne]; omega
    have e4 : ((x : Int) == 10) = false := by rw [beq_eq_false_iff_ne]; omega
    unfold sqF
    rw [if_neg (by omega)]
    rcases (by omega : (65 ≤ x ∧ x ≤ 90) ∨ x < 65 ∨ (65 ≤ x ∧ 90 < x)) with ⟨h1, h2⟩ | h1 | ⟨h1, h2⟩
    · rw [if_pos ⟨by omega, by omega⟩]
      clear h0
      go_enter Tryz.func95, Tryz.ntmps95
      go_wp2_with fail
      go_ret
      exact ⟨ret_int (by go_num), Below.refl _ _⟩
    all_goals
      rw [if_neg (by omega)]
      clear h0
      go_enter Tryz.func95, Tryz.ntmps95
      go_wp2_with fail
      go_ret
      exact ⟨ret_int (by go_num), Below.refl _ _⟩
theorem eg_squeezed : ∀ args w, (callFunc 95 args).run Tryz.prog w = .ok (.enter 95 args) w := enters_of Tryz.func95 (by kernel_rfl) rfl
set_option maxHeartbeats 400000 in
theorem squeezed_any (A : Option Addr) (l : List UInt8) (n c : Nat) (w : World) (hT : Lib.Utf8Tabs 3 4 w) (hn : l.length = n) (hA : Rb w A l) (hl : n ≤ 1000000000) :
    Calls Tryz.prog 74 #[.slice A n c] w fun e w' => e = .returned (.string (bs (Lib.mapD sqF l))) ∧ Below w.heap.size w w' := by
  have h := Tryz.strings_Map_grows 95 #[] eg_squeezed sqF (bs l) w (by rw [bs_size]; omega) (fun W x hx _ => squeezed1_any x W hx) (fun x hx => by unfold sqF; split <;> (try split) <;> omega) hT
  rw [bs_toList] at h
  have h2 : Calls Tryz.prog 93 #[.func (.func 95) #[] #[], .string (bs l)] w fun e w' => e = .returned (.string (bs (Lib.mapD sqF l))) ∧ Below w.heap.size w w' := h
  have hcs := conv_str (P := Tryz.prog) Tryz.underlying22 Tryz.underlying5 Tryz.underlying9 (n := n) (c := c) hA hn
  clear h hn
  generalize Lib.mapD sqF l = m at *
  go_enter Tryz.func74, Tryz.ntmps74
  go_wp2_with fail
  refine h2.mono ?_
  rintro e w' ⟨rfl, hb⟩
  go_wp2_with fail
  go_ret
  exact ⟨rfl, hb⟩
end Go.Proofs.YtcagkoakbdbbaaaGreatDoor

namespace Go.Proofs.YtcagkoakbdbbaaaGreatDoor
set_option linter.unusedVariables false
set_option linter.unusedSimpArgs false
open Go.RowKit

set_option maxHeartbeats 400000 in
theorem fblank_any (c : UInt8) (w : World) :
    Calls Tryz.prog 103 #[.int .u8 (c.toNat : Int)] w fun e w' => e = .returned (.bool (blk c)) ∧ w = w' := by
  rcases blk_cases c with ⟨hb, h | ⟨h', h⟩⟩ | ⟨hb, h, h'⟩
  all_goals
    have HB := Lib.hid hb
    clear hb
    go_enter Tryz.func103, Tryz.ntmps103
    go_wp2_with fail
    go_ret
    exact ⟨ret_bool (by rw [HB.out]; all_goals (simp [h] <;> omega)), rfl⟩

set_option maxRecDepth 100000 in
set_option maxHeartbeats 400000 in
theorem fname_any (l : List UInt8) (w : World) (hl : l.length ≤ 9223372036854775807) :
    Calls Tryz.prog 79 #[.string (bs l)] w fun e w' => e = .returned (.bool (nmOk l)) ∧ Below w.heap.size w w' := by
  obtain ⟨c, W, hcv, hown, hB, _⟩ := conv_bs (P := Tryz.prog) (src := 9) (dst := 22) Tryz.underlying9 Tryz.underlying22 Tryz.underlying5 w l (by unfold maxLen; omega)
  go_enter Tryz.func79, Tryz.ntmps79
  obtain ⟨g, hg⟩ : ∃ g, decide (1 ≤ l.length ∧ l.length ≤ 64) = g := ⟨_, rfl⟩
  obtain ⟨A, _, hA, _, _, hR, _⟩ := hown.form
  cases hA
  have hRb : Rb W _ l := hR
  have hres : nmOk l = (l.all nmc && g) := by rw [← hg]; rfl
  have HR := Lib.hid hres
  have HG := Lib.hid hg
  clear hres hR hown hg
  rcases (by omega : l.length = 0 ∨ (1 ≤ l.length ∧ l.length ≤ 64) ∨ (1 ≤ l.length ∧ ¬ l.length ≤ 64)) with h1 | h1
  · have h0 : nmOk l = false := by rw [List.eq_nil_of_length_eq_zero h1]; rfl
    have H0 := Lib.hid h0
    clear h0
    go_wp2_with fail
    go_loopw [3, 17] (fun v i wr => v = .bool false ∧ i = .int .i64 0 ∧ wr = W) (fun _ _ _ => 0)
    case atStart => exact ⟨rfl, rfl, rfl⟩
    case round =>
      obtain ⟨rfl, rfl, rfl⟩ := hrel
      go_wp2_with fail
      go_ret
      exact ⟨ret_bool H0.out.symm, hB⟩
  rcases h1 with ⟨h1, h2⟩ | ⟨h1, h2⟩
  all_goals
    go_wp2_with fail
    go_loopw [3, 17] (fun v i wr => ∃ q : Nat, i = .int .i64 q ∧ q ≤ l.length ∧ v = .bool (g && (l.take q).all nmc) ∧ Dn W wr) (fun _ i _ => l.length - (intOf i).toNat)
    case atStart =>
      refine ⟨0, rfl, by omega, ?_, Dn.refl _⟩
      refine congrArg Value.bool ?_
      rw [← HG.out, Bool.eq_iff_iff]
      first
        | (simp only [List.take_zero, List.all_nil, Bool.and_true, decide_eq_true_eq]; omega)
        | (simp; omega)
    case round =>
      obtain ⟨q, rfl, hq, rfl, hd⟩ := hrel
      by_cases hlt : q < l.length
      · obtain ⟨b, o, x, e, hx, hcell⟩ := (hRb.below (hd.below _)).one hlt
        cases e
        rw [Nat.zero_add] at hcell
        have hst : (g && (l.take (q + 1)).all nmc) = ((g && (l.take q).all nmc) && nmc x) := by rw [all_take nmc _ hx.out, Bool.and_assoc]
        have HST := Lib.hid hst
        clear hst
        rcases Bool.eq_false_or_eq_true (g && (l.take q).all nmc) with hG | hG
        · rw [hG] at HST ⊢
          have hx2 : (nmc x = true ∧ (32 : Int) < (x.toNat : Int) ∧ (x.toNat : Int) ≤ 126 ∧ ((x.toNat : Int) != 58) = true) ∨ (nmc x = false ∧ (¬ (32 : Int) < (x.toNat : Int) ∨ ((32 : Int) < (x.toNat : Int) ∧ ¬ (x.toNat : Int) ≤ 126) ∨ ((32 : Int) < (x.toNat : Int) ∧ (x.toNat : Int) ≤ 126 ∧ ((x.toNat : Int) != 58) = false))) := by
            rcases Bool.eq_false_or_eq_true (nmc x) with h | h
            · have := (nmc_iff x).1 h
              exact .inl ⟨h, by omega, by omega, by rw [bne_iff_ne]; omega⟩
            · refine .inr ⟨h, ?_⟩
              have h' : ¬ nmc x = true := by simp [h]
              rw [nmc_iff] at h'
              rw [bne_eq_false_iff_eq]
              omega
          rcases hx2 with ⟨hn, k1, k2, k3⟩ | ⟨hn, k1 | ⟨k1, k2⟩ | ⟨k1, k2, k3⟩⟩
          all_goals
            rw [hn] at HST
            clear hn
            go_wp2_with fail
            go_roundw
            case rel => exact ⟨q + 1, by go_num, by omega, by rw [HST.out]; rfl, hd⟩
            case measure => simp [intOf]; omega
        · rw [hG] at HST ⊢
          go_wp2_with fail
          go_roundw
          case rel => exact ⟨q + 1, by go_num, by omega, by rw [HST.out]; rfl, hd⟩
          case measure => simp [intOf]; omega
      · obtain rfl : q = l.length := by omega
        have ha : (g && (l.take l.length).all nmc) = nmOk l := by rw [List.take_length, Bool.and_comm]; exact HR.out.symm
        rw [ha]
        clear ha
        go_wp2_with fail
        go_ret
        exact ⟨rfl, hB.trans ((hd.below _).mono hB.size)⟩
end Go.Proofs.YtcagkoakbdbbaaaGreatDoor
