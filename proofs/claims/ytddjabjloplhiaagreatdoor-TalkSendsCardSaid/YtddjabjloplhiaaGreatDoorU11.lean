/- The document's Trim, Dotted, Lower. -/
import Derived.Test.YtddjabjloplhiaaGreatDoorU10
namespace Go.Proofs.YtddjabjloplhiaaGreatDoor
set_option linter.unusedVariables false
set_option linter.unusedSimpArgs false
open Go.RowKit

theorem trimB_left {c : UInt8} {r : List UInt8} (h : blk c = true) : trimB (c :: r) = trimB r := by
  rw [trimB_def, trimB_def, List.reverse_cons, List.dropWhile_append]
  by_cases he : (r.reverse.dropWhile blk).isEmpty = true
  · rw [if_pos he]
    have : r.reverse.dropWhile blk = [] := by simpa using he
    rw [this]
    simp [h]
  · rw [if_neg he, List.reverse_append]
    simp [h]
theorem trimB_right {c : UInt8} {v : List UInt8} (h : blk c = true) : trimB (v ++ [c]) = trimB v := by
  rw [trimB_def, trimB_def, List.reverse_append]
  simp [h]
theorem trimB_self {u : List UInt8} (h1 : ∀ x, u.head? = some x → blk x = false) (h2 : ∀ x, u.getLast? = some x → blk x = false) : trimB u = u := by
  rw [trimB_def]
  have e1 : u.reverse.dropWhile blk = u.reverse := by
    cases hr : u.reverse with
    | nil => rfl
    | cons x r =>
      have : u.getLast? = some x := by rw [List.getLast?_eq_head?_reverse, hr]; rfl
      rw [List.dropWhile_cons_of_neg (by rw [h2 x this]; simp)]
  rw [e1, List.reverse_reverse]
  cases u with
  | nil => rfl
  | cons x r => rw [List.dropWhile_cons_of_neg (by rw [h1 x rfl]; simp)]
theorem trimB_nil : trimB [] = [] := rfl
theorem blk_tests (c : UInt8) : (blk c = true ∧ ((c.toNat : Int) == 32) = true) ∨ (blk c = true ∧ ((c.toNat : Int) == 32) = false ∧ ((c.toNat : Int) == 9) = true) ∨ (blk c = false ∧ ((c.toNat : Int) == 32) = false ∧ ((c.toNat : Int) == 9) = false) := by
  rcases blk_cases c with ⟨h, k | ⟨k, k2⟩⟩ | ⟨h, k, k2⟩
  · exact .inl ⟨h, by simpa using k⟩
  · exact .inr (.inl ⟨h, by simpa using k, by simpa using k2⟩)
  · exact .inr (.inr ⟨h, by simpa using k, by simpa using k2⟩)

set_option maxRecDepth 100000 in
set_option maxHeartbeats 2000000 in
theorem rtrim_any (l : List UInt8) (w : World) (hl : l.length ≤ 1000000000) :
    Calls Tryz.prog 74 #[.string (bs l)] w fun e w' => e = .returned (.string (bs (trimB l))) ∧ w' = w := by
  go_enter Tryz.func74, Tryz.ntmps74
  go_wp2_with fail
  go_loopw [0] (fun s0 wr => ∃ u : List UInt8, s0 = .string (bs u) ∧ u.length ≤ l.length ∧ Hid (trimB l = trimB u) ∧ wr = w) (fun s0 _ => strLen s0)
  case atStart => exact ⟨l, rfl, by omega, Lib.hid rfl, rfl⟩
  case round =>
    obtain ⟨u, rfl, hul, he, rfl⟩ := hrel
    have leave : ∀ u : List UInt8, (∀ x, u.head? = some x → blk x = false) → True := fun _ _ => trivial
    cases u with
    | nil =>
      have HE := Lib.hid (he.out.trans trimB_nil)
      clear he
      go_wp2_with fail
      go_loopw [0] (fun s0 wr2 => s0 = .string (bs []) ∧ wr2 = wr) (fun s0 _ => strLen s0)
      case atStart => exact ⟨rfl, rfl⟩
      case round =>
        obtain ⟨rfl, rfl⟩ := hrel
        go_wp2_with fail
        go_ret
        exact ⟨by rw [HE.out]; rfl, by first | rfl | trivial⟩
    | cons c r =>
      have hi0 : ∀ W, (Instr.index 9 (.string (bs (c :: r))) (.int .i64 0)).run Tryz.prog W = .ok (.int .u8 (c.toNat : Int)) W := fun W => str_index (P := Tryz.prog) Tryz.underlying9 (k := 0) (x := c) rfl .i64 W
      simp only [List.length_cons] at hul
      rcases blk_tests c with ⟨h, k⟩ | ⟨h, k, k2⟩ | ⟨h, k, k2⟩
      · have HE := Lib.hid (he.out.trans (trimB_left h))
        clear he h
        go_wp2_with fail
        go_roundw
        case rel => exact ⟨r, by simp, by omega, HE, by first | rfl | trivial⟩
        case measure => simp [strLen]
      · have HE := Lib.hid (he.out.trans (trimB_left h))
        clear he h
        go_wp2_with fail
        go_roundw
        case rel => exact ⟨r, by simp, by omega, HE, by first | rfl | trivial⟩
        case measure => simp [strLen]
      · have HH := Lib.hid (show ∀ x, (c :: r).head? = some x → blk x = false from fun x hx => by cases hx; exact h)
        have hul2 : (c :: r).length ≤ l.length := by simpa using hul
        obtain ⟨u, hu⟩ : ∃ u, c :: r = u := ⟨_, rfl⟩
        rw [hu] at HH he hi0 hul2 ⊢
        have hun : 0 < u.length := by rw [← hu]; simp
        clear hu h hul
        go_wp2_with fail
        go_loopw [0] (fun s0 wr2 => ∃ v : List UInt8, s0 = .string (bs v) ∧ v.length ≤ l.length ∧ Hid (trimB l = trimB v) ∧ Hid (∀ x, v.head? = some x → blk x = false) ∧ wr2 = wr) (fun s0 _ => strLen s0)
        case atStart => exact ⟨u, rfl, hul2, he, HH, rfl⟩
        case round =>
          clear he HH hi0 hul2 hun
          obtain ⟨v, rfl, hvl, he, hh, rfl⟩ := hrel
          rcases List.eq_nil_or_concat v with rfl | ⟨v', c', rfl⟩
          · have HE := Lib.hid (he.out.trans trimB_nil)
            clear he
            go_wp2_with fail
            go_ret
            exact ⟨by rw [HE.out]; rfl, by first | rfl | trivial⟩
          · rw [List.concat_eq_append] at hvl he hh ⊢
            simp only [List.length_append, List.length_cons, List.length_nil] at hvl
            have hj : ∀ W, (Instr.index 9 (.string (bs (v' ++ [c']))) (.int .i64 (v'.length : Int))).run Tryz.prog W = .ok (.int .u8 (c'.toNat : Int)) W := fun W => str_index (P := Tryz.prog) Tryz.underlying9 (k := v'.length) (x := c') (by simp) .i64 W
            have hj2 : ∀ W, (Instr.index 9 (.string (bs (v' ++ [c']))) (.int .i64 ((v'.length : Int) + 1 - 1))).run Tryz.prog W = .ok (.int .u8 (c'.toNat : Int)) W := fun W => by
              rw [Int.add_sub_cancel]
              exact hj W
            have f5 : (0 : Int) ≤ (v'.length : Int) + 1 - 1 := by omega
            have f6 : (v'.length : Int) + 1 - 1 ≤ (v'.length : Int) + 1 := by omega
            rcases blk_tests c' with ⟨h, k⟩ | ⟨h, k, k2⟩ | ⟨h, k, k2⟩
            · have HE := Lib.hid (he.out.trans (trimB_right h))
              have HH := Lib.hid (show ∀ x, v'.head? = some x → blk x = false from fun x hx => hh.out x (by cases v' with | nil => cases hx | cons y t => exact hx))
              clear he h hh
              go_wp2_with fail
              go_roundw
              case rel => exact ⟨v', by simp, by omega, HE, HH, by first | rfl | trivial⟩
              case measure => simp [strLen]
            · have HE := Lib.hid (he.out.trans (trimB_right h))
              have HH := Lib.hid (show ∀ x, v'.head? = some x → blk x = false from fun x hx => hh.out x (by cases v' with | nil => cases hx | cons y t => exact hx))
              clear he h hh
              go_wp2_with fail
              go_roundw
              case rel => exact ⟨v', by simp, by omega, HE, HH, by first | rfl | trivial⟩
              case measure => simp [strLen]
            · have HE := Lib.hid (he.out.trans (trimB_self hh.out (fun x hx => by simp at hx; rw [← hx]; exact h)))
              clear he h hh
              go_wp2_with fail
              go_ret
              exact ⟨by rw [HE.out]; rfl, by first | rfl | trivial⟩

set_option maxRecDepth 100000 in
set_option maxHeartbeats 1000000 in
theorem rdotted_any (l : List UInt8) (w : World) (hl : l.length ≤ 1000000000) :
    Calls Tryz.prog 75 #[.string (bs l)] w fun e w' => e = .returned (.bool (dotP l)) ∧ w' = w := by
  have H0 := Lib.hid (show dotP l = dotGo 46 (l.drop 0) by rw [List.drop_zero, dot_eq])
  go_enter Tryz.func75, Tryz.ntmps75
  go_wp2_with fail
  go_loopw [3, 4] (fun s3 i wr => ∃ (q : Nat) (last : UInt8), i = .int .i64 q ∧ s3 = .int .u8 (last.toNat : Int) ∧ q ≤ l.length ∧ Hid (dotP l = dotGo last (l.drop q)) ∧ wr = w) (fun _ i _ => l.length - (intOf i).toNat)
  case atStart => exact ⟨0, 46, rfl, rfl, by omega, H0, rfl⟩
  case round =>
    clear H0
    obtain ⟨q, last, rfl, rfl, hq, he, rfl⟩ := hrel
    have l46 : ((last.toNat : Int) == 46) = (last == 46) := u8_test last 46 rfl
    by_cases hlt : q < l.length
    · obtain ⟨c, hc⟩ : ∃ c, l[q]? = some c := ⟨_, List.getElem?_eq_getElem hlt⟩
      have hi := str_index (P := Tryz.prog) Tryz.underlying9 hc .i64
      have t46 : ((c.toNat : Int) == 46) = (c == 46) := u8_test c 46 rfl
      have n46 : ((c.toNat : Int) != 46) = (c != 46) := by rw [bne, t46]; rfl
      have hstep : dotGo last (l.drop q) = if c = 46 then (if last = 46 then false else dotGo 46 (l.drop (q + 1))) else if atc c then dotGo c (l.drop (q + 1)) else false := by
        rw [drop_at hc, dotGo]
      have hst := he.out.trans hstep
      by_cases h : c = 46
      · rw [if_pos h] at hst
        have hb : ((c.toNat : Int) == 46) = true := by rw [t46, h]; rfl
        have hb2 : ((c.toNat : Int) != 46) = false := by rw [n46, h]; rfl
        by_cases h2 : last = 46
        · rw [if_pos h2] at hst
          have HST := Lib.hid hst
          have hb3 : ((last.toNat : Int) == 46) = true := by rw [l46, h2]; rfl
          clear l46 t46 n46 hstep hst he h h2 hc
          go_wp2_with fail
          go_ret
          exact ⟨ret_bool HST.out.symm, by first | rfl | trivial⟩
        · rw [if_neg h2] at hst
          rw [← h] at hst
          have HST := Lib.hid hst
          have hb3 : ((last.toNat : Int) == 46) = false := by rw [l46]; simp [h2]
          clear l46 t46 n46 hstep hst he h h2 hc
          go_wp2_with fail
          go_roundw
          case rel => exact ⟨q + 1, c, by go_num, rfl, by omega, HST, by first | rfl | trivial⟩
          case measure => simp [intOf]; omega
      · rw [if_neg h] at hst
        have hb : ((c.toNat : Int) == 46) = false := by rw [t46]; simp [h]
        have hb2 : ((c.toNat : Int) != 46) = true := by rw [n46]; simp [h]
        have hcall := rplain_any c
        rcases Bool.eq_false_or_eq_true (atc c) with h2 | h2
        · rw [h2] at hst hcall
          rw [if_pos rfl] at hst
          have HST := Lib.hid hst
          clear l46 t46 n46 hstep hst he h h2 hc
          go_wp2_with fail
          refine (hcall _).mono ?_
          rintro e w' ⟨rfl, rfl⟩
          go_wp2_with fail
          go_roundw
          case rel => exact ⟨q + 1, c, by go_num, rfl, by omega, HST, by first | rfl | trivial⟩
          case measure => simp [intOf]; omega
        · rw [h2] at hst hcall
          have HST := Lib.hid (show dotP l = false from hst)
          clear l46 t46 n46 hstep hst he h h2 hc
          go_wp2_with fail
          refine (hcall _).mono ?_
          rintro e w' ⟨rfl, rfl⟩
          go_wp2_with fail
          go_ret
          exact ⟨ret_bool HST.out.symm, by first | rfl | trivial⟩
    · have hst : dotP l = (last != 46) := by rw [he.out, List.drop_of_length_le (by omega), dotGo]
      have HST := Lib.hid hst
      clear hst he
      go_wp2_with fail
      go_ret
      exact ⟨ret_bool (by rw [HST.out, bne, bne, l46]), by first | rfl | trivial⟩

set_option maxRecDepth 100000 in
set_option maxHeartbeats 1000000 in
theorem rlower_any (l : List UInt8) (w : World) (hl : l.length ≤ 1000000) :
    Calls Tryz.prog 76 #[.string (bs l)] w fun e w' => e = .returned (.string (bs (l.map small))) ∧ Below w.heap.size w w' := by
  have hpu : ∀ W, Sem.run Tryz.prog (pure #[] : Sem (Array Value)) W = .ok #[] W := fun _ => rfl
  have hst : ∀ a W, Sem.run Tryz.prog (storeCells a []) W = .ok () W := fun _ _ => rfl
  have hB0 : Below w.heap.size w (w.alloc (.cells #[] 5)) := (Below.refl _ _).alloc (Nat.le_refl _) _
  have hown0 := World.ownsRow_made (base := w.heap.size) (e := 5) (size := 1) w #[] 0 (Nat.le_refl _) (by unfold maxLen; omega) rfl
  go_enter Tryz.func76, Tryz.ntmps76
  go_wp2_with fail
  clear hpu hst
  go_loopw [3, 4] (fun v i wr => ∃ q : Nat, i = .int .i64 q ∧ q ≤ l.length ∧ wr.ownsRow w.heap.size 5 1 v q (((l.take q).map small).map bv) ∧ Below w.heap.size w wr) (fun _ i _ => l.length - (intOf i).toNat)
  case atStart => exact ⟨0, rfl, by omega, hown0, hB0⟩
  case round =>
    clear hown0 hB0
    obtain ⟨q, rfl, hq, hown, hB⟩ := hrel
    have hs1 := hB.size
    by_cases hlt : q < l.length
    · obtain ⟨c, hc⟩ : ∃ c, l[q]? = some c := ⟨_, List.getElem?_eq_getElem hlt⟩
      have hi := str_index (P := Tryz.prog) Tryz.underlying9 hc .i64
      have hst : ((l.take (q + 1)).map small).map bv = ((l.take q).map small).map bv ++ [bv (small c)] := by
        rw [take_succ_of hc]
        simp
      by_cases h : 65 ≤ c.toNat ∧ c.toNat ≤ 90
      · obtain ⟨h1, h2⟩ := h
        have k1 : (65 : Int) ≤ (c.toNat : Int) := by omega
        have k2 : (c.toNat : Int) ≤ 90 := by omega
        have hbv : bv (small c) = .int .u8 ((c.toNat : Int) + 32) := by unfold bv; rw [small_nat, if_pos ⟨h1, h2⟩]; congr 1
        rw [hbv] at hst
        have HST := Lib.hid hst
        clear hst hbv h1 h2 hc
        go_wp2_with (at_builtin; refine wpList_app rfl (.tmp 24) (.tmp 26) _ _ rfl TU8 (hown.alloc (.cells #[.int .u8 ((c.toNat : Int) + 32)] 5)) rfl (Src_rv (news := [.int .u8 ((c.toNat : Int) + 32)]) Tryz.underlying22 rfl (Rv_new wr _ _ _ rfl) (by simp [Value.oneCell', bv]) (by omega)) rfl (by omega) (by simp; omega) ?_; intro v1 y1 own1 gr1 at1; have bb1 := below_app (hB.alloc hs1 (.cells #[.int .u8 ((c.toNat : Int) + 32)] 5)) (hown.alloc _) gr1 (by simp; omega) (Nat.le_refl _); have bb1s := bb1.size)
        go_roundw
        case rel => exact ⟨q + 1, by go_num, by omega, by rw [HST.out]; exact own1, bb1⟩
        case measure => simp [intOf]; omega
      · have hbv : small c = c := by unfold small; rw [if_neg h]
        rw [hbv] at hst
        have HST := Lib.hid hst
        have k : ¬ (65 : Int) ≤ (c.toNat : Int) ∨ ((65 : Int) ≤ (c.toNat : Int) ∧ ¬ (c.toNat : Int) ≤ 90) := by omega
        clear hst hbv h hc
        rcases k with k1 | ⟨k1, k2⟩
        all_goals
          go_wp2_with (at_builtin; refine wpList_app rfl (.tmp 24) (.tmp 26) _ _ rfl TU8 (hown.alloc (.cells #[bv c] 5)) rfl (Src_rv (news := [bv c]) Tryz.underlying22 rfl (Rv_new wr _ _ _ rfl) (by simp [Value.oneCell', bv]) (by omega)) rfl (by omega) (by simp; omega) ?_; intro v1 y1 own1 gr1 at1; have bb1 := below_app (hB.alloc hs1 (.cells #[bv c] 5)) (hown.alloc _) gr1 (by simp; omega) (Nat.le_refl _); have bb1s := bb1.size)
          go_roundw
          case rel => exact ⟨q + 1, by go_num, by omega, by rw [HST.out]; exact own1, bb1⟩
          case measure => simp [intOf]; omega
    · obtain rfl : q = l.length := by omega
      rw [List.take_length] at hown
      obtain ⟨A, ca, rfl, hca, hcm, hRb, hol⟩ := own_slice hown
      have hcs := conv_str (P := Tryz.prog) (src := 22) (dst := 9) (c := ca) (n := l.length) Tryz.underlying22 Tryz.underlying5 Tryz.underlying9 hRb hol
      clear hown hRb hol
      go_wp2_with fail
      go_ret
      exact ⟨rfl, hB⟩
end Go.Proofs.YtddjabjloplhiaaGreatDoor
