/- The ids of a value: the program's Ids. · The document's Trim, Dotted, Lower. -/
import Derived.Test.YtkllecicddfjpaaGreatDoorJ46
import Derived.Test.YtkllecicddfjpaaGreatDoorJ07
namespace Go.Proofs.YtkllecicddfjpaaGreatDoor
namespace Tk
set_option linter.unusedVariables false
set_option linter.unusedSimpArgs false
open Go.RowKit

/-- what Ids hands back -/
def IdsOut (r : Except Nat (List (List UInt8))) (w : World) (e : Ending) (w' : World) : Prop := match r with
  | .ok ids => ∃ v, e = .returned (.tuple #[v, .int .i64 0]) ∧ w'.ownsRow w.heap.size 9 1 v ids.length (ids.map sv)
  | .error x => e = .returned (.tuple #[.slice none 0 0, .int .i64 (x : Int)])
theorem idsOut_err {r : Except Nat (List (List UInt8))} {w w' : World} {x : Nat} {e : Ending} (h : r = .error x) (he : e = .returned (.tuple #[.slice none 0 0, .int .i64 (x : Int)])) : IdsOut r w e w' := by rw [h]; exact he
theorem idsOut_ok {r : Except Nat (List (List UInt8))} {ids : List (List UInt8)} {w w' : World} {e : Ending} {v : Value} (h : r = .ok ids) (he : e = .returned (.tuple #[v, .int .i64 0])) (ho : w'.ownsRow w.heap.size 9 1 v ids.length (ids.map sv)) : IdsOut r w e w' := by
  rw [h]
  exact ⟨v, he, ho⟩
def strLen : Value → Nat | .string s => s.size | _ => 0
theorem tpre_any (l : List UInt8) (s : UInt8) (w : World) :
    Calls Tryz.prog 156 #[.string (bs l), .string ⟨#[s]⟩] w fun e w' => e = .returned (.string (bs (if Lib.hasPrefix l [s] then l.drop 1 else l))) ∧ w' = w := by
  have h := Tryz.strings_TrimPrefix (bs l) ⟨#[s]⟩ w
  rw [bs_toList] at h
  exact h
/-- what is told, ahead of the rest's ids -/
def idsFrom (d : List (List UInt8)) (u : List UInt8) : Except Nat (List (List UInt8)) := (idsIn u).map fun p => d ++ p
theorem idsFrom_0 (b : List UInt8) : idsIn b = idsFrom [] b := by
  unfold idsFrom
  cases idsIn b <;> simp [Except.map]
theorem idsFrom_end {d : List (List UInt8)} {u : List UInt8} (h : trimB u = []) : idsFrom d u = .ok d := by
  unfold idsFrom
  rw [idsIn_eq, h]
  simp [Except.map]
theorem idsFrom_not {d : List (List UInt8)} {u r : List UInt8} {c : UInt8} (h : trimB u = c :: r) (hc : c ≠ 60) : idsFrom d u = .error 3 := by
  unfold idsFrom
  rw [idsIn_eq, h]
  simp only
  rw [if_neg hc]
  rfl
theorem idsFrom_cut {d : List (List UInt8)} {u r : List UInt8} {c : UInt8} (h : trimB u = c :: r) (hc : c = 60) (hn : cutAt 62 r = none) : idsFrom d u = .error 3 := by
  unfold idsFrom
  rw [idsIn_eq, h]
  simp only
  rw [if_pos hc, hn]
  rfl
theorem idsFrom_bad {d : List (List UInt8)} {u r x t : List UInt8} {c : UInt8} (h : trimB u = c :: r) (hc : c = 60) (hn : cutAt 62 r = some (x, t)) (hx : onlyB idc x = false) : idsFrom d u = .error 3 := by
  unfold idsFrom
  rw [idsIn_eq, h]
  simp only
  rw [if_pos hc, hn]
  simp [hx, Except.map]
theorem idsFrom_one {d : List (List UInt8)} {u r x t : List UInt8} {c : UInt8} (h : trimB u = c :: r) (hc : c = 60) (hn : cutAt 62 r = some (x, t)) (hx : onlyB idc x = true) : idsFrom d u = idsFrom (d ++ [x]) t := by
  unfold idsFrom
  rw [idsIn_eq u, h]
  simp only
  rw [if_pos hc, hn]
  simp only [hx, if_true]
  cases idsIn t <;> simp [Except.map]

set_option maxRecDepth 100000 in
set_option maxHeartbeats 4000000 in
theorem tids_any (l : List UInt8) (w : World) (hw : Mx w) (hl : l.length ≤ 1000000) :
    Calls Tryz.prog 87 #[.string (bs l)] w fun e w' => IdsOut (idsP l) w e w' ∧ Below w.heap.size w w' := by
  have hb := bare_any l w (by omega)
  cases hbp : bareP l with
  | error k =>
    have hk : ((k : Int) != 0) = true := by have := bareP_err _ _ _ (Nat.le_refl _) hbp; rw [bne_iff_ne]; omega
    have hr : idsP l = .error k := by unfold idsP; rw [hbp]
    have HR := Lib.hid hr
    rw [hbp] at hb
    have hb' : Calls Tryz.prog 130 #[.string (bs l)] w fun e w' => e = .returned (.tuple #[.string (bs []), .int .i64 (k : Int)]) ∧ Below w.heap.size w w' := hb
    clear hb hbp hr
    go_enter Tryz.func87, Tryz.ntmps87
    go_wp2_with fail
    refine hb'.mono ?_
    rintro e w1 ⟨rfl, hb1⟩
    go_wp2_with fail
    go_ret2
    exact ⟨idsOut_err HR.out rfl, hb1⟩
  | ok b =>
    have hbl := bareP_len _ _ _ (Nat.le_refl _) hbp
    have hr : idsP l = idsIn b := by unfold idsP; rw [hbp]
    rw [idsFrom_0] at hr
    have HR := Lib.hid hr
    rw [hbp] at hb
    have hb' : Calls Tryz.prog 130 #[.string (bs l)] w fun e w' => e = .returned (.tuple #[.string (bs b), .int .i64 0]) ∧ Below w.heap.size w w' := hb
    have hbb : b.length ≤ 1000000 := by omega
    clear hb hbp hr
    go_enter Tryz.func87, Tryz.ntmps87
    go_wp2_with fail
    refine hb'.mono ?_
    rintro e w1 ⟨rfl, hb1⟩
    go_wp2_with fail
    refine (tktrim_any b _ (by omega)).mono ?_
    rintro e w2 ⟨rfl, hb2⟩
    have hB2 := hb1.trans (hb2.mono hb1.size)
    clear hb1 hb2 hb'
    go_wp2_with fail
    go_loopw [0, 2] (fun s0 v wr => ∃ (u : List UInt8) (k : Nat) (d : List (List UInt8)), s0 = .string (bs (trimB u)) ∧ k + u.length ≤ b.length ∧ Hid (idsP l = idsFrom d u) ∧ wr.ownsRow w.heap.size 9 1 v k (d.map sv) ∧ Below w.heap.size w wr) (fun s0 _ _ => strLen s0)
    case atStart => exact ⟨b, 0, [], rfl, by omega, HR, World.ownsRow_nil _ _ _ _, hB2⟩
    case round =>
      clear HR hB2
      obtain ⟨u, k, d, rfl, hku, he, hown, hB⟩ := hrel
      have hs := hB.size
      have htl := trimB_len u
      cases ht : trimB u with
      | nil =>
        have HST := Lib.hid (he.out.trans (idsFrom_end ht))
        have hk2 : d.length = k := by have : (d.map sv).length = k * 1 := hown.1; simpa using this
        clear he ht htl
        go_wp2_with fail
        go_ret2
        exact ⟨idsOut_ok HST.out rfl (by rw [hk2]; exact hown), hB⟩
      | cons c r =>
        rw [ht] at htl
        simp only [List.length_cons] at htl
        have hi0 : ∀ W, (Instr.index 9 (.string (bs (c :: r))) (.int .i64 0)).run Tryz.prog W = .ok (.int .u8 (c.toNat : Int)) W := fun W => str_index (P := Tryz.prog) Tryz.underlying9 (k := 0) (x := c) rfl .i64 W
        have hpre := fun W => tpre_any (c :: r) 60 W
        by_cases hc : c = 60
        · have hne : ((c.toNat : Int) != 60) = false := by rw [hc]; rfl
          have hp1 : Lib.hasPrefix (c :: r) [60] = true := by rw [hc]; simp [Lib.hasPrefix, List.isPrefixOf]
          rw [hp1] at hpre
          simp only [if_true, List.drop_one, List.tail_cons] at hpre
          have hcut := fun W hW => cut_any r 62 W hW (by omega)
          unfold cutV at hcut
          cases hcc : cutAt 62 r with
          | none =>
            rw [hcc] at hcut
            have HST := Lib.hid (he.out.trans (idsFrom_cut ht hc hcc))
            clear he ht hc hp1 hcc
            go_wp2_with fail
            refine (hpre _).mono ?_
            rintro e w3 ⟨rfl, rfl⟩
            go_wp2_with fail
            refine (hcut _ (hw.below hB)).mono ?_
            rintro e w4 ⟨rfl, hb4⟩
            go_wp2_with fail
            go_ret2
            exact ⟨idsOut_err HST.out rfl, hB.trans (hb4.mono hs)⟩
          | some xt =>
            obtain ⟨x, t⟩ := xt
            have hxl := cutAt_len hcc
            rw [hcc] at hcut
            have hon := fun W => only_ids x W (by omega)
            rcases Bool.eq_false_or_eq_true (onlyB idc x) with hx | hx
            · have HST := Lib.hid (he.out.trans (idsFrom_one ht hc hcc hx))
              have htr := fun W => tktrim_any t W (by omega)
              have htt := trimB_len t
              rw [hx] at hon
              clear he ht hc hp1 hcc hx
              go_wp2_with fail
              refine (hpre _).mono ?_
              rintro e w3 ⟨rfl, rfl⟩
              go_wp2_with fail
              refine (hcut _ (hw.below hB)).mono ?_
              rintro e w4 ⟨rfl, hb4⟩
              have hB4 := hB.trans (hb4.mono hs)
              have hown4 := own_below hown hb4
              clear hb4
              go_wp2_with fail
              refine (hon _).mono ?_
              rintro e w5 ⟨rfl, hb5⟩
              have hB5 := hB4.trans (hb5.mono hB4.size)
              have hs5 := hB5.size
              have hown5 := own_below hown4 hb5
              clear hb5 hown4 hown hB4
              go_wp2_with (at_builtin; refine wpList_app rfl (.tmp 40) (.tmp 42) _ _ rfl TStr (hown5.alloc (.cells #[sv x] 9)) rfl (Src_rv (news := [sv x]) Tryz.underlying65 rfl (Rv_new w5 _ _ _ rfl) (by simp [Value.oneCell', sv]) (by omega)) rfl (by omega) (by simp; omega) ?_; intro v6 w6 hown6 hgr6 hat6; have hB6 := below_app (hB5.alloc hs5 (.cells #[sv x] 9)) (hown5.alloc _) hgr6 (by simp; omega) (Nat.le_refl _); have hs6 := hB6.size)
              refine (htr _).mono ?_
              rintro e w7 ⟨rfl, hb7⟩
              have hown7 := own_below hown6 hb7
              have hB7 := hB6.trans (hb7.mono hs6)
              go_wp2_with fail
              go_roundw
              case rel => exact ⟨t, k + 1, d ++ [x], rfl, by omega, HST, by rw [List.map_append]; exact hown7, hB7⟩
              case measure => simp [strLen]; omega
            · have HST := Lib.hid (he.out.trans (idsFrom_bad ht hc hcc hx))
              rw [hx] at hon
              clear he ht hc hp1 hcc hx
              go_wp2_with fail
              refine (hpre _).mono ?_
              rintro e w3 ⟨rfl, rfl⟩
              go_wp2_with fail
              refine (hcut _ (hw.below hB)).mono ?_
              rintro e w4 ⟨rfl, hb4⟩
              have hB4 := hB.trans (hb4.mono hs)
              go_wp2_with fail
              refine (hon _).mono ?_
              rintro e w5 ⟨rfl, hb5⟩
              go_wp2_with fail
              go_ret2
              exact ⟨idsOut_err HST.out rfl, hB4.trans (hb5.mono hB4.size)⟩
        · have hne : ((c.toNat : Int) != 60) = true := by
            have := u8_bne c 60
            rw [show ((c.toNat : Int) != 60) = (c != 60) from this]
            simp [hc]
          have hp1 : Lib.hasPrefix (c :: r) [60] = false := by
            have : ((60 : UInt8) == c) = false := by rw [beq_eq_false_iff_ne]; exact Ne.symm hc
            simp [Lib.hasPrefix, List.isPrefixOf, this]
          rw [hp1] at hpre
          simp only [Bool.false_eq_true, if_false] at hpre
          have HST := Lib.hid (he.out.trans (idsFrom_not ht hc))
          have hcut := fun W hW => cut_any (c :: r) 62 W hW (by simp; omega)
          generalize cutV 62 (c :: r) = cv at *
          obtain ⟨ca, cb, cf⟩ := cv
          simp only at hcut
          clear he ht hc hp1
          cases cf
          all_goals
            go_wp2_with fail
            refine (hpre _).mono ?_
            rintro e w3 ⟨rfl, rfl⟩
            go_wp2_with fail
            refine (hcut _ (hw.below hB)).mono ?_
            rintro e w4 ⟨rfl, hb4⟩
            go_wp2_with fail
            go_ret2
            exact ⟨idsOut_err HST.out rfl, hB.trans (hb4.mono hs)⟩
end Tk
end Go.Proofs.YtkllecicddfjpaaGreatDoor

namespace Go.Proofs.YtkllecicddfjpaaGreatDoor
namespace Tk
set_option linter.unusedVariables false
set_option linter.unusedSimpArgs false
open Go.RowKit

theorem trimB_left {c : UInt8} {r : List UInt8} (h : blk c = true) : trimB (c :: r) = trimB r := by
  rw [trimB_def, trimB_def, List.reverse_cons, List.dropWhile_append]
  by_cases he : (r.reverse.dropWhile blk).isEmpty = true
  · rw [if_pos he]
    have : r.reverse.dropWhile blk = [] := by simpa using he
    rw [this]
    simp [h]
  · rw [if_neg he, List.reverse_append]
    simp [h]
theorem trimB_right {c : UInt8} {v : List UInt8} (h : blk c = true) : trimB (v ++ [c]) = trimB v := by
  rw [trimB_def, trimB_def, List.reverse_append]
  simp [h]
theorem trimB_self {u : List UInt8} (h1 : ∀ x, u.head? = some x → blk x = false) (h2 : ∀ x, u.getLast? = some x → blk x = false) : trimB u = u := by
  rw [trimB_def]
  have e1 : u.reverse.dropWhile blk = u.reverse := by
    cases hr : u.reverse with
    | nil => rfl
    | cons x r =>
      have : u.getLast? = some x := by rw [List.getLast?_eq_head?_reverse, hr]; rfl
      rw [List.dropWhile_cons_of_neg (by rw [h2 x this]; simp)]
  rw [e1, List.reverse_reverse]
  cases u with
  | nil => rfl
  | cons x r => rw [List.dropWhile_cons_of_neg (by rw [h1 x rfl]; simp)]
theorem trimB_nil : trimB [] = [] := rfl
theorem blk_tests (c : UInt8) : (blk c = true ∧ ((c.toNat : Int) == 32) = true) ∨ (blk c = true ∧ ((c.toNat : Int) == 32) = false ∧ ((c.toNat : Int) == 9) = true) ∨ (blk c = false ∧ ((c.toNat : Int) == 32) = false ∧ ((c.toNat : Int) == 9) = false) := by
  rcases blk_cases c with ⟨h, k | ⟨k, k2⟩⟩ | ⟨h, k, k2⟩
  · exact .inl ⟨h, by simpa using k⟩
  · exact .inr (.inl ⟨h, by simpa using k, by simpa using k2⟩)
  · exact .inr (.inr ⟨h, by simpa using k, by simpa using k2⟩)

set_option maxRecDepth 100000 in
set_option maxHeartbeats 2000000 in
theorem rtrim_any (l : List UInt8) (w : World) (hl : l.length ≤ 1000000000) :
    Calls Tryz.prog 57 #[.string (bs l)] w fun e w' => e = .returned (.string (bs (trimB l))) ∧ w' = w := by
  go_enter Tryz.func57, Tryz.ntmps57
  go_wp2_with fail
  go_loopw [0] (fun s0 wr => ∃ u : List UInt8, s0 = .string (bs u) ∧ u.length ≤ l.length ∧ Hid (trimB l = trimB u) ∧ wr = w) (fun s0 _ => strLen s0)
  case atStart => exact ⟨l, rfl, by omega, Lib.hid rfl, rfl⟩
  case round =>
    obtain ⟨u, rfl, hul, he, rfl⟩ := hrel
    have leave : ∀ u : List UInt8, (∀ x, u.head? = some x → blk x = false) → True := fun _ _ => trivial
    cases u with
    | nil =>
      have HE := Lib.hid (he.out.trans trimB_nil)
      clear he
      go_wp2_with fail
      go_loopw [0] (fun s0 wr2 => s0 = .string (bs []) ∧ wr2 = wr) (fun s0 _ => strLen s0)
      case atStart => exact ⟨rfl, rfl⟩
      case round =>
        obtain ⟨rfl, rfl⟩ := hrel
        go_wp2_with fail
        go_ret
        exact ⟨by rw [HE.out]; rfl, by first | rfl | trivial⟩
    | cons c r =>
      have hi0 : ∀ W, (Instr.index 9 (.string (bs (c :: r))) (.int .i64 0)).run Tryz.prog W = .ok (.int .u8 (c.toNat : Int)) W := fun W => str_index (P := Tryz.prog) Tryz.underlying9 (k := 0) (x := c) rfl .i64 W
      simp only [List.length_cons] at hul
      rcases blk_tests c with ⟨h, k⟩ | ⟨h, k, k2⟩ | ⟨h, k, k2⟩
      · have HE := Lib.hid (he.out.trans (trimB_left h))
        clear he h
        go_wp2_with fail
        go_roundw
        case rel => exact ⟨r, by simp, by omega, HE, by first | rfl | trivial⟩
        case measure => simp [strLen]
      · have HE := Lib.hid (he.out.trans (trimB_left h))
        clear he h
        go_wp2_with fail
        go_roundw
        case rel => exact ⟨r, by simp, by omega, HE, by first | rfl | trivial⟩
        case measure => simp [strLen]
      · have HH := Lib.hid (show ∀ x, (c :: r).head? = some x → blk x = false from fun x hx => by cases hx; exact h)
        have hul2 : (c :: r).length ≤ l.length := by simpa using hul
        obtain ⟨u, hu⟩ : ∃ u, c :: r = u := ⟨_, rfl⟩
        rw [hu] at HH he hi0 hul2 ⊢
        have hun : 0 < u.length := by rw [← hu]; simp
        clear hu h hul
        go_wp2_with fail
        go_loopw [0] (fun s0 wr2 => ∃ v : List UInt8, s0 = .string (bs v) ∧ v.length ≤ l.length ∧ Hid (trimB l = trimB v) ∧ Hid (∀ x, v.head? = some x → blk x = false) ∧ wr2 = wr) (fun s0 _ => strLen s0)
        case atStart => exact ⟨u, rfl, hul2, he, HH, rfl⟩
        case round =>
          clear he HH hi0 hul2 hun
          obtain ⟨v, rfl, hvl, he, hh, rfl⟩ := hrel
          rcases List.eq_nil_or_concat v with rfl | ⟨v', c', rfl⟩
          · have HE := Lib.hid (he.out.trans trimB_nil)
            clear he
            go_wp2_with fail
            go_ret
            exact ⟨by rw [HE.out]; rfl, by first | rfl | trivial⟩
          · rw [List.concat_eq_append] at hvl he hh ⊢
            simp only [List.length_append, List.length_cons, List.length_nil] at hvl
            have hj : ∀ W, (Instr.index 9 (.string (bs (v' ++ [c']))) (.int .i64 (v'.length : Int))).run Tryz.prog W = .ok (.int .u8 (c'.toNat : Int)) W := fun W => str_index (P := Tryz.prog) Tryz.underlying9 (k := v'.length) (x := c') (by simp) .i64 W
            have hj2 : ∀ W, (Instr.index 9 (.string (bs (v' ++ [c']))) (.int .i64 ((v'.length : Int) + 1 - 1))).run Tryz.prog W = .ok (.int .u8 (c'.toNat : Int)) W := fun W => by
              rw [Int.add_sub_cancel]
              exact hj W
            have f5 : (0 : Int) ≤ (v'.length : Int) + 1 - 1 := by omega
            have f6 : (v'.length : Int) + 1 - 1 ≤ (v'.length : Int) + 1 := by omega
            rcases blk_tests c' with ⟨h, k⟩ | ⟨h, k, k2⟩ | ⟨h, k, k2⟩
            · have HE := Lib.hid (he.out.trans (trimB_right h))
              have HH := Lib.hid (show ∀ x, v'.head? = some x → blk x = false from fun x hx => hh.out x (by cases v' with | nil => cases hx | cons y t => exact hx))
              clear he h hh
              go_wp2_with fail
              go_roundw
              case rel => exact ⟨v', by simp, by omega, HE, HH, by first | rfl | trivial⟩
              case measure => simp [strLen]
            · have HE := Lib.hid (he.out.trans (trimB_right h))
              have HH := Lib.hid (show ∀ x, v'.head? = some x → blk x = false from fun x hx => hh.out x (by cases v' with | nil => cases hx | cons y t => exact hx))
              clear he h hh
              go_wp2_with fail
              go_roundw
              case rel => exact ⟨v', by simp, by omega, HE, HH, by first | rfl | trivial⟩
              case measure => simp [strLen]
            · have HE := Lib.hid (he.out.trans (trimB_self hh.out (fun x hx => by simp at hx; rw [← hx]; exact h)))
              clear he h hh
              go_wp2_with fail
              go_ret
              exact ⟨by rw [HE.out]; rfl, by first | rfl | trivial⟩

set_option maxRecDepth 100000 in
set_option maxHeartbeats 1000000 in
theorem rdotted_any (l : List UInt8) (w : World) (hl : l.length ≤ 1000000000) :
    Calls Tryz.prog 58 #[.string (bs l)] w fun e w' => e = .returned (.bool (dotP l)) ∧ w' = w := by
  have H0 := Lib.hid (show dotP l = dotGo 46 (l.drop 0) by rw [List.drop_zero, dot_eq])
  go_enter Tryz.func58, Tryz.ntmps58
  go_wp2_with fail
  go_loopw [3, 4] (fun s3 i wr => ∃ (q : Nat) (last : UInt8), i = .int .i64 q ∧ s3 = .int .u8 (last.toNat : Int) ∧ q ≤ l.length ∧ Hid (dotP l = dotGo last (l.drop q)) ∧ wr = w) (fun _ i _ => l.length - (intOf i).toNat)
  case atStart => exact ⟨0, 46, rfl, rfl, by omega, H0, rfl⟩
  case round =>
    clear H0
    obtain ⟨q, last, rfl, rfl, hq, he, rfl⟩ := hrel
    have l46 : ((last.toNat : Int) == 46) = (last == 46) := u8_test last 46 rfl
    by_cases hlt : q < l.length
    · obtain ⟨c, hc⟩ : ∃ c, l[q]? = some c := ⟨_, List.getElem?_eq_getElem hlt⟩
      have hi := str_index (P := Tryz.prog) Tryz.underlying9 hc .i64
      have t46 : ((c.toNat : Int) == 46) = (c == 46) := u8_test c 46 rfl
      have n46 : ((c.toNat : Int) != 46) = (c != 46) := by rw [bne, t46]; rfl
      have hstep : dotGo last (l.drop q) = if c = 46 then (if last = 46 then false else dotGo 46 (l.drop (q + 1))) else if atc c then dotGo c (l.drop (q + 1)) else false := by
        rw [drop_at hc, dotGo]
      have hst := he.out.trans hstep
      by_cases h : c = 46
      · rw [if_pos h] at hst
        have hb : ((c.toNat : Int) == 46) = true := by rw [t46, h]; rfl
        have hb2 : ((c.toNat : Int) != 46) = false := by rw [n46, h]; rfl
        by_cases h2 : last = 46
        · rw [if_pos h2] at hst
          have HST := Lib.hid hst
          have hb3 : ((last.toNat : Int) == 46) = true := by rw [l46, h2]; rfl
          clear l46 t46 n46 hstep hst he h h2 hc
          go_wp2_with fail
          go_ret
          exact ⟨ret_bool HST.out.symm, by first | rfl | trivial⟩
        · rw [if_neg h2] at hst
          rw [← h] at hst
          have HST := Lib.hid hst
          have hb3 : ((last.toNat : Int) == 46) = false := by rw [l46]; simp [h2]
          clear l46 t46 n46 hstep hst he h h2 hc
          go_wp2_with fail
          go_roundw
          case rel => exact ⟨q + 1, c, by go_num, rfl, by omega, HST, by first | rfl | trivial⟩
          case measure => simp [intOf]; omega
      · rw [if_neg h] at hst
        have hb : ((c.toNat : Int) == 46) = false := by rw [t46]; simp [h]
        have hb2 : ((c.toNat : Int) != 46) = true := by rw [n46]; simp [h]
        have hcall := rplain_any c
        rcases Bool.eq_false_or_eq_true (atc c) with h2 | h2
        · rw [h2] at hst hcall
          rw [if_pos rfl] at hst
          have HST := Lib.hid hst
          clear l46 t46 n46 hstep hst he h h2 hc
          go_wp2_with fail
          refine (hcall _).mono ?_
          rintro e w' ⟨rfl, rfl⟩
          go_wp2_with fail
          go_roundw
          case rel => exact ⟨q + 1, c, by go_num, rfl, by omega, HST, by first | rfl | trivial⟩
          case measure => simp [intOf]; omega
        · rw [h2] at hst hcall
          have HST := Lib.hid (show dotP l = false from hst)
          clear l46 t46 n46 hstep hst he h h2 hc
          go_wp2_with fail
          refine (hcall _).mono ?_
          rintro e w' ⟨rfl, rfl⟩
          go_wp2_with fail
          go_ret
          exact ⟨ret_bool HST.out.symm, by first | rfl | trivial⟩
    · have hst : dotP l = (last != 46) := by rw [he.out, List.drop_of_length_le (by omega), dotGo]
      have HST := Lib.hid hst
      clear hst he
      go_wp2_with fail
      go_ret
      exact ⟨ret_bool (by rw [HST.out, bne, bne, l46]), by first | rfl | trivial⟩

set_option maxRecDepth 100000 in
set_option maxHeartbeats 1000000 in
theorem rlower_any (l : List UInt8) (w : World) (hl : l.length ≤ 1000000) :
    Calls Tryz.prog 59 #[.string (bs l)] w fun e w' => e = .returned (.string (bs (l.map small))) ∧ Below w.heap.size w w' := by
  have hpu : ∀ W, Sem.run Tryz.prog (pure #[] : Sem (Array Value)) W = .ok #[] W := fun _ => rfl
  have hst : ∀ a W, Sem.run Tryz.prog (storeCells a []) W = .ok () W := fun _ _ => rfl
  have hB0 : Below w.heap.size w (w.alloc (.cells #[] 5)) := (Below.refl _ _).alloc (Nat.le_refl _) _
  have hown0 := World.ownsRow_made (base := w.heap.size) (e := 5) (size := 1) w #[] 0 (Nat.le_refl _) (by unfold maxLen; omega) rfl
  go_enter Tryz.func59, Tryz.ntmps59
  go_wp2_with fail
  clear hpu hst
  go_loopw [3, 4] (fun v i wr => ∃ q : Nat, i = .int .i64 q ∧ q ≤ l.length ∧ wr.ownsRow w.heap.size 5 1 v q (((l.take q).map small).map bv) ∧ Below w.heap.size w wr) (fun _ i _ => l.length - (intOf i).toNat)
  case atStart => exact ⟨0, rfl, by omega, hown0, hB0⟩
  case round =>
    clear hown0 hB0
    obtain ⟨q, rfl, hq, hown, hB⟩ := hrel
    have hs1 := hB.size
    by_cases hlt : q < l.length
    · obtain ⟨c, hc⟩ : ∃ c, l[q]? = some c := ⟨_, List.getElem?_eq_getElem hlt⟩
      have hi := str_index (P := Tryz.prog) Tryz.underlying9 hc .i64
      have hst : ((l.take (q + 1)).map small).map bv = ((l.take q).map small).map bv ++ [bv (small c)] := by
        rw [take_succ_of hc]
        simp
      by_cases h : 65 ≤ c.toNat ∧ c.toNat ≤ 90
      · obtain ⟨h1, h2⟩ := h
        have k1 : (65 : Int) ≤ (c.toNat : Int) := by omega
        have k2 : (c.toNat : Int) ≤ 90 := by omega
        have hbv : bv (small c) = .int .u8 ((c.toNat : Int) + 32) := by unfold bv; rw [small_nat, if_pos ⟨h1, h2⟩]; congr 1
        rw [hbv] at hst
        have HST := Lib.hid hst
        clear hst hbv h1 h2 hc
        go_wp2_with (at_builtin; refine wpList_app rfl (.tmp 24) (.tmp 26) _ _ rfl TU8 (hown.alloc (.cells #[.int .u8 ((c.toNat : Int) + 32)] 5)) rfl (Src_rv (news := [.int .u8 ((c.toNat : Int) + 32)]) Tryz.underlying22 rfl (Rv_new wr _ _ _ rfl) (by simp [Value.oneCell', bv]) (by omega)) rfl (by omega) (by simp; omega) ?_; intro v1 y1 own1 gr1 at1; have bb1 := below_app (hB.alloc hs1 (.cells #[.int .u8 ((c.toNat : Int) + 32)] 5)) (hown.alloc _) gr1 (by simp; omega) (Nat.le_refl _); have bb1s := bb1.size)
        go_roundw
        case rel => exact ⟨q + 1, by go_num, by omega, by rw [HST.out]; exact own1, bb1⟩
        case measure => simp [intOf]; omega
      · have hbv : small c = c := by unfold small; rw [if_neg h]
        rw [hbv] at hst
        have HST := Lib.hid hst
        have k : ¬ (65 : Int) ≤ (c.toNat : Int) ∨ ((65 : Int) ≤ (c.toNat : Int) ∧ ¬ (c.toNat : Int) ≤ 90) := by omega
        clear hst hbv h hc
        rcases k with k1 | ⟨k1, k2⟩
        all_goals
          go_wp2_with (at_builtin; refine wpList_app rfl (.tmp 24) (.tmp 26) _ _ rfl TU8 (hown.alloc (.cells #[bv c] 5)) rfl (Src_rv (news := [bv c]) Tryz.underlying22 rfl (Rv_new wr _ _ _ rfl) (by simp [Value.oneCell', bv]) (by omega)) rfl (by omega) (by simp; omega) ?_; intro v1 y1 own1 gr1 at1; have bb1 := below_app (hB.alloc hs1 (.cells #[bv c] 5)) (hown.alloc _) gr1 (by simp; omega) (Nat.le_refl _); have bb1s := bb1.size)
          go_roundw
          case rel => exact ⟨q + 1, by go_num, by omega, by rw [HST.out]; exact own1, bb1⟩
          case measure => simp [intOf]; omega
    · obtain rfl : q = l.length := by omega
      rw [List.take_length] at hown
      obtain ⟨A, ca, rfl, hca, hcm, hRb, hol⟩ := own_slice hown
      have hcs := conv_str (P := Tryz.prog) (src := 22) (dst := 9) (c := ca) (n := l.length) Tryz.underlying22 Tryz.underlying5 Tryz.underlying9 hRb hol
      clear hown hRb hol
      go_wp2_with fail
      go_ret
      exact ⟨rfl, hB⟩
end Tk
end Go.Proofs.YtkllecicddfjpaaGreatDoor
