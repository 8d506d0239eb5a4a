/- The ids of a value: the program's Ids. -/
import Derived.Test.YtnmkapaphbaomaaDoorU9
import Derived.Test.YtnmkapaphbaomaaDoorP22
namespace Go.Proofs.YtnmkapaphbaomaaDoor
set_option linter.unusedVariables false
set_option linter.unusedSimpArgs false
open Go.RowKit

/-- what Ids hands back -/
def IdsOut (r : Except Nat (List (List UInt8))) (w : World) (e : Ending) (w' : World) : Prop := match r with
  | .ok ids => ∃ v, e = .returned (.tuple #[v, .int .i64 0]) ∧ w'.ownsRow w.heap.size 9 1 v ids.length (ids.map sv)
  | .error x => e = .returned (.tuple #[.slice none 0 0, .int .i64 (x : Int)])
theorem idsOut_err {r : Except Nat (List (List UInt8))} {w w' : World} {x : Nat} {e : Ending} (h : r = .error x) (he : e = .returned (.tuple #[.slice none 0 0, .int .i64 (x : Int)])) : IdsOut r w e w' := by rw [h]; exact he
theorem idsOut_ok {r : Except Nat (List (List UInt8))} {ids : List (List UInt8)} {w w' : World} {e : Ending} {v : Value} (h : r = .ok ids) (he : e = .returned (.tuple #[v, .int .i64 0])) (ho : w'.ownsRow w.heap.size 9 1 v ids.length (ids.map sv)) : IdsOut r w e w' := by
  rw [h]
  exact ⟨v, he, ho⟩
def strLen : Value → Nat | .string s => s.size | _ => 0
theorem tpre_any (l : List UInt8) (s : UInt8) (w : World) :
    Calls Tryd.prog 33 #[.string (bs l), .string ⟨#[s]⟩] w fun e w' => e = .returned (.string (bs (if Lib.hasPrefix l [s] then l.drop 1 else l))) ∧ w' = w := by
  have h := Tryd.strings_TrimPrefix (bs l) ⟨#[s]⟩ w
  rw [bs_toList] at h
  exact h
/-- what is told, ahead of the rest's ids -/
def idsFrom (d : List (List UInt8)) (u : List UInt8) : Except Nat (List (List UInt8)) := (idsIn u).map fun p => d ++ p
theorem idsFrom_0 (b : List UInt8) : idsIn b = idsFrom [] b := by
  unfold idsFrom
  cases idsIn b <;> simp [Except.map]
theorem idsFrom_end {d : List (List UInt8)} {u : List UInt8} (h : trimB u = []) : idsFrom d u = .ok d := by
  unfold idsFrom
  rw [idsIn_eq, h]
  simp [Except.map]
theorem idsFrom_not {d : List (List UInt8)} {u r : List UInt8} {c : UInt8} (h : trimB u = c :: r) (hc : c ≠ 60) : idsFrom d u = .error 3 := by
  unfold idsFrom
  rw [idsIn_eq, h]
  simp only
  rw [if_neg hc]
  rfl
theorem idsFrom_cut {d : List (List UInt8)} {u r : List UInt8} {c : UInt8} (h : trimB u = c :: r) (hc : c = 60) (hn : cutAt 62 r = none) : idsFrom d u = .error 3 := by
  unfold idsFrom
  rw [idsIn_eq, h]
  simp only
  rw [if_pos hc, hn]
  rfl
theorem idsFrom_bad {d : List (List UInt8)} {u r x t : List UInt8} {c : UInt8} (h : trimB u = c :: r) (hc : c = 60) (hn : cutAt 62 r = some (x, t)) (hx : onlyB idc x = false) : idsFrom d u = .error 3 := by
  unfold idsFrom
  rw [idsIn_eq, h]
  simp only
  rw [if_pos hc, hn]
  simp [hx, Except.map]
theorem idsFrom_one {d : List (List UInt8)} {u r x t : List UInt8} {c : UInt8} (h : trimB u = c :: r) (hc : c = 60) (hn : cutAt 62 r = some (x, t)) (hx : onlyB idc x = true) : idsFrom d u = idsFrom (d ++ [x]) t := by
  unfold idsFrom
  rw [idsIn_eq u, h]
  simp only
  rw [if_pos hc, hn]
  simp only [hx, if_true]
  cases idsIn t <;> simp [Except.map]

set_option maxRecDepth 100000 in
set_option maxHeartbeats 4000000 in
theorem tids_any (l : List UInt8) (w : World) (hw : Mx w) (hl : l.length ≤ 1000000) :
    Calls Tryd.prog 13 #[.string (bs l)] w fun e w' => IdsOut (idsP l) w e w' ∧ Below w.heap.size w w' := by
  have hb := bare_any l w hl
  cases hbp : bareP l with
  | error k =>
    have hk : ((k : Int) != 0) = true := by have := bareP_err _ _ _ (Nat.le_refl _) hbp; rw [bne_iff_ne]; omega
    have hr : idsP l = .error k := by unfold idsP; rw [hbp]
    have HR := Lib.hid hr
    rw [hbp] at hb
    have hb' : Calls Tryd.prog 7 #[.string (bs l)] w fun e w' => e = .returned (.tuple #[.string (bs []), .int .i64 (k : Int)]) ∧ Below w.heap.size w w' := hb
    clear hb hbp hr
    go_enter Tryd.func13, Tryd.ntmps13
    go_wp2_with fail
    refine hb'.mono ?_
    rintro e w1 ⟨rfl, hb1⟩
    go_wp2_with fail
    go_ret2
    exact ⟨idsOut_err HR.out rfl, hb1⟩
  | ok b =>
    have hbl := bareP_len _ _ _ (Nat.le_refl _) hbp
    have hr : idsP l = idsIn b := by unfold idsP; rw [hbp]
    rw [idsFrom_0] at hr
    have HR := Lib.hid hr
    rw [hbp] at hb
    have hb' : Calls Tryd.prog 7 #[.string (bs l)] w fun e w' => e = .returned (.tuple #[.string (bs b), .int .i64 0]) ∧ Below w.heap.size w w' := hb
    have hbb : b.length ≤ 1000000 := by omega
    clear hb hbp hr
    go_enter Tryd.func13, Tryd.ntmps13
    go_wp2_with fail
    refine hb'.mono ?_
    rintro e w1 ⟨rfl, hb1⟩
    go_wp2_with fail
    refine (tktrim_any b _ (by omega)).mono ?_
    rintro e w2 ⟨rfl, hb2⟩
    have hB2 := hb1.trans (hb2.mono hb1.size)
    clear hb1 hb2 hb'
    go_wp2_with fail
    go_loopw [0, 2] (fun s0 v wr => ∃ (u : List UInt8) (k : Nat) (d : List (List UInt8)), s0 = .string (bs (trimB u)) ∧ k + u.length ≤ b.length ∧ Hid (idsP l = idsFrom d u) ∧ wr.ownsRow w.heap.size 9 1 v k (d.map sv) ∧ Below w.heap.size w wr) (fun s0 _ _ => strLen s0)
    case atStart => exact ⟨b, 0, [], rfl, by omega, HR, World.ownsRow_nil _ _ _ _, hB2⟩
    case round =>
      clear HR hB2
      obtain ⟨u, k, d, rfl, hku, he, hown, hB⟩ := hrel
      have hs := hB.size
      have htl := trimB_len u
      cases ht : trimB u with
      | nil =>
        have HST := Lib.hid (he.out.trans (idsFrom_end ht))
        have hk2 : d.length = k := by have : (d.map sv).length = k * 1 := hown.1; simpa using this
        clear he ht htl
        go_wp2_with fail
        go_ret2
        exact ⟨idsOut_ok HST.out rfl (by rw [hk2]; exact hown), hB⟩
      | cons c r =>
        rw [ht] at htl
        simp only [List.length_cons] at htl
        have hi0 : ∀ W, (Instr.index 9 (.string (bs (c :: r))) (.int .i64 0)).run Tryd.prog W = .ok (.int .u8 (c.toNat : Int)) W := fun W => str_index (P := Tryd.prog) Tryd.underlying9 (k := 0) (x := c) rfl .i64 W
        have hpre := fun W => tpre_any (c :: r) 60 W
        by_cases hc : c = 60
        · have hne : ((c.toNat : Int) != 60) = false := by rw [hc]; rfl
          have hp1 : Lib.hasPrefix (c :: r) [60] = true := by rw [hc]; simp [Lib.hasPrefix, List.isPrefixOf]
          rw [hp1] at hpre
          simp only [if_true, List.drop_one, List.tail_cons] at hpre
          have hcut := fun W hW => cut_any r 62 W hW (by omega)
          unfold cutV at hcut
          cases hcc : cutAt 62 r with
          | none =>
            rw [hcc] at hcut
            have HST := Lib.hid (he.out.trans (idsFrom_cut ht hc hcc))
            clear he ht hc hp1 hcc
            go_wp2_with fail
            refine (hpre _).mono ?_
            rintro e w3 ⟨rfl, rfl⟩
            go_wp2_with fail
            refine (hcut _ (hw.below hB)).mono ?_
            rintro e w4 ⟨rfl, hb4⟩
            go_wp2_with fail
            go_ret2
            exact ⟨idsOut_err HST.out rfl, hB.trans (hb4.mono hs)⟩
          | some xt =>
            obtain ⟨x, t⟩ := xt
            have hxl := cutAt_len hcc
            rw [hcc] at hcut
            have hon := fun W => only_ids x W (by omega)
            rcases Bool.eq_false_or_eq_true (onlyB idc x) with hx | hx
            · have HST := Lib.hid (he.out.trans (idsFrom_one ht hc hcc hx))
              have htr := fun W => tktrim_any t W (by omega)
              have htt := trimB_len t
              rw [hx] at hon
              clear he ht hc hp1 hcc hx
              go_wp2_with fail
              refine (hpre _).mono ?_
              rintro e w3 ⟨rfl, rfl⟩
              go_wp2_with fail
              refine (hcut _ (hw.below hB)).mono ?_
              rintro e w4 ⟨rfl, hb4⟩
              have hB4 := hB.trans (hb4.mono hs)
              have hown4 := own_below hown hb4
              clear hb4
              go_wp2_with fail
              refine (hon _).mono ?_
              rintro e w5 ⟨rfl, hb5⟩
              have hB5 := hB4.trans (hb5.mono hB4.size)
              have hs5 := hB5.size
              have hown5 := own_below hown4 hb5
              clear hb5 hown4 hown hB4
              go_wp2_with (at_builtin; refine wpList_app rfl (.tmp 40) (.tmp 42) _ _ rfl TStr (hown5.alloc (.cells #[sv x] 9)) rfl (Src_rv (news := [sv x]) Tryd.underlying29 rfl (Rv_new w5 _ _ _ rfl) (by simp [Value.oneCell', sv]) (by omega)) rfl (by omega) (by simp; omega) ?_; intro v6 w6 hown6 hgr6 hat6; have hB6 := below_app (hB5.alloc hs5 (.cells #[sv x] 9)) (hown5.alloc _) hgr6 (by simp; omega) (Nat.le_refl _); have hs6 := hB6.size)
              refine (htr _).mono ?_
              rintro e w7 ⟨rfl, hb7⟩
              have hown7 := own_below hown6 hb7
              have hB7 := hB6.trans (hb7.mono hs6)
              go_wp2_with fail
              go_roundw
              case rel => exact ⟨t, k + 1, d ++ [x], rfl, by omega, HST, by rw [List.map_append]; exact hown7, hB7⟩
              case measure => simp [strLen]; omega
            · have HST := Lib.hid (he.out.trans (idsFrom_bad ht hc hcc hx))
              rw [hx] at hon
              clear he ht hc hp1 hcc hx
              go_wp2_with fail
              refine (hpre _).mono ?_
              rintro e w3 ⟨rfl, rfl⟩
              go_wp2_with fail
              refine (hcut _ (hw.below hB)).mono ?_
              rintro e w4 ⟨rfl, hb4⟩
              have hB4 := hB.trans (hb4.mono hs)
              go_wp2_with fail
              refine (hon _).mono ?_
              rintro e w5 ⟨rfl, hb5⟩
              go_wp2_with fail
              go_ret2
              exact ⟨idsOut_err HST.out rfl, hB4.trans (hb5.mono hB4.size)⟩
        · have hne : ((c.toNat : Int) != 60) = true := by
            have := u8_bne c 60
            rw [show ((c.toNat : Int) != 60) = (c != 60) from this]
            simp [hc]
          have hp1 : Lib.hasPrefix (c :: r) [60] = false := by
            have : ((60 : UInt8) == c) = false := by rw [beq_eq_false_iff_ne]; exact Ne.symm hc
            simp [Lib.hasPrefix, List.isPrefixOf, this]
          rw [hp1] at hpre
          simp only [Bool.false_eq_true, if_false] at hpre
          have HST := Lib.hid (he.out.trans (idsFrom_not ht hc))
          have hcut := fun W hW => cut_any (c :: r) 62 W hW (by simp; omega)
          generalize cutV 62 (c :: r) = cv at *
          obtain ⟨ca, cb, cf⟩ := cv
          simp only at hcut
          clear he ht hc hp1
          cases cf
          all_goals
            go_wp2_with fail
            refine (hpre _).mono ?_
            rintro e w3 ⟨rfl, rfl⟩
            go_wp2_with fail
            refine (hcut _ (hw.below hB)).mono ?_
            rintro e w4 ⟨rfl, hb4⟩
            go_wp2_with fail
            go_ret2
            exact ⟨idsOut_err HST.out rfl, hB.trans (hb4.mono hs)⟩
end Go.Proofs.YtnmkapaphbaomaaDoor
