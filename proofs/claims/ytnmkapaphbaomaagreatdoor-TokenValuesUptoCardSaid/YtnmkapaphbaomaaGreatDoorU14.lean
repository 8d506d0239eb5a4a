/- The document's Trim, Lower, Loose, Simple, Value, Kind; its examples hold. -/
import Derived.Test.YtnmkapaphbaomaaGreatDoorU9
import Derived.KernelRfl
namespace Go.Proofs.YtnmkapaphbaomaaGreatDoor
set_option linter.unusedVariables false
set_option linter.unusedSimpArgs false
open Go.RowKit

def strLen : Value → Nat | .string s => s.size | _ => 0
theorem trimB_left {c : UInt8} {r : List UInt8} (h : blk c = true) : trimB (c :: r) = trimB r := by
  rw [trimB_def, trimB_def, List.reverse_cons, List.dropWhile_append]
  by_cases he : (r.reverse.dropWhile blk).isEmpty = true
  · rw [if_pos he]
    have : r.reverse.dropWhile blk = [] := by simpa using he
    rw [this]
    simp [h]
  · rw [if_neg he, List.reverse_append]
    simp [h]
theorem trimB_right {c : UInt8} {v : List UInt8} (h : blk c = true) : trimB (v ++ [c]) = trimB v := by
  rw [trimB_def, trimB_def, List.reverse_append]
  simp [h]
theorem trimB_self {u : List UInt8} (h1 : ∀ x, u.head? = some x → blk x = false) (h2 : ∀ x, u.getLast? = some x → blk x = false) : trimB u = u := by
  rw [trimB_def]
  have e1 : u.reverse.dropWhile blk = u.reverse := by
    cases hr : u.reverse with
    | nil => rfl
    | cons x r =>
      have : u.getLast? = some x := by rw [List.getLast?_eq_head?_reverse, hr]; rfl
      rw [List.dropWhile_cons_of_neg (by rw [h2 x this]; simp)]
  rw [e1, List.reverse_reverse]
  cases u with
  | nil => rfl
  | cons x r => rw [List.dropWhile_cons_of_neg (by rw [h1 x rfl]; simp)]
theorem trimB_nil : trimB [] = [] := rfl
theorem blk_tests (c : UInt8) : (blk c = true ∧ ((c.toNat : Int) == 32) = true) ∨ (blk c = true ∧ ((c.toNat : Int) == 32) = false ∧ ((c.toNat : Int) == 9) = true) ∨ (blk c = false ∧ ((c.toNat : Int) == 32) = false ∧ ((c.toNat : Int) == 9) = false) := by
  rcases blk_cases c with ⟨h, k | ⟨k, k2⟩⟩ | ⟨h, k, k2⟩
  · exact .inl ⟨h, by simpa using k⟩
  · exact .inr (.inl ⟨h, by simpa using k, by simpa using k2⟩)
  · exact .inr (.inr ⟨h, by simpa using k, by simpa using k2⟩)

set_option maxRecDepth 100000 in
set_option maxHeartbeats 2000000 in
theorem rtrim_any (l : List UInt8) (w : World) (hl : l.length ≤ 140737488351232) :
    Calls Tryz.prog 27 #[.string (bs l)] w fun e w' => e = .returned (.string (bs (trimB l))) ∧ w' = w := by
  go_enter Tryz.func27, Tryz.ntmps27
  go_wp2_with fail
  go_loopw [0] (fun s0 wr => ∃ u : List UInt8, s0 = .string (bs u) ∧ u.length ≤ l.length ∧ Hid (trimB l = trimB u) ∧ wr = w) (fun s0 _ => strLen s0)
  case atStart => exact ⟨l, rfl, by omega, Lib.hid rfl, rfl⟩
  case round =>
    obtain ⟨u, rfl, hul, he, rfl⟩ := hrel
    have leave : ∀ u : List UInt8, (∀ x, u.head? = some x → blk x = false) → True := fun _ _ => trivial
    cases u with
    | nil =>
      have HE := Lib.hid (he.out.trans trimB_nil)
      clear he
      go_wp2_with fail
      go_loopw [0] (fun s0 wr2 => s0 = .string (bs []) ∧ wr2 = wr) (fun s0 _ => strLen s0)
      case atStart => exact ⟨rfl, rfl⟩
      case round =>
        obtain ⟨rfl, rfl⟩ := hrel
        go_wp2_with fail
        go_ret
        exact ⟨by rw [HE.out]; rfl, by first | rfl | trivial⟩
    | cons c r =>
      have hi0 : ∀ W, (Instr.index 9 (.string (bs (c :: r))) (.int .i64 0)).run Tryz.prog W = .ok (.int .u8 (c.toNat : Int)) W := fun W => str_index (P := Tryz.prog) Tryz.underlying9 (k := 0) (x := c) rfl .i64 W
      simp only [List.length_cons] at hul
      rcases blk_tests c with ⟨h, k⟩ | ⟨h, k, k2⟩ | ⟨h, k, k2⟩
      · have HE := Lib.hid (he.out.trans (trimB_left h))
        clear he h
        go_wp2_with fail
        go_roundw
        case rel => exact ⟨r, by simp, by omega, HE, by first | rfl | trivial⟩
        case measure => simp [strLen]
      · have HE := Lib.hid (he.out.trans (trimB_left h))
        clear he h
        go_wp2_with fail
        go_roundw
        case rel => exact ⟨r, by simp, by omega, HE, by first | rfl | trivial⟩
        case measure => simp [strLen]
      · have HH := Lib.hid (show ∀ x, (c :: r).head? = some x → blk x = false from fun x hx => by cases hx; exact h)
        have hul2 : (c :: r).length ≤ l.length := by simpa using hul
        obtain ⟨u, hu⟩ : ∃ u, c :: r = u := ⟨_, rfl⟩
        rw [hu] at HH he hi0 hul2 ⊢
        have hun : 0 < u.length := by rw [← hu]; simp
        clear hu h hul
        go_wp2_with fail
        go_loopw [0] (fun s0 wr2 => ∃ v : List UInt8, s0 = .string (bs v) ∧ v.length ≤ l.length ∧ Hid (trimB l = trimB v) ∧ Hid (∀ x, v.head? = some x → blk x = false) ∧ wr2 = wr) (fun s0 _ => strLen s0)
        case atStart => exact ⟨u, rfl, hul2, he, HH, rfl⟩
        case round =>
          clear he HH hi0 hul2 hun
          obtain ⟨v, rfl, hvl, he, hh, rfl⟩ := hrel
          rcases List.eq_nil_or_concat v with rfl | ⟨v', c', rfl⟩
          · have HE := Lib.hid (he.out.trans trimB_nil)
            clear he
            go_wp2_with fail
            go_ret
            exact ⟨by rw [HE.out]; rfl, by first | rfl | trivial⟩
          · rw [List.concat_eq_append] at hvl he hh ⊢
            simp only [List.length_append, List.length_cons, List.length_nil] at hvl
            have hj : ∀ W, (Instr.index 9 (.string (bs (v' ++ [c']))) (.int .i64 (v'.length : Int))).run Tryz.prog W = .ok (.int .u8 (c'.toNat : Int)) W := fun W => str_index (P := Tryz.prog) Tryz.underlying9 (k := v'.length) (x := c') (by simp) .i64 W
            have hj2 : ∀ W, (Instr.index 9 (.string (bs (v' ++ [c']))) (.int .i64 ((v'.length : Int) + 1 - 1))).run Tryz.prog W = .ok (.int .u8 (c'.toNat : Int)) W := fun W => by
              rw [Int.add_sub_cancel]
              exact hj W
            have f5 : (0 : Int) ≤ (v'.length : Int) + 1 - 1 := by omega
            have f6 : (v'.length : Int) + 1 - 1 ≤ (v'.length : Int) + 1 := by omega
            rcases blk_tests c' with ⟨h, k⟩ | ⟨h, k, k2⟩ | ⟨h, k, k2⟩
            · have HE := Lib.hid (he.out.trans (trimB_right h))
              have HH := Lib.hid (show ∀ x, v'.head? = some x → blk x = false from fun x hx => hh.out x (by cases v' with | nil => cases hx | cons y t => exact hx))
              clear he h hh
              go_wp2_with fail
              go_roundw
              case rel => exact ⟨v', by simp, by omega, HE, HH, by first | rfl | trivial⟩
              case measure => simp [strLen]
            · have HE := Lib.hid (he.out.trans (trimB_right h))
              have HH := Lib.hid (show ∀ x, v'.head? = some x → blk x = false from fun x hx => hh.out x (by cases v' with | nil => cases hx | cons y t => exact hx))
              clear he h hh
              go_wp2_with fail
              go_roundw
              case rel => exact ⟨v', by simp, by omega, HE, HH, by first | rfl | trivial⟩
              case measure => simp [strLen]
            · have HE := Lib.hid (he.out.trans (trimB_self hh.out (fun x hx => by simp at hx; rw [← hx]; exact h)))
              clear he h hh
              go_wp2_with fail
              go_ret
              exact ⟨by rw [HE.out]; rfl, by first | rfl | trivial⟩

set_option maxRecDepth 100000 in
set_option maxHeartbeats 1000000 in
theorem rlower_any (l : List UInt8) (w : World) (hl : l.length ≤ 140737488351232) :
    Calls Tryz.prog 30 #[.string (bs l)] w fun e w' => e = .returned (.string (bs (l.map small))) ∧ Below w.heap.size w w' := by
  have hpu : ∀ W, Sem.run Tryz.prog (pure #[] : Sem (Array Value)) W = .ok #[] W := fun _ => rfl
  have hst : ∀ a W, Sem.run Tryz.prog (storeCells a []) W = .ok () W := fun _ _ => rfl
  have hB0 : Below w.heap.size w (w.alloc (.cells #[] 5)) := (Below.refl _ _).alloc (Nat.le_refl _) _
  have hown0 := World.ownsRow_made (base := w.heap.size) (e := 5) (size := 1) w #[] 0 (Nat.le_refl _) (by unfold maxLen; omega) rfl
  go_enter Tryz.func30, Tryz.ntmps30
  go_wp2_with fail
  clear hpu hst
  go_loopw [3, 4] (fun v i wr => ∃ q : Nat, i = .int .i64 q ∧ q ≤ l.length ∧ wr.ownsRow w.heap.size 5 1 v q (((l.take q).map small).map bv) ∧ Below w.heap.size w wr) (fun _ i _ => l.length - (intOf i).toNat)
  case atStart => exact ⟨0, rfl, by omega, hown0, hB0⟩
  case round =>
    clear hown0 hB0
    obtain ⟨q, rfl, hq, hown, hB⟩ := hrel
    have hs1 := hB.size
    by_cases hlt : q < l.length
    · obtain ⟨c, hc⟩ : ∃ c, l[q]? = some c := ⟨_, List.getElem?_eq_getElem hlt⟩
      have hi := str_index (P := Tryz.prog) Tryz.underlying9 hc .i64
      have hst : ((l.take (q + 1)).map small).map bv = ((l.take q).map small).map bv ++ [bv (small c)] := by
        rw [take_succ_of hc]
        simp
      by_cases h : 65 ≤ c.toNat ∧ c.toNat ≤ 90
      · obtain ⟨h1, h2⟩ := h
        have k1 : (65 : Int) ≤ (c.toNat : Int) := by omega
        have k2 : (c.toNat : Int) ≤ 90 := by omega
        have hbv : bv (small c) = .int .u8 ((c.toNat : Int) + 32) := by unfold bv; rw [small_nat, if_pos ⟨h1, h2⟩]; congr 1
        rw [hbv] at hst
        have HST := Lib.hid hst
        clear hst hbv h1 h2 hc
        go_wp2_with (at_builtin; refine wpList_app rfl (.tmp 24) (.tmp 26) _ _ rfl TU8 (hown.alloc (.cells #[.int .u8 ((c.toNat : Int) + 32)] 5)) rfl (Src_rv (news := [.int .u8 ((c.toNat : Int) + 32)]) Tryz.underlying58 rfl (Rv_new wr _ _ _ rfl) (by simp [Value.oneCell', bv]) (by omega)) rfl (by omega) (by simp; omega) ?_; intro v1 y1 own1 gr1 at1; have bb1 := below_app (hB.alloc hs1 (.cells #[.int .u8 ((c.toNat : Int) + 32)] 5)) (hown.alloc _) gr1 (by simp; omega) (Nat.le_refl _); have bb1s := bb1.size)
        go_roundw
        case rel => exact ⟨q + 1, by go_num, by omega, by rw [HST.out]; exact own1, bb1⟩
        case measure => simp [intOf]; omega
      · have hbv : small c = c := by unfold small; rw [if_neg h]
        rw [hbv] at hst
        have HST := Lib.hid hst
        have k : ¬ (65 : Int) ≤ (c.toNat : Int) ∨ ((65 : Int) ≤ (c.toNat : Int) ∧ ¬ (c.toNat : Int) ≤ 90) := by omega
        clear hst hbv h hc
        rcases k with k1 | ⟨k1, k2⟩
        all_goals
          go_wp2_with (at_builtin; refine wpList_app rfl (.tmp 24) (.tmp 26) _ _ rfl TU8 (hown.alloc (.cells #[bv c] 5)) rfl (Src_rv (news := [bv c]) Tryz.underlying58 rfl (Rv_new wr _ _ _ rfl) (by simp [Value.oneCell', bv]) (by omega)) rfl (by omega) (by simp; omega) ?_; intro v1 y1 own1 gr1 at1; have bb1 := below_app (hB.alloc hs1 (.cells #[bv c] 5)) (hown.alloc _) gr1 (by simp; omega) (Nat.le_refl _); have bb1s := bb1.size)
          go_roundw
          case rel => exact ⟨q + 1, by go_num, by omega, by rw [HST.out]; exact own1, bb1⟩
          case measure => simp [intOf]; omega
    · obtain rfl : q = l.length := by omega
      rw [List.take_length] at hown
      obtain ⟨A, ca, rfl, hca, hcm, hRb, hol⟩ := own_slice hown
      have hcs := conv_str (P := Tryz.prog) (src := 58) (dst := 9) (c := ca) (n := l.length) Tryz.underlying58 Tryz.underlying5 Tryz.underlying9 hRb hol
      clear hown hRb hol
      go_wp2_with fail
      go_ret
      exact ⟨rfl, hB⟩
theorem ex_addr : addrP [65, 110, 110, 32, 40, 120, 41, 32, 60, 97, 46, 98, 64, 67, 46, 100, 62] = .ok [97, 46, 98, 64, 99, 46, 100] := by kernel_rfl
theorem ex_parm : parmP [97, 47, 98, 59, 32, 99, 61, 34, 100, 32, 101, 34] = .ok ([97, 47, 98], [([99], [100, 32, 101])]) := by kernel_rfl

set_option maxRecDepth 100000 in
set_option maxHeartbeats 1000000 in
theorem speaks_any (w : World) (hw : Mx w) : Calls Tryz.prog 6 #[] w fun e w' => e = .returned (.bool true) ∧ Below w.heap.size w w' := by
  have ha : Calls Tryz.prog 14 #[.string ⟨#[65, 110, 110, 32, 40, 120, 41, 32, 60, 97, 46, 98, 64, 67, 46, 100, 62]⟩] w fun e w' => e = .returned (.tuple #[.string ⟨#[97, 46, 98, 64, 99, 46, 100]⟩, .int .i64 0]) ∧ Below w.heap.size w w' := by
    have h := addr_any [65, 110, 110, 32, 40, 120, 41, 32, 60, 97, 46, 98, 64, 67, 46, 100, 62] w hw (by decide)
    rw [ex_addr] at h
    exact h
  have hp : ∀ W, Mx W → Calls Tryz.prog 7 #[.string ⟨#[97, 47, 98, 59, 32, 99, 61, 34, 100, 32, 101, 34]⟩] W fun e w' => (∃ v, e = .returned (.tuple #[.string ⟨#[97, 47, 98]⟩, v, .int .i64 0]) ∧ w'.ownsRow W.heap.size 25 2 v 1 [.string ⟨#[99]⟩, .string ⟨#[100, 32, 101]⟩]) ∧ Below W.heap.size W w' := fun W hW => by
    refine (params_any [97, 47, 98, 59, 32, 99, 61, 34, 100, 32, 101, 34] W hW (by decide)).mono ?_
    rintro e w' ⟨h1, h2⟩
    unfold PrmOut at h1
    rw [ex_parm] at h1
    exact ⟨h1, h2⟩
  go_enter Tryz.func6, Tryz.ntmps6
  go_wp2_with fail
  refine ha.mono ?_
  rintro e w1 ⟨rfl, hb1⟩
  go_wp2_with fail
  refine (hp _ (hw.below hb1)).mono ?_
  rintro e w2 ⟨⟨v, rfl, hown⟩, hb2⟩
  obtain ⟨A, c, rfl, hnc, hcm, hR, _⟩ := own_form hown
  obtain ⟨b, o, hA, hcell⟩ := hR (by simp)
  subst hA
  have c0 : w2.cell? ⟨b, o, none⟩ = some (.string ⟨#[99]⟩) := hcell 0 _ rfl
  have c1 : w2.cell? ⟨b, o + 1, none⟩ = some (.string ⟨#[100, 32, 101]⟩) := hcell 1 _ rfl
  clear hown hR hcell ha hp
  go_wp2_with fail
  go_ret
  exact ⟨rfl, hb1.trans (hb2.mono hb1.size)⟩

/-- two that hand back the same -/
theorem bareOut_two (r : Except Nat (List UInt8)) : ∃ (o : List UInt8) (k : Nat), ∀ e, BareOut r e → e = .returned (.tuple #[.string (bs o), .int .i64 (k : Int)]) := by
  cases r with
  | ok o => exact ⟨o, 0, fun e h => h⟩
  | error k => exact ⟨[], k, fun e h => h⟩

theorem loc_split (c : UInt8) : loc' c = (atc c || ([46, 47, 58, 63] : List UInt8).contains c) := rfl
set_option maxHeartbeats 400000 in
theorem rloose_any (c : UInt8) (w : World) : Calls Tryz.prog 54 #[.int .u8 (c.toNat : Int)] w fun e w' => e = .returned (.bool (loc' c)) ∧ w' = w := by
  have hin : ∀ W, Calls Tryz.prog 73 #[.int .u8 (c.toNat : Int), .string ⟨#[46, 47, 58, 63]⟩] W fun e w' => e = .returned (.bool (([46, 47, 58, 63] : List UInt8).contains c)) ∧ W = w' := fun W => rin_any c [46, 47, 58, 63] W (by decide)
  rw [loc_split]
  generalize ([46, 47, 58, 63] : List UInt8).contains c = z at *
  have hp := rplain_any c
  rcases Bool.eq_false_or_eq_true (atc c) with h | h
  · rw [h] at hp ⊢
    go_enter Tryz.func54, Tryz.ntmps54
    go_wp2_with fail
    refine (hp _).mono ?_
    rintro e w' ⟨rfl, rfl⟩
    go_wp2_with fail
    go_ret
    exact ⟨ret_bool (by simp), rfl⟩
  · rw [h] at hp ⊢
    go_enter Tryz.func54, Tryz.ntmps54
    go_wp2_with fail
    refine (hp _).mono ?_
    rintro e w' ⟨rfl, rfl⟩
    go_wp2_with fail
    refine (hin _).mono ?_
    rintro e w' ⟨rfl, rfl⟩
    go_wp2_with fail
    go_ret
    exact ⟨ret_bool (by simp), rfl⟩
set_option maxHeartbeats 400000 in
theorem rsimple_any (l : List UInt8) (w : World) (hl : l.length ≤ 140737488351232) :
    Calls Tryz.prog 36 #[.string (bs l)] w fun e w' => e = .returned (.bool (onlyB loc' l)) ∧ w' = w := by
  go_enter Tryz.func36, Tryz.ntmps36
  go_wp2_with fail
  go_loopw [3] (fun i wr => ∃ q : Nat, i = .int .i64 q ∧ q ≤ l.length ∧ Hid ((l.take q).all loc' = true) ∧ wr = w) (fun i _ => l.length - (intOf i).toNat)
  case atStart => exact ⟨0, rfl, by omega, Lib.hid (by simp), rfl⟩
  case round =>
    obtain ⟨q, rfl, hq, ha, rfl⟩ := hrel
    by_cases hlt : q < l.length
    · obtain ⟨c, hc⟩ : ∃ c, l[q]? = some c := ⟨_, List.getElem?_eq_getElem hlt⟩
      have hi := str_index (P := Tryz.prog) Tryz.underlying9 hc .i64
      have hcall := rloose_any c
      rcases Bool.eq_false_or_eq_true (loc' c) with h | h
      · have hst : (l.take (q + 1)).all loc' = true := by rw [all_take loc' _ hc, ha.out, h]; rfl
        have HST := Lib.hid hst
        rw [h] at hcall
        clear hst h hc
        go_wp2_with fail
        refine (hcall _).mono ?_
        rintro e w' ⟨rfl, rfl⟩
        go_wp2_with fail
        go_roundw
        case rel => exact ⟨q + 1, by go_num, by omega, HST, by first | rfl | trivial⟩
        case measure => simp [intOf]; omega
      · have HNO := Lib.hid (onlyB_no hc h)
        rw [h] at hcall
        clear h hc
        go_wp2_with fail
        refine (hcall _).mono ?_
        rintro e w' ⟨rfl, rfl⟩
        go_wp2_with fail
        go_ret
        exact ⟨ret_bool HNO.out.symm, by first | rfl | trivial⟩
    · obtain rfl : q = l.length := by omega
      have hall : onlyB loc' l = decide (0 < l.length) := by
        have := ha.out
        rw [List.take_length] at this
        unfold onlyB
        rw [this, Bool.true_and]
        cases l <;> simp
      have HR := Lib.hid hall
      clear hall
      by_cases h0 : 0 < l.length
      all_goals
        go_wp2_with fail
        go_ret
        exact ⟨ret_bool (by rw [HR.out, Bool.eq_iff_iff]; simp [h0]), by first | rfl | trivial⟩
set_option maxHeartbeats 400000 in
theorem rvalue_any (l : List UInt8) (w : World) (hl : l.length ≤ 140737488351232) :
    Calls Tryz.prog 35 #[.string (bs l)] w fun e w' => e = .returned (.bool (valB l)) ∧ Dn w w' := by
  go_enter Tryz.func35, Tryz.ntmps35
  go_wp2_with fail
  go_loopw [3] (fun i wr => ∃ q : Nat, i = .int .i64 q ∧ q ≤ l.length ∧ Hid ((l.take q).all sgc = true) ∧ Dn w wr) (fun i _ => l.length - (intOf i).toNat)
  case atStart => exact ⟨0, rfl, by omega, Lib.hid (by simp), Dn.refl _⟩
  case round =>
    obtain ⟨q, rfl, hq, ha, hd⟩ := hrel
    by_cases hlt : q < l.length
    · obtain ⟨c, hc⟩ : ∃ c, l[q]? = some c := ⟨_, List.getElem?_eq_getElem hlt⟩
      have hi := str_index (P := Tryz.prog) Tryz.underlying9 hc .i64
      by_cases h : sgc c = true
      · have h1 : ((c.toNat : Int) != 9) = false ∨ (((c.toNat : Int) != 9) = true ∧ ¬ (c.toNat : Int) < 32 ∧ ¬ (126 : Int) < (c.toNat : Int)) := by
          have := (sgc_iff c).1 h
          rw [bne_iff_ne, bne_eq_false_iff_eq]
          omega
        have HST := Lib.hid (show (l.take (q + 1)).all sgc = true by rw [all_take sgc _ hc, ha.out, h]; rfl)
        clear h hc ha
        rcases h1 with h1 | ⟨h1, h2, h3⟩
        all_goals
          go_wp2_with fail
          go_roundw
          case rel => exact ⟨q + 1, by go_num, by omega, HST, hd⟩
          case measure => simp [intOf]; omega
      · have hno := all_hit sgc hc (by simpa using h)
        have h1 : ((c.toNat : Int) != 9) = true ∧ ((c.toNat : Int) < 32 ∨ (¬ (c.toNat : Int) < 32 ∧ (126 : Int) < (c.toNat : Int))) := by
          rw [sgc_iff] at h
          rw [bne_iff_ne]
          omega
        have HNO := Lib.hid (show valB l = false from hno)
        clear h hno hc
        rcases h1 with ⟨h0, h1 | ⟨h1, h2⟩⟩
        all_goals
          go_wp2_with fail
          go_ret
          exact ⟨ret_bool HNO.out.symm, hd⟩
    · obtain rfl : q = l.length := by omega
      have HR := Lib.hid (show valB l = true from by have := ha.out; rwa [List.take_length] at this)
      clear ha
      go_wp2_with fail
      go_ret
      exact ⟨ret_bool HR.out.symm, hd⟩
end Go.Proofs.YtnmkapaphbaomaaGreatDoor
