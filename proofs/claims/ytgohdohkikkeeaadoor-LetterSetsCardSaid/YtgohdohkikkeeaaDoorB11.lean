/- The statement FieldFront: the walk of the law. -/
import Derived.Test.YtgohdohkikkeeaaDoorL9
import Derived.Test.YtgohdohkikkeeaaDoorN11
import Derived.Test.YtgohdohkikkeeaaDoorP14
import Derived.Test.YtgohdohkikkeeaaDoorS1
import Derived.Laws.Bits128
namespace Go.Proofs.YtgohdohkikkeeaaDoor
set_option linter.unusedVariables false
set_option linter.unusedSimpArgs false
open Go.RowKit

theorem and16 (z : Int) : bits .and .i64 z 65535 = z % 65536 := by
  have h127 : (BitVec.ofInt 64 65535).toNat = 2 ^ 16 - 1 := by decide
  have key : (BitVec.ofInt 64 z &&& BitVec.ofInt 64 65535).toNat = (z % ((2 ^ 64 : Nat) : Int)).toNat % 2 ^ 16 := by
    rw [BitVec.toNat_and, BitVec.toNat_ofInt, h127, Nat.and_two_pow_sub_one_eq_mod]
  show IntKind.i64.wrap ((BitVec.ofInt 64 z &&& BitVec.ofInt 64 65535).toNat : Nat) = z % 65536
  rw [key, IntKind.wrap_i64]
  omega
/-- the lines of fields -/
def foldAll (fs : List (List UInt8 × List UInt8)) : List UInt8 := fs.flatMap fun p => foldF p.1 p.2
theorem foldAll_snoc (fs : List (List UInt8 × List UInt8)) (p : List UInt8 × List UInt8) : foldAll (fs ++ [p]) = foldAll fs ++ foldF p.1 p.2 := by simp [foldAll]
theorem foldAll_whole : ∀ (fs : List (List UInt8 × List UInt8)), rightF fs = true → HeadW fs (foldAll fs)
  | [], _ => .nil
  | p :: fs, h => by
    unfold rightF at h
    rw [List.all_cons, Bool.and_eq_true, Bool.and_eq_true] at h
    exact (fold_whole h.1.1 h.1.2).append (foldAll_whole fs h.2)
theorem right_at {fs : List (List UInt8 × List UInt8)} (h : rightF fs = true) {k : Nat} {p : List UInt8 × List UInt8} (hp : fs[k]? = some p) : nmOk p.1 = true ∧ vlOk p.2 = true := by
  have := List.all_eq_true.1 h p (List.mem_of_getElem? hp)
  rwa [Bool.and_eq_true] at this
theorem foldAll_len : ∀ (fs : List (List UInt8 × List UInt8)), rightF fs = true → (foldAll fs).length ≤ 24646 * fs.length
  | [], _ => by simp [foldAll]
  | p :: fs, h => by
    unfold rightF at h
    rw [List.all_cons, Bool.and_eq_true, Bool.and_eq_true] at h
    have ih := foldAll_len fs h.2
    have h1 := foldF_len p.1 p.2
    have h2 := (nmOk_len h.1.1).2
    have h3 := vlOk_len h.1.2
    have e : foldAll (p :: fs) = foldF p.1 p.2 ++ foldAll fs := rfl
    rw [e, List.length_append, List.length_cons]
    omega
theorem rightF_take {fs : List (List UInt8 × List UInt8)} (h : rightF fs = true) (k : Nat) : rightF (fs.take k) = true :=
  List.all_eq_true.2 fun p hp => List.all_eq_true.1 h p (List.mem_of_mem_take hp)

set_option maxRecDepth 100000 in
set_option maxHeartbeats 4000000 in
theorem front_any (A B : Option Addr) (fs : List (List UInt8 × List UInt8)) (bh : List UInt8) (z : Int) (n c m d : Nat) (w : World) (hn : fs.length = n) (hm : bh.length = m) (hA : Rf w A fs) (hB : Rb w B bh) (hnc : n ≤ c) (hmd : m ≤ d)
    (hs : ∀ p ∈ fs, p.1.length ≤ 9223372036854775807 ∧ p.2.length ≤ 9223372036854775807) :
    Calls Tryd.prog 5 #[.slice A n c, .slice B m d, .int .i64 z] w fun e w' => e = .returned (.bool true) ∧ Below w.heap.size w w' := by
  have HN := Lib.hid hn
  have HM := Lib.hid hm
  have HS := Lib.hid hs
  clear hn hm hs
  have hpu : ∀ W, Sem.run Tryd.prog (pure #[] : Sem (Array Value)) W = .ok #[] W := fun _ => rfl
  have hst : ∀ a W, Sem.run Tryd.prog (storeCells a []) W = .ok () W := fun _ _ => rfl
  go_enter Tryd.func5, Tryd.ntmps5
  go_wp2_with fail
  refine (speaks9_any _).mono ?_
  rintro e w1 ⟨rfl, hB1⟩
  by_cases h1 : 20 < n
  · go_wp2_with fail
    go_ret
    exact ⟨rfl, hB1⟩
  by_cases h2 : 500 < m
  · go_wp2_with fail
    go_ret
    exact ⟨rfl, hB1⟩
  go_wp2_with fail
  refine (right_any A fs n c w1 HN.out (hA.below hB1) hnc HS.out (by omega)).mono ?_
  rintro e w2 ⟨rfl, hd2⟩
  have hB2 := hB1.trans ((hd2.below _).mono hB1.size)
  cases hrt : (rightF fs && decide (fs.length ≤ 200)) with
  | false =>
    go_wp2_with fail
    go_ret
    exact ⟨rfl, hB2⟩
  | true =>
    rw [Bool.and_eq_true] at hrt
    have HRT := Lib.hid hrt.1
    clear hrt
    have hown0 := World.ownsRow_made (base := w.heap.size) (e := 5) (size := 1) w2 #[] 0 hB2.size (by unfold maxLen; omega) rfl
    have hB3 : Below w.heap.size w (w2.alloc (.cells #[] 5)) := hB2.alloc hB2.size _
    go_wp2_with fail
    go_loopw [7, 36] (fun x i wr => ∃ k N : Nat, i = .int .i64 k ∧ k ≤ n ∧ N ≤ 24646 * k ∧ wr.ownsRow w.heap.size 5 1 x N ((foldAll (fs.take k)).map bv) ∧ Below w.heap.size w wr) (fun _ i _ => n - (intOf i).toNat)
    case atStart => exact ⟨0, 0, rfl, by omega, by omega, hown0, hB3⟩
    case round =>
      obtain ⟨k, N, rfl, hk, hN, hown, hBr⟩ := hrel
      by_cases hlt : k < n
      · obtain ⟨b, o, p, rfl, hp, g0, g1⟩ := (hA.below hBr).one (k := k) (by rw [HN.out]; exact hlt)
        obtain ⟨hnm, hvl⟩ := right_at HRT.out hp.out
        obtain ⟨l1, l2⟩ := HS.out p (List.mem_of_getElem? hp.out)
        have hfl := foldF_len p.1 p.2
        have hnl := (nmOk_len hnm).2
        have hvll := vlOk_len hvl
        have hst2 : foldAll (fs.take (k + 1)) = foldAll (fs.take k) ++ foldF p.1 p.2 := by rw [take_succ_of hp.out, foldAll_snoc]
        have HST := Lib.hid hst2
        have HOK := Lib.hid (show (nmOk p.1 && vlOk p.2) = true by rw [hnm, hvl]; rfl)
        clear hst2 hnm hvl hown0
        have hB4 : Below w.heap.size w (wr.alloc (.cells #[.string (bs p.1), .string (bs p.2)] 28)) := hBr.alloc hBr.size _
        go_wp2_with fail
        refine (fold_any p.1 p.2 _ l1 l2).mono ?_
        rintro e w5 ⟨hfo, hb5⟩
        have hB5 := hB4.trans (hb5.mono hB4.size)
        have hs5 := hB5.size
        rcases hfo with ⟨_, _, x', rfl, hx'⟩ | ⟨hno, _⟩
        · obtain ⟨XA, xc, rfl, hxc, _, hXR, _⟩ := hx'.form
          have hown5 := own_below (hown.alloc (.cells #[.string (bs p.1), .string (bs p.2)] 28)) hb5
          have hXRb : Rb w5 XA (foldF p.1 p.2) := hXR
          generalize foldF p.1 p.2 = ff at *
          go_wp2_with (at_builtin; refine wpList_app rfl (.tmp 45) (.tmp 46) _ _ rfl TU8 hown5 rfl (Src_rb Tryd.underlying23 rfl hXRb) rfl (by omega) hs5 ?_; intro v6 w6 hown6 hgr6 hat6; have hB6 := below_app hB5 hown5 hgr6 hs5 (Nat.le_refl _))
          go_roundw
          case rel => exact ⟨k + 1, N + ff.length, by go_num, by omega, by omega, by rw [HST.out, List.map_append]; exact hown6, hB6⟩
          case measure => simp [intOf]; omega
        · rw [HOK.out] at hno
          cases hno
      · obtain rfl : k = n := by omega
        rw [List.take_of_length_le (by rw [HN.out]; omega)] at hown
        have hwhole := foldAll_whole fs HRT.out
        have hsr := hBr.size
        have HW := Lib.hid hwhole
        have hNl : (foldAll fs).length = N := by simpa using hown.1
        have HNL := Lib.hid hNl
        clear hwhole hown0 hlt hNl
        by_cases h3 : 30000 < N + 2
        · have h3i : (30000 : Int) < (N : Int) + 2 := by omega
          clear h3
          go_wp2_with (at_builtin; refine wpList_app rfl (.tmp 49) (.tmp 50) _ _ rfl TU8 (hown.alloc (.cells #[bv 13, bv 10] 5)) rfl (Src_rv (news := [bv 13, bv 10]) Tryd.underlying23 rfl (Rv_new wr _ _ _ rfl) (by simp [Value.oneCell', bv]) (by omega)) rfl (by omega) (by simp; omega) ?_; intro v6 w6 hown6 hgr6 hat6; have hB6 := below_app (hBr.alloc hsr (.cells #[bv 13, bv 10] 5)) (hown.alloc _) hgr6 (by simp; omega) (Nat.le_refl _); have hown7 := hown6; obtain ⟨HA, hc, rfl, hhc, _, hHR, _⟩ := own_form hown6)
          go_ret
          exact ⟨rfl, hB6⟩
        · have h3i : ¬ (30000 : Int) < (N : Int) + 2 := by omega
          go_wp2_with (at_builtin; refine wpList_app rfl (.tmp 49) (.tmp 50) _ _ rfl TU8 (hown.alloc (.cells #[bv 13, bv 10] 5)) rfl (Src_rv (news := [bv 13, bv 10]) Tryd.underlying23 rfl (Rv_new wr _ _ _ rfl) (by simp [Value.oneCell', bv]) (by omega)) rfl (by omega) (by simp; omega) ?_; intro v6 w6 hown6 hgr6 hat6; have hB6 := below_app (hBr.alloc hsr (.cells #[bv 13, bv 10] 5)) (hown.alloc _) hgr6 (by simp; omega) (Nat.le_refl _); have hown7 := hown6; obtain ⟨HA, hc, rfl, hhc, _, hHR, _⟩ := own_form hown6)
          have hfsl : fs.length ≤ 200 := by rw [HN.out]; omega
          have hlH : (foldAll fs ++ [13, 10]).length = N + 2 := by rw [List.length_append, HNL.out]; rfl
          have hRH : Rb w6 HA (foldAll fs ++ [13, 10]) := by
            unfold Rb
            rw [List.map_append]
            exact hHR
          have hplH := own_pl hown7
          have hrd1 : readGo [] (foldAll fs ++ [13, 10]) = .ok (fs, []) := by
            have := readGo_head HW.out.toT [] true [] (by simpa using hfsl)
            simpa [eol] using this
          have hrd2 : readGo [] (foldAll fs ++ [13, 10] ++ bh) = .ok (fs, bh) := by
            have := readGo_head HW.out.toT [] true bh (by simpa using hfsl)
            simpa [eol] using this
          have hrd3 : ∀ j, j < N + 2 → readGo [] ((foldAll fs ++ [13, 10]).take j) = .error 3 := fun j hj =>
            front_none HW.out [] _ ((foldAll fs ++ [13, 10]).drop j) (by simpa using hfsl) (by
              intro e
              have := congrArg List.length e
              rw [List.length_drop, hlH] at this
              simp at this
              omega) (List.take_append_drop _ _)
          have HLH := Lib.hid hlH
          have HD2 := Lib.hid hrd2
          have HD3 := Lib.hid hrd3
          have HD1 := Lib.hid hrd1
          clear hlH hrd1 hrd2 hrd3 hHR hown6 hown hat6 hgr6 HW
          generalize foldAll fs ++ [13, 10] = H at *
          refine (read_any HA H (N + 2) hc w6 HLH.out hRH hhc hplH (by omega)).mono ?_
          rintro e w7 ⟨hro, hb7⟩
          rw [HD1.out] at hro
          obtain ⟨fv1, v1, rfl, hf1, hv1⟩ := hro
          have hB7 := hB6.trans (hb7.mono hB6.size)
          have hs7 := hB7.size
          have hRH7 := hRH.below hb7
          obtain ⟨F1, f1c, rfl, _, _, hF1, _⟩ := own_form hf1
          obtain ⟨V1, v1c, rfl, _, _, hV1, _⟩ := own_form hv1
          have hown8 := World.ownsRow_made (base := w7.heap.size) (e := 5) (size := 1) w7 #[] 0 (Nat.le_refl _) (by unfold maxLen; omega) rfl
          have hC8 : Below w7.heap.size w7 (w7.alloc (.cells #[] 5)) := (Below.refl _ _).alloc (Nat.le_refl _) _
          have hRH8 : Rb (w7.alloc (.cells #[] 5)) HA H := hRH7.below hC8
          have hs8 := hC8.size
          go_wp2_with (first
            | (at_builtin; refine wpList_app rfl _ _ _ _ rfl TU8 hown8 rfl (Src_rb Tryd.underlying23 HLH.out hRH8) rfl (by omega) hs8 ?_; intro v9 w9 hown9 hgr9 hat9; have hC9 := below_app hC8 hown8 hgr9 hs8 (Nat.le_refl _); have hs9 := hC9.size; have hRB9 := hB.below (hB7.trans (hC9.mono hs7)))
            | (at_builtin; refine wpList_app rfl _ _ _ _ rfl TU8 hown9 rfl (Src_rb Tryd.underlying23 HM.out hRB9) rfl (by omega) hs9 ?_; intro v10 w10 hown10 hgr10 hat10; have hC10 := below_app hC9 hown9 hgr10 hs9 (Nat.le_refl _); have hown11 := hown10; obtain ⟨TA, tc, rfl, htc, _, hTR, _⟩ := own_form hown10))
          have hTRb : Rb w10 TA (H ++ bh) := by
            unfold Rb
            rw [List.map_append]
            exact hTR
          have hTl : (H ++ bh).length = N + 2 + m := by rw [List.length_append, HLH.out, HM.out]
          have hplT := own_pl hown11
          clear hown8 hown9 hown10 hown11 hTR hgr9 hgr10 hat9 hat10 hRH8 hRB9
          refine (read_any TA (H ++ bh) (N + 2 + m) tc w10 hTl hTRb (by omega) hplT (by omega)).mono ?_
          rintro e w11 ⟨hro2, hb11⟩
          rw [HD2.out] at hro2
          obtain ⟨fv2, v2, rfl, hf2, hv2⟩ := hro2
          have hC11 := hC10.trans (hb11.mono hC10.size)
          have hB11 := hB7.trans (hC11.mono hs7)
          obtain ⟨F2, f2c, rfl, _, _, hF2, _⟩ := own_form hf2
          obtain ⟨V2, v2c, rfl, _, _, hV2, _⟩ := own_form hv2
          have hF1' : Rf w11 F1 fs := Rf.below hF1 hC11
          clear hf1 hf2 hv1 hv2 hF1 hTl
          go_wp2_with fail
          refine (samef_any F1 F2 fs fs.length f1c f2c w11 rfl hF1' hF2 (by rw [HN.out]; omega)).mono ?_
          rintro e w12 ⟨rfl, hd12⟩
          have hB12 := hB11.trans ((hd12.below _).mono hB11.size)
          have hC12 := hC11.trans ((hd12.below _).mono hC11.size)
          go_wp2_with fail
          refine (same_any V2 B bh bh bh.length m v2c d w12 rfl HM.out (Rb.below (l := bh) hV2 (hd12.below _)) (hB.below hB12) (by rw [HM.out]; omega)).mono ?_
          rintro e w13 ⟨rfl, hd13⟩
          rw [decide_eq_true rfl]
          have hB13 := hB12.trans ((hd13.below _).mono hB12.size)
          have hC13 := hC12.trans ((hd13.below _).mono hC12.size)
          have hand := and16 z
          obtain ⟨j, hj⟩ : ∃ j : Nat, z % 65536 % ((N : Int) + 2) = (j : Int) := ⟨(z % 65536 % ((N : Int) + 2)).toNat, (Int.toNat_of_nonneg (Int.emod_nonneg _ (by omega))).symm⟩
          have hjl : j < N + 2 := by
            have := Int.emod_lt_of_pos (z % 65536) (show (0 : Int) < (N : Int) + 2 by omega)
            omega
          have hRH13 := (hRH7.below hC13).take j
          go_wp2_with fail
          refine (read_any HA (H.take j) j hc w13 (by rw [List.length_take, HLH.out]; omega) hRH13 (by omega) hplH (by omega)).mono ?_
          rintro e w14 ⟨hro3, hb14⟩
          rw [HD3.out j hjl] at hro3
          have hro3 : e = .returned (.tuple #[.slice none 0 0, .slice none 0 0, .int .i64 3]) := hro3
          subst hro3
          go_wp2_with fail
          go_ret
          exact ⟨rfl, hB13.trans (hb14.mono hB13.size)⟩
end Go.Proofs.YtgohdohkikkeeaaDoor
