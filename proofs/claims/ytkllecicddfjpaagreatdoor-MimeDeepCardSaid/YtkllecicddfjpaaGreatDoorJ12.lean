/- The address of a value: the program's Address. -/
import Derived.Test.YtkllecicddfjpaaGreatDoorJ11
namespace Go.Proofs.YtkllecicddfjpaaGreatDoor
namespace Tk
set_option linter.unusedVariables false
set_option linter.unusedSimpArgs false
open Go.RowKit

theorem bareP_len : ∀ (n : Nat) (l o : List UInt8), l.length ≤ n → bareP l = .ok o → o.length ≤ l.length
  | _, [], o, _, h => by
    have : o = [] := by simpa [bareP, bareN, eq_comm] using h
    simp [this]
  | 0, c :: l, _, hl, _ => by simp at hl
  | n + 1, c :: r, o, hl, h => by
    simp only [List.length_cons] at hl ⊢
    have key : ∀ (t : List UInt8) (f : List UInt8 → List UInt8), t.length ≤ n → (bareP t).map f = .ok o → ∃ p, o = f p ∧ p.length ≤ t.length := fun t f ht hm => by
      cases hb : bareP t with
      | error e => rw [hb] at hm; cases hm
      | ok p =>
        rw [hb] at hm
        cases hm
        exact ⟨p, rfl, bareP_len n t p ht hb⟩
    rw [bareP_cons] at h
    split at h
    · cases hg : cmtGo 1 r with
      | error e => rw [hg] at h; cases h
      | ok t =>
        rw [hg] at h
        have := cmtGo_len _ _ _ _ (Nat.le_refl _) hg
        obtain ⟨p, rfl, hp⟩ := key t _ (by omega) h
        simp
        omega
    · split at h
      · cases hg : qGo r with
        | none => rw [hg] at h; cases h
        | some p =>
          obtain ⟨a, t⟩ := p
          rw [hg] at h
          have h1 := (qGo_len _ _ _ _ (Nat.le_refl _) hg).1
          have h2 := congrArg List.length h1
          simp at h2
          obtain ⟨p, rfl, hp⟩ := key t _ (by omega) h
          simp
          omega
      · split at h
        · cases h
        · obtain ⟨p, rfl, hp⟩ := key r _ (by omega) h
          simp
          omega
theorem hasSuffix_one (l : List UInt8) (c : UInt8) : Lib.hasSuffix l [c] = true ↔ l.getLast? = some c := by
  unfold Lib.hasSuffix
  rw [List.isSuffixOf_iff_suffix]
  constructor
  · rintro ⟨t, rfl⟩
    simp
  · intro h
    obtain ⟨t, rfl⟩ := List.getLast?_eq_some_iff.1 h
    exact ⟨t, rfl⟩
/-- cut at the first s: both sides, and whether it is there -/
def cutV (s : UInt8) (l : List UInt8) : List UInt8 × List UInt8 × Bool := match cutAt s l with | some (a, b) => (a, b, true) | none => (l, [], false)
theorem cut_any (l : List UInt8) (s : UInt8) (w : World) (hw : Mx w) (hl : l.length ≤ 1000000000) :
    Calls Tryz.prog 133 #[.string (bs l), .string ⟨#[s]⟩] w fun e w' => e = .returned (.tuple #[.string (bs (cutV s l).1), .string (bs (cutV s l).2.1), .bool (cutV s l).2.2]) ∧ Below w.heap.size w w' := by
  obtain ⟨m, hm⟩ := hw
  refine (Tryz.strings_Cut (bs l) ⟨#[s]⟩ m w (by rw [bs_size]; omega) hm).mono ?_
  rintro e w' ⟨rfl, q, rfl⟩
  rw [bs_toList, show (⟨#[s]⟩ : ByteArray).data.toList = [s] from rfl, lib_cut]
  exact ⟨rfl, (Dn.of w q).below _⟩
theorem csuf_any (l : List UInt8) (s : UInt8) (w : World) (hl : l.length ≤ 1000000000) :
    Calls Tryz.prog 153 #[.string (bs l), .string ⟨#[s]⟩] w fun e w' => e = .returned (.tuple #[.string (bs (if l.getLast? = some s then l.dropLast else l)), .bool (decide (l.getLast? = some s))]) ∧ w' = w := by
  have h := Tryz.strings_CutSuffix (bs l) ⟨#[s]⟩ w (by rw [bs_size]; omega)
  rw [bs_toList, show (⟨#[s]⟩ : ByteArray).data.toList = [s] from rfl] at h
  unfold Lib.trimSuffix at h
  by_cases hs : l.getLast? = some s
  · rw [(hasSuffix_one l s).2 hs] at h
    rw [if_pos hs, decide_eq_true hs, List.dropLast_eq_take]
    exact h
  · have hs' : Lib.hasSuffix l [s] = false := by
      rw [← Bool.not_eq_true]
      exact fun k => hs ((hasSuffix_one l s).1 k)
    rw [hs'] at h
    rw [if_neg hs, decide_eq_false hs]
    exact h
theorem bs_sep (x : List UInt8) (s : UInt8) : bs x ++ (⟨#[s]⟩ : ByteArray) = bs (x ++ [s]) := bs_add x [s]

set_option maxRecDepth 100000 in
set_option maxHeartbeats 4000000 in
theorem addr_any (l : List UInt8) (w : World) (hw : Mx w) (hl : l.length ≤ 1000000) :
    Calls Tryz.prog 86 #[.string (bs l)] w fun e w' => BareOut (addrP l) e ∧ Below w.heap.size w w' := by
  have hb := bare_any l w (by omega)
  cases hbp : bareP l with
  | error k =>
    have hk : ((k : Int) != 0) = true := by have := bareP_err _ _ _ (Nat.le_refl _) hbp; rw [bne_iff_ne]; omega
    have hr : addrP l = .error k := by unfold addrP; rw [hbp]
    have HR := Lib.hid hr
    rw [hbp] at hb
    have hb' : Calls Tryz.prog 130 #[.string (bs l)] w fun e w' => e = .returned (.tuple #[.string (bs []), .int .i64 (k : Int)]) ∧ Below w.heap.size w w' := hb
    clear hb hbp hr
    go_enter Tryz.func86, Tryz.ntmps86
    go_wp2_with fail
    refine hb'.mono ?_
    rintro e w1 ⟨rfl, hb1⟩
    go_wp2_with fail
    go_ret2
    exact ⟨bareOut_err HR.out rfl, hb1⟩
  | ok b =>
    have hbl := bareP_len _ _ _ (Nat.le_refl _) hbp
    have hr : addrP l = match addrIn b with | none => .error 3 | some t => addrAt t := by unfold addrP; rw [hbp]; rfl
    rw [hbp] at hb
    have hb' : Calls Tryz.prog 130 #[.string (bs l)] w fun e w' => e = .returned (.tuple #[.string (bs b), .int .i64 0]) ∧ Below w.heap.size w w' := hb
    have htl := trimB_len b
    obtain ⟨t0, ht0⟩ : ∃ t, trimB b = t := ⟨_, rfl⟩
    have htrim := fun W => tktrim_any b W (by omega)
    unfold addrIn at hr
    rw [ht0] at hr htl htrim
    clear hb hbp ht0
    have hsuf := fun W => csuf_any t0 62 W (by omega)
    go_enter Tryz.func86, Tryz.ntmps86
    go_wp2_with fail
    refine hb'.mono ?_
    rintro e w1 ⟨rfl, hb1⟩
    go_wp2_with fail
    refine (htrim _).mono ?_
    rintro e w2 ⟨rfl, hb2⟩
    have hB2 := hb1.trans (hb2.mono hb1.size)
    go_wp2_with fail
    refine (hsuf _).mono ?_
    rintro e w3 ⟨rfl, rfl⟩
    clear hb1 hb2 htrim hsuf hb'
    have hfin : ∀ s : List UInt8, addrAt s = match cutAt 64 s with | none => .error 3 | some (x, y) => if dotP x && dotP y then .ok (x ++ 64 :: y.map small) else .error 3 := fun _ => rfl
    by_cases hs : t0.getLast? = some 62
    · rw [if_pos hs] at hr ⊢
      rw [decide_eq_true hs]
      have hin : t0.dropLast.length ≤ t0.length := by simp
      clear hs
      generalize t0.dropLast = inn at *
      have hlast := fun W => Tryz.strings_LastIndexByte (bs inn) 60 (by rw [bs_size]; omega) W
      rcases lastCut_lib 60 inn with ⟨h1, h2⟩ | ⟨i, h1, hi, h2⟩
      · have h1' : Lib.lastIndexByte (bs inn) 60 = -1 := h1
        rw [h1'] at hlast
        rw [h2] at hr
        have HR := Lib.hid (show addrP l = .error 3 from hr)
        clear h1 h2 h1' hr hfin
        go_wp2_with fail
        refine (hlast _).mono ?_
        rintro e w4 ⟨rfl, rfl⟩
        go_wp2_with fail
        go_ret2
        exact ⟨bareOut_err HR.out rfl, hB2⟩
      · have h1' : Lib.lastIndexByte (bs inn) 60 = (i : Int) := h1
        rw [h1'] at hlast
        rw [h2] at hr
        have hr2 : addrP l = addrAt (trimB (inn.drop (i + 1))) := hr
        have f0 : (0 : Int) ≤ (i : Int) + 1 := by omega
        have f1 : (i : Int) + 1 ≤ (inn.length : Int) := by omega
        have f2 : IntKind.i64.wrap ((i : Int) + 1) = (i : Int) + 1 := by rw [IntKind.wrap_i64]; omega
        have f3 : ¬ (i : Int) < 0 := by omega
        have hn : ((i : Int) + 1).toNat = i + 1 := by omega
        have htk : (inn.drop (i + 1)).take (inn.length - (i + 1)) = inn.drop (i + 1) := List.take_of_length_le (by rw [List.length_drop]; omega)
        have hdl : (inn.drop (i + 1)).length ≤ inn.length := by rw [List.length_drop]; omega
        have hdl2 := trimB_len (inn.drop (i + 1))
        have htrim := fun W => tktrim_any (inn.drop (i + 1)) W (by omega)
        clear h1 h2 h1' hr
        obtain ⟨s, hss⟩ : ∃ s, trimB (inn.drop (i + 1)) = s := ⟨_, rfl⟩
        rw [hss] at hr2 hdl2 htrim
        rw [hfin] at hr2
        have HR := Lib.hid hr2
        have hsl : s.length ≤ 1000000 := by omega
        clear hss hr2 hfin
        go_wp2_with fail
        refine (hlast _).mono ?_
        rintro e w4 ⟨rfl, rfl⟩
        go_wp2_with fail
        try simp only [hn, htk]
        refine (htrim _).mono ?_
        rintro e w5 ⟨rfl, hb5⟩
        have hB5 := hB2.trans (hb5.mono hB2.size)
        clear htrim hb5 hlast hB2 f0 f1 f2 f3 hn htk hdl hdl2
        have hcut := fun W hW => cut_any s 64 W hW (by omega)
        unfold cutV at hcut
        cases hc : cutAt 64 s with
        | none =>
          rw [hc] at hcut HR
          have HR2 := Lib.hid (show addrP l = .error 3 from HR.out)
          clear hc HR
          go_wp2_with fail
          refine (hcut _ (hw.below hB5)).mono ?_
          rintro e w6 ⟨rfl, hb6⟩
          have hB6 := hB5.trans (hb6.mono hB5.size)
          clear hcut hb6
          go_wp2_with fail
          go_ret2
          exact ⟨bareOut_err HR2.out rfl, hB6⟩
        | some xy =>
          obtain ⟨x, y⟩ := xy
          have hxy := cutAt_len hc
          rw [hc] at hcut HR
          have HR2 := Lib.hid (show addrP l = if dotP x && dotP y then .ok (x ++ 64 :: y.map small) else .error 3 from HR.out)
          have hx : x.length ≤ 1000000 := by omega
          have hy : y.length ≤ 1000000 := by omega
          have hdx := fun W hW => dotted_any x W hW hx
          have hdy := fun W hW => dotted_any y W hW hy
          have hlow := fun W => lower_any y W (by omega)
          clear hc HR hxy
          go_wp2_with fail
          refine (hcut _ (hw.below hB5)).mono ?_
          rintro e w6 ⟨rfl, hb6⟩
          have hB6 := hB5.trans (hb6.mono hB5.size)
          clear hcut hb6 hB5
          rcases Bool.eq_false_or_eq_true (dotP x) with h1 | h1
          · rw [h1] at hdx HR2
            rcases Bool.eq_false_or_eq_true (dotP y) with h2 | h2
            · rw [h2] at hdy HR2
              have HR3 := Lib.hid (show addrP l = .ok (x ++ 64 :: y.map small) from HR2.out)
              have hcat := bs_sep x 64
              have hcat2 := bs_add (x ++ [64]) (y.map small)
              rw [show x ++ [64] ++ y.map small = x ++ 64 :: y.map small by simp] at hcat2
              have hyl : (y.map small).length ≤ 1000000 := by simpa using hy
              generalize y.map small = ym at *
              clear h1 h2 HR2
              go_wp2_with fail
              refine (hdx _ (hw.below hB6)).mono ?_
              rintro e w7 ⟨rfl, hb7⟩
              have hB7 := hB6.trans (hb7.mono hB6.size)
              go_wp2_with fail
              refine (hdy _ (hw.below hB7)).mono ?_
              rintro e w8 ⟨rfl, hb8⟩
              have hB8 := hB7.trans (hb8.mono hB7.size)
              clear hdx hdy hb7 hb8
              go_wp2_with fail
              refine (hlow _).mono ?_
              rintro e w9 ⟨rfl, hb9⟩
              have hB9 := hB8.trans (hb9.mono hB8.size)
              go_wp2_with fail
              go_ret2
              exact ⟨bareOut_ok HR3.out (by first | rfl | (rw [← hcat2, ← hcat])), hB9⟩
            · rw [h2] at hdy HR2
              have HR3 := Lib.hid (show addrP l = .error 3 from HR2.out)
              clear h1 h2 HR2
              go_wp2_with fail
              refine (hdx _ (hw.below hB6)).mono ?_
              rintro e w7 ⟨rfl, hb7⟩
              have hB7 := hB6.trans (hb7.mono hB6.size)
              go_wp2_with fail
              refine (hdy _ (hw.below hB7)).mono ?_
              rintro e w8 ⟨rfl, hb8⟩
              have hB8 := hB7.trans (hb8.mono hB7.size)
              go_wp2_with fail
              go_ret2
              exact ⟨bareOut_err HR3.out rfl, hB8⟩
          · rw [h1] at hdx HR2
            have HR3 := Lib.hid (show addrP l = .error 3 from HR2.out)
            clear h1 HR2
            go_wp2_with fail
            refine (hdx _ (hw.below hB6)).mono ?_
            rintro e w7 ⟨rfl, hb7⟩
            have hB7 := hB6.trans (hb7.mono hB6.size)
            go_wp2_with fail
            go_ret2
            exact ⟨bareOut_err HR3.out rfl, hB7⟩
    · rw [if_neg hs] at hr ⊢
      rw [decide_eq_false hs]
      have hr2 : addrP l = addrAt t0 := hr
      rw [hfin] at hr2
      have HR := Lib.hid hr2
      have hsl : t0.length ≤ 1000000 := by omega
      clear hs hr hr2 hfin
      have hcut := fun W hW => cut_any t0 64 W hW (by omega)
      unfold cutV at hcut
      cases hc : cutAt 64 t0 with
      | none =>
        rw [hc] at hcut HR
        have HR2 := Lib.hid (show addrP l = .error 3 from HR.out)
        clear hc HR
        go_wp2_with fail
        refine (hcut _ (hw.below hB2)).mono ?_
        rintro e w6 ⟨rfl, hb6⟩
        have hB6 := hB2.trans (hb6.mono hB2.size)
        clear hcut hb6
        go_wp2_with fail
        go_ret2
        exact ⟨bareOut_err HR2.out rfl, hB6⟩
      | some xy =>
        obtain ⟨x, y⟩ := xy
        have hxy := cutAt_len hc
        rw [hc] at hcut HR
        have HR2 := Lib.hid (show addrP l = if dotP x && dotP y then .ok (x ++ 64 :: y.map small) else .error 3 from HR.out)
        have hx : x.length ≤ 1000000 := by omega
        have hy : y.length ≤ 1000000 := by omega
        have hdx := fun W hW => dotted_any x W hW hx
        have hdy := fun W hW => dotted_any y W hW hy
        have hlow := fun W => lower_any y W (by omega)
        clear hc HR hxy
        go_wp2_with fail
        refine (hcut _ (hw.below hB2)).mono ?_
        rintro e w6 ⟨rfl, hb6⟩
        have hB6 := hB2.trans (hb6.mono hB2.size)
        clear hcut hb6 hB2
        rcases Bool.eq_false_or_eq_true (dotP x) with h1 | h1
        · rw [h1] at hdx HR2
          rcases Bool.eq_false_or_eq_true (dotP y) with h2 | h2
          · rw [h2] at hdy HR2
            have HR3 := Lib.hid (show addrP l = .ok (x ++ 64 :: y.map small) from HR2.out)
            have hcat := bs_sep x 64
            have hcat2 := bs_add (x ++ [64]) (y.map small)
            rw [show x ++ [64] ++ y.map small = x ++ 64 :: y.map small by simp] at hcat2
            have hyl : (y.map small).length ≤ 1000000 := by simpa using hy
            generalize y.map small = ym at *
            clear h1 h2 HR2
            go_wp2_with fail
            refine (hdx _ (hw.below hB6)).mono ?_
            rintro e w7 ⟨rfl, hb7⟩
            have hB7 := hB6.trans (hb7.mono hB6.size)
            go_wp2_with fail
            refine (hdy _ (hw.below hB7)).mono ?_
            rintro e w8 ⟨rfl, hb8⟩
            have hB8 := hB7.trans (hb8.mono hB7.size)
            clear hdx hdy hb7 hb8
            go_wp2_with fail
            refine (hlow _).mono ?_
            rintro e w9 ⟨rfl, hb9⟩
            have hB9 := hB8.trans (hb9.mono hB8.size)
            go_wp2_with fail
            go_ret2
            exact ⟨bareOut_ok HR3.out (by first | rfl | (rw [← hcat2, ← hcat])), hB9⟩
          · rw [h2] at hdy HR2
            have HR3 := Lib.hid (show addrP l = .error 3 from HR2.out)
            clear h1 h2 HR2
            go_wp2_with fail
            refine (hdx _ (hw.below hB6)).mono ?_
            rintro e w7 ⟨rfl, hb7⟩
            have hB7 := hB6.trans (hb7.mono hB6.size)
            go_wp2_with fail
            refine (hdy _ (hw.below hB7)).mono ?_
            rintro e w8 ⟨rfl, hb8⟩
            have hB8 := hB7.trans (hb8.mono hB7.size)
            go_wp2_with fail
            go_ret2
            exact ⟨bareOut_err HR3.out rfl, hB8⟩
        · rw [h1] at hdx HR2
          have HR3 := Lib.hid (show addrP l = .error 3 from HR2.out)
          clear h1 HR2
          go_wp2_with fail
          refine (hdx _ (hw.below hB6)).mono ?_
          rintro e w7 ⟨rfl, hb7⟩
          have hB7 := hB6.trans (hb7.mono hB6.size)
          go_wp2_with fail
          go_ret2
          exact ⟨bareOut_err HR3.out rfl, hB7⟩
end Tk
end Go.Proofs.YtkllecicddfjpaaGreatDoor
