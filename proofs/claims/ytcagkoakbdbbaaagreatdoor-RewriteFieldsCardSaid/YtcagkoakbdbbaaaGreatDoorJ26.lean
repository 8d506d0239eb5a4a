/- The program's parts: the lines of all armor in a body, cut anew. -/
import Derived.Test.YtcagkoakbdbbaaaGreatDoorJ25
namespace Go.Proofs.YtcagkoakbdbbaaaGreatDoor
set_option linter.unusedVariables false
set_option linter.unusedSimpArgs false
open Go.RowKit Go.Shelf

/-- list[i:j], at Ints, of a row of slices -/
theorem slw_any (A : Option Addr) (n c : Nat) (z1 z2 : Int) (i j : Nat) (h1 : z1 = (i : Int)) (h2 : z2 = (j : Int)) (hij : i ≤ j) (hj : j ≤ n) (hnc : n ≤ c) :
    ∃ A', (∀ K1 K2 W, (Instr.slice 47 (.slice A n c) (some (.int K1 z1)) (some (.int K2 z2)) none).run Tryz.prog W = .ok (.slice A' (j - i) (c - i)) W) ∧ ∀ (W : World) (xs : List Value), xs.length = n → Rv W A xs → Rv W A' ((xs.drop i).take (j - i)) := by
  subst h1
  subst h2
  refine ⟨if c = i then A else A.map (·.add i), fun K1 K2 W => ?_, fun W xs hx h hp => ?_⟩
  · rw [run_slice_lh W 47 A n c (elem_of Tryz.underlying47) K1 K2 (i : Int) (j : Int) (by omega) (by omega) (by omega), elem_eq Tryz.underlying47, Tryz.sizeOf22]
    simp [Result.andThen, sliced]
  · have hp2 : 0 < j - i ∧ i < xs.length := by
      rw [List.length_take, List.length_drop] at hp
      omega
    rw [if_neg (by omega)]
    obtain ⟨b, o, rfl, hc⟩ := h (by omega)
    refine ⟨b, o + i, ?_, fun t v ht => ?_⟩
    · rw [Option.map_some]
      congr 1
      unfold Addr.add
      split <;> simp_all
    · rw [List.getElem?_take] at ht
      split at ht
      · rw [List.getElem?_drop] at ht
        rw [Nat.add_assoc]
        exact hc _ v ht
      · cases ht

def lowC : List UInt8 := [99, 111, 110, 116, 101, 110, 116, 45, 116, 114, 97, 110, 115, 102, 101, 114, 45, 101, 110, 99, 111, 100, 105, 110, 103]
theorem lower_code (w : World) : Calls Tryz.prog 77 #[.string ⟨#[67, 111, 110, 116, 101, 110, 116, 45, 84, 114, 97, 110, 115, 102, 101, 114, 45, 69, 110, 99, 111, 100, 105, 110, 103]⟩] w fun e w' => e = .returned (.string (bs lowC)) ∧ Below w.heap.size w w' := by
  have hs : (⟨#[67, 111, 110, 116, 101, 110, 116, 45, 84, 114, 97, 110, 115, 102, 101, 114, 45, 69, 110, 99, 111, 100, 105, 110, 103]⟩ : ByteArray) = bs cteC := rfl
  have h := Tryz.strings_ToLower_ascii (bs cteC) w (by rw [bs_size]; decide) (fun j b hj => by
    rw [bs_toList] at hj
    have hm := List.mem_of_getElem? hj
    have key : ∀ b ∈ cteC, b.toNat < 128 := by decide
    exact key b hm)
  rw [bs_toList] at h
  rw [hs]
  refine h.mono ?_
  rintro e w' ⟨rfl, hb⟩
  exact ⟨by rw [show (⟨(Lib.toLowerA cteC).toArray⟩ : ByteArray) = bs (Lib.toLowerA cteC) from rfl]; congr 2, hb⟩
theorem wrap_any (A Al : Option Addr) (b : List UInt8) (ps : List (Nat × Nat)) (n cl k : Nat) (w : World) (hA : Rb w A b) (hps : ps.length = n) (hL : Rv w Al (ps.map (lnV A))) (hok : ∀ p ∈ ps, p.1 < p.2 ∧ p.2 ≤ b.length)
    (hnc : n ≤ cl) (hb : b.length ≤ 1000000) (hall : (flatT (lnTold b ps)).length ≤ 1000000) (hk1 : 1 ≤ k) (hk2 : k ≤ 1000) (hn : n ≤ 1000000) :
    Calls Tryz.prog 45 #[.slice Al n cl, .int .i64 k] w fun e w' => (∃ v, e = .returned v ∧ ∃ m, m ≤ (flatT (lnTold b ps)).length ∧ (∀ j, j < m → j * k < (flatT (lnTold b ps)).length) ∧ w'.ownsRow w.heap.size 5 1 v (wrapL k m (flatT (lnTold b ps))).length ((wrapL k m (flatT (lnTold b ps))).map bv)) ∧ Below w.heap.size w w' :=
  callsIn_wide.1 (wrap_in 5 (Nat.le_refl _) A Al b ps n cl k w hA hps hL hok hnc hb hall hk1 hk2 hn)
theorem tail_end {b l : List UInt8} (h : l ∈ fl b) (ht : textL l = []) : l.getLast? = some 10 := by
  unfold textL at ht
  by_cases h1 : l.getLast? = some 10
  · exact h1
  · rw [if_neg h1] at ht
    exact absurd ht (fl_ne h)

/-- a line of the program's row -/
theorem ln_get {w W : World} {b : List UInt8} {b0 o0 pn cl i B : Nat} {Al : Option Addr} {ps : List (Nat × Nat)} (hls : LnRow b ps) (hle : lnEnd ps = b.length) (hA : Rb w (some ⟨b0, o0, none⟩) b) (hown : W.ownsRow B 22 1 (.slice Al pn cl) pn (ps.map (lnV (some ⟨b0, o0, none⟩)))) (hi : i < pn) (hpn : ps.length = pn) :
    ∃ bl ol of m l, Al = some ⟨bl, ol, none⟩ ∧ (fl b)[i]? = some l ∧ l.length = m ∧ m ≤ b.length ∧ W.cell? ⟨bl, ol + i, none⟩ = some (.slice (some ⟨b0, of, none⟩) m m) ∧ ∀ W', Below w.heap.size w W' → Rb W' (some ⟨b0, of, none⟩) l := by
  obtain ⟨p, hp⟩ : ∃ p, ps[i]? = some p := ⟨_, List.getElem?_eq_getElem (by omega)⟩
  obtain ⟨hl1, hl2, hp1, hp2⟩ := ln_at hls hle hp
  obtain ⟨_, _, e9, _, _, hRv, _⟩ := own_form hown
  cases e9
  obtain ⟨bl, ol, x, rfl, hx, hcx⟩ := hRv.one (k := i) (by rw [List.length_map]; omega)
  have hx2 := hx.out
  rw [List.getElem?_map, hp] at hx2
  have hx3 : lnV (some ⟨b0, o0, none⟩) p = x := Option.some.inj hx2
  refine ⟨bl, ol, o0 + p.1, p.2 - p.1, _, rfl, hl1, hl2, by omega, ?_, fun W' hW => rb_sg (hA.below hW) p.1 p.2⟩
  rw [hcx, ← hx3]
  rfl

set_option maxRecDepth 100000 in
set_option maxHeartbeats 4000000 in
theorem parts_any (A : Option Addr) (b : List UInt8) (n c k : Nat) (w : World) (hT : Lib.Utf8Tabs 3 4 w) (hn : b.length = n) (hA : Rb w A b) (hnc : n ≤ c) (hb : n ≤ 1000000) (hk1 : 1 ≤ k) (hk2 : k ≤ 1000) :
    Calls Tryz.prog 46 #[.slice A n c, .int .i64 k] w fun e w' => (∃ v, e = .returned v ∧ ∃ r, TB b r ∧ w'.ownsRow w.heap.size 5 1 v r.length (r.map bv)) ∧ Below w.heap.size w w' := by
  have hsp := callsIn_wide.1 (lsplit_in 5 (Nat.le_refl _) A b n c w hn hA hnc (by omega))
  have HN := Lib.hid hn
  clear hn
  go_enter Tryz.func46, Tryz.ntmps46
  go_wp2_with fail
  refine hsp.mono ?_
  rintro e w1 ⟨⟨v, ps, rfl, hls, hle, hown⟩, hb1⟩
  obtain ⟨Al, cl, hv, hlc, hlm, _, _⟩ := own_form hown
  subst hv
  have HLS := Lib.hid hls
  have HLE := Lib.hid hle
  obtain ⟨pn, hpn2⟩ : ∃ pn, ps.length = pn := ⟨_, rfl⟩
  have HPN := Lib.hid hpn2
  have hpn : pn ≤ n := by have h := hls.2.2.2; rw [hle, HN.out, hpn2] at h; exact h
  have HFL : Hid ((fl b).length = pn) := Lib.hid (by rw [← hls.all hle, lnTold, List.length_map, hpn2])
  have hlc' : pn ≤ cl := by rw [← hpn2]; exact hlc
  rw [hpn2] at hown ⊢
  clear hls hle hsp hpn2 hlc
  go_wp2_with fail
  go_loopw [4, 6, 7, 8] (fun s4 s6 s7 s8 wr => ∃ (i q : Nat) (ou hd : Bool) (out : List UInt8), s8 = .int .i64 i ∧ s6 = .bool ou ∧ s7 = .bool hd ∧ i ≤ pn ∧ q ≤ 7000000 ∧ Hid (PI (fl b) i (hd && ou) out ∧ out.length = q) ∧ Hid (wr.ownsRow w1.heap.size 5 1 s4 q (out.map bv)) ∧ Below w1.heap.size w1 wr) (fun _ _ _ s8 _ => pn - (intOf s8).toNat)
  case atStart => exact ⟨0, 0, false, false, [], rfl, rfl, rfl, by omega, by omega, Lib.hid ⟨PI.zero _, rfl⟩, Lib.hid (World.ownsRow_nil _ _ _ _), Below.refl _ _⟩
  case round =>
    rename_i s4 s6 s7
    obtain ⟨i, q, ou, hd, out, rfl, rfl, rfl, hi, hq, HP, HO, hB⟩ := hrel
    have hbr : Below w.heap.size w wr := hb1.trans (hB.mono hb1.size)
    have hsr := hB.size
    obtain ⟨Ao, co, hov, _, _, _, _⟩ := own_form HO.out
    subst hov
    by_cases hlt : i < pn
    · obtain ⟨p, hp⟩ : ∃ p, ps[i]? = some p := ⟨_, List.getElem?_eq_getElem (by rw [HPN.out]; exact hlt)⟩
      obtain ⟨hl1, hl2, hp1, hp2⟩ := ln_at HLS.out HLE.out hp
      obtain ⟨b0, o0, _, hAe, _, _⟩ := hA.one (k := 0) (by omega)
      subst hAe
      obtain ⟨l, hl⟩ : ∃ l, sg b p.1 p.2 = l := ⟨_, rfl⟩
      have HRL : Hid (∀ W, Below w.heap.size w W → Rb W (some ⟨b0, o0 + p.1, none⟩) l) := Lib.hid (fun W hW => by rw [← hl]; exact rb_sg (hA.below hW) p.1 p.2)
      rw [hl] at hl1 hl2
      have HL1 := Lib.hid hl1
      have hor := own_below hown hB
      obtain ⟨_, _, e9, _, _, hRv, _⟩ := own_form hor
      cases e9
      obtain ⟨bl, ol, x, rfl, hx, hcx⟩ := hRv.one (k := i) (by rw [List.length_map, HPN.out]; exact hlt)
      have hx2 := hx.out
      rw [List.getElem?_map, hp] at hx2
      have hx3 : lnV (some ⟨b0, o0, none⟩) p = x := Option.some.inj hx2
      have hx4 : x = .slice (some ⟨b0, o0 + p.1, none⟩) l.length l.length := by rw [← hx3, hl2]; rfl
      subst hx4
      obtain ⟨m, hm⟩ : ∃ m, l.length = m := ⟨_, rfl⟩
      have HM := Lib.hid hm
      rw [hm] at hcx hl2
      have hmn : m ≤ n := by rw [hl2, ← HN.out]; omega
      obtain ⟨of, hof⟩ : ∃ of, o0 + p.1 = of := ⟨_, rfl⟩
      rw [hof] at hcx HRL
      obtain ⟨tn, htn⟩ : ∃ tn, (textL l).length = tn := ⟨_, rfl⟩
      have HTN := Lib.hid htn
      have htl : tn ≤ m := by rw [← htn, ← hm]; exact textL_len l
      have htx : ∀ W, Below w.heap.size w W → Calls Tryz.prog 31 #[.slice (some ⟨b0, of, none⟩) m m] W fun e w' => e = .returned (.slice (some ⟨b0, of, none⟩) tn m) ∧ Below W.heap.size W w' := fun W hW => by
        have h := text_any (some ⟨b0, of, none⟩) l m m W HM.out (HRL.out W hW) (Nat.le_refl _) (by omega)
        rw [HTN.out] at h
        exact h
      have hmk : ∀ W, Below w.heap.size w W → Calls Tryz.prog 76 #[.slice (some ⟨b0, of, none⟩) m m] W fun e w' => e = .returned (.bool (Lib.hasPrefix l [45, 45])) ∧ Below W.heap.size W w' := fun W hW => marked_any (some ⟨b0, of, none⟩) l m m W HM.out (HRL.out W hW) (Nat.le_refl _)
      have hsrc : Src Tryz.prog 1 22 (.slice (some ⟨b0, of, none⟩) m m) m (l.map bv) wr := Src_rb Tryz.underlying22 HM.out (HRL.out wr hbr)
      have hqm : q + m ≤ 7000000 := by
        have h1 := (HP.out.1.line HL1.out (g := false) (by simp)).len
        rw [List.length_append, HP.out.2, HM.out, HN.out] at h1
        omega
      have HQ2 : Hid ((out ++ l).length = q + m) := Lib.hid (by rw [List.length_append, HP.out.2, HM.out])
      obtain ⟨mk, hmk2⟩ : ∃ mk, Lib.hasPrefix l [45, 45] = mk := ⟨_, rfl⟩
      rw [hmk2] at hmk
      clear hx hx2 hx3 hl hm hl1 hp2 hRv hl2 hp1 hof hp htn hmk2 hor
      go_wp2_with (at_builtin; refine wpList_app rfl _ _ _ _ rfl TU8 HO.out rfl hsrc rfl (by omega) hsr ?_; intro v3 w3 hown3 hgr3 hat3; have hB3 := below_app hB HO.out hgr3 hsr (Nat.le_refl _); obtain ⟨A3, c3, hv3, _, _, _, _⟩ := own_form hown3; subst hv3)
      have hbr3 : Below w.heap.size w w3 := hb1.trans (hB3.mono hb1.size)
      have hsr3 := hB3.size
      have hown3' : Hid (w3.ownsRow w1.heap.size 5 1 (.slice A3 (q + m) c3) (q + m) ((out ++ l).map bv)) := Lib.hid (by rw [List.map_append]; exact hown3)
      clear hown3 hgr3 hat3 hsrc HO hcx
      refine (hmk _ hbr3).mono ?_
      rintro e w4 ⟨rfl, hb4⟩
      have hB4 := hB3.trans (hb4.mono hsr3)
      have hbr4 : Below w.heap.size w w4 := hb1.trans (hB4.mono hb1.size)
      have hsr4 := hB4.size
      have hO4 : Hid (w4.ownsRow w1.heap.size 5 1 (.slice A3 (q + m) c3) (q + m) ((out ++ l).map bv)) := Lib.hid (own_below hown3'.out hb4)
      clear hown3'
      cases mk with
      | true =>
        go_wp2_with fail
        go_roundw
        case rel => exact ⟨i + 1, q + m, false, true, out ++ l, by go_num, rfl, rfl, by omega, hqm, Lib.hid ⟨HP.out.1.line HL1.out (by simp), HQ2.out⟩, hO4, hB4⟩
        case measure => simp [intOf]; omega
      | false =>
        cases hd with
        | false =>
          go_wp2_with fail
          go_roundw
          case rel => exact ⟨i + 1, q + m, ou, false, out ++ l, by go_num, rfl, rfl, by omega, hqm, Lib.hid ⟨HP.out.1.line HL1.out (by simp), HQ2.out⟩, hO4, hB4⟩
          case measure => simp [intOf]; omega
        | true =>
          by_cases ht0 : 0 < tn
          · have ht1 : Hid (textL l ≠ []) := Lib.hid (by intro e; have := HTN.out; rw [e] at this; simp at this; omega)
            cases ou with
            | true =>
              go_wp2_with fail
              refine (htx _ hbr4).mono ?_
              rintro e w5 ⟨rfl, hb5⟩
              have hB5 := hB4.trans (hb5.mono hsr4)
              go_wp2_with fail
              go_roundw
              case rel => exact ⟨i + 1, q + m, true, true, out ++ l, by go_num, rfl, rfl, by omega, hqm, Lib.hid ⟨HP.out.1.line HL1.out (by simp), HQ2.out⟩, Lib.hid (own_below hO4.out hb5), hB5⟩
              case measure => simp [intOf]; omega
            | false =>
              go_wp2_with fail
              refine (htx _ hbr4).mono ?_
              rintro e w5 ⟨rfl, hb5⟩
              have hB5 := hB4.trans (hb5.mono hsr4)
              have hbr5 : Below w.heap.size w w5 := hb1.trans (hB5.mono hb1.size)
              have hO5 : Hid (w5.ownsRow w1.heap.size 5 1 (.slice A3 (q + m) c3) (q + m) ((out ++ l).map bv)) := Lib.hid (own_below hO4.out hb5)
              go_wp2_with fail
              refine (htx _ hbr5).mono ?_
              rintro e w6 ⟨rfl, hb6⟩
              have hB6 := hB5.trans (hb6.mono hB5.size)
              have hbr6 : Below w.heap.size w w6 := hb1.trans (hB6.mono hb1.size)
              have hO6 : Hid (w6.ownsRow w1.heap.size 5 1 (.slice A3 (q + m) c3) (q + m) ((out ++ l).map bv)) := Lib.hid (own_below hO5.out hb6)
              have hsq := squeezed_any (some ⟨b0, of, none⟩) (textL l) tn m w6 (tabs_below hT hbr6) HTN.out (by rw [textL_take]; exact (HRL.out _ hbr6).take _) (by omega)
              obtain ⟨sq, hsq2⟩ : ∃ sq, Lib.mapD sqF (textL l) = sq := ⟨_, rfl⟩
              rw [hsq2] at hsq
              clear hsq2
              go_wp2_with fail
              refine hsq.mono ?_
              rintro e w7 ⟨rfl, hb7⟩
              have hB7 := hB6.trans (hb7.mono hB6.size)
              have hO7 : Hid (w7.ownsRow w1.heap.size 5 1 (.slice A3 (q + m) c3) (q + m) ((out ++ l).map bv)) := Lib.hid (own_below hO6.out hb7)
              go_wp2_with fail
              refine (lower_code _).mono ?_
              rintro e w8 ⟨rfl, hb8⟩
              have hB8 := hB7.trans (hb8.mono hB7.size)
              have hO8 : Hid (w8.ownsRow w1.heap.size 5 1 (.slice A3 (q + m) c3) (q + m) ((out ++ l).map bv)) := Lib.hid (own_below hO7.out hb8)
              go_wp2_with fail
              go_roundw
              case rel => exact ⟨i + 1, q + m, _, true, out ++ l, by go_num, rfl, rfl, by omega, hqm, Lib.hid ⟨HP.out.1.line HL1.out (fun _ => .inr ht1.out), HQ2.out⟩, hO8, hB8⟩
              case measure => simp [intOf]; omega
          · obtain rfl : tn = 0 := by omega
            have ht1 : Hid (textL l = []) := Lib.hid (List.eq_nil_of_length_eq_zero HTN.out)
            cases ou with
            | false =>
              go_wp2_with fail
              refine (htx _ hbr4).mono ?_
              rintro e w5 ⟨rfl, hb5⟩
              have hB5 := hB4.trans (hb5.mono hsr4)
              go_wp2_with fail
              obtain ⟨wo, rfl⟩ : ∃ wo : World, wo = wr := ⟨_, rfl⟩
              go_loopw [10] (fun s10 wq => s10 = .int .i64 ((i : Int) + 1) ∧ Below w5.heap.size w5 wq) (fun _ _ => 0)
              case atStart => exact ⟨rfl, Below.refl _ _⟩
              case round =>
                obtain ⟨rfl, hBq⟩ := hrel
                obtain ⟨wq, rfl⟩ : ∃ wq : World, wq = wr := ⟨_, rfl⟩
                have hBq5 := hB5.trans (hBq.mono hB5.size)
                have hOq : Hid (wq.ownsRow w1.heap.size 5 1 (.slice A3 (q + m) c3) (q + m) ((out ++ l).map bv)) := Lib.hid (own_below (own_below hO4.out hb5) hBq)
                go_wp2_with fail
                go_roundw
                case rel => exact ⟨i + 1, q + m, false, false, out ++ l, by go_num, rfl, rfl, by omega, hqm, Lib.hid ⟨HP.out.1.line HL1.out (by simp), HQ2.out⟩, hOq, hBq5⟩
                case measure => simp [intOf]; omega
            | true =>
              go_wp2_with fail
              refine (htx _ hbr4).mono ?_
              rintro e w5 ⟨rfl, hb5⟩
              have hB5 := hB4.trans (hb5.mono hsr4)
              have hO5 : Hid (w5.ownsRow w1.heap.size 5 1 (.slice A3 (q + m) c3) (q + m) ((out ++ l).map bv)) := Lib.hid (own_below hO4.out hb5)
              clear htx hmk hO4
              go_wp2_with fail
              obtain ⟨wo, rfl⟩ : ∃ wo : World, wo = wr := ⟨_, rfl⟩
              go_loopw [10] (fun s10 wx => ∃ t : Nat, s10 = .int .i64 t ∧ i + 1 ≤ t ∧ t ≤ pn ∧ Below w5.heap.size w5 wx) (fun s10 _ => pn - (intOf s10).toNat)
              case atStart => exact ⟨i + 1, by go_num, by omega, by omega, Below.refl _ _⟩
              case round =>
                obtain ⟨wx, rfl⟩ : ∃ wx : World, wx = wr := ⟨_, rfl⟩
                obtain ⟨t, rfl, hit, htp, hBx5⟩ := hrel
                have hBx := hB5.trans (hBx5.mono hB5.size)
                have hOx : Hid (wx.ownsRow w1.heap.size 5 1 (.slice A3 (q + m) c3) (q + m) ((out ++ l).map bv)) := Lib.hid (own_below hO5.out hBx5)
                by_cases htl2 : t < pn
                · obtain ⟨_, _, of2, m2, l2, e9, hg2, hm2, hml, hcx2, hrl2⟩ := ln_get (w := w) (W := wx) HLS.out HLE.out hA (own_below hown hBx) htl2 HPN.out
                  cases e9
                  have hbx : Below w.heap.size w wx := hb1.trans (hBx.mono hb1.size)
                  have hmk2 : Calls Tryz.prog 76 #[.slice (some ⟨b0, of2, none⟩) m2 m2] wx fun e w' => e = .returned (.bool (Lib.hasPrefix l2 [45, 45])) ∧ Below wx.heap.size wx w' := marked_any (some ⟨b0, of2, none⟩) l2 m2 m2 wx hm2 (hrl2 wx hbx) (Nat.le_refl _)
                  obtain ⟨mk, hmk3⟩ : ∃ mk, Lib.hasPrefix l2 [45, 45] = mk := ⟨_, rfl⟩
                  rw [hmk3] at hmk2
                  clear hmk3 hrl2 hg2 hm2 hml
                  go_wp2_with fail
                  refine hmk2.mono ?_
                  rintro e wy ⟨rfl, hby⟩
                  cases mk with
                  | false =>
                    go_wp2_with fail
                    go_roundw
                    case rel => exact ⟨t + 1, by go_num, by omega, by omega, hBx5.trans (hby.mono hBx5.size)⟩
                    case measure => simp [intOf]; omega
                  | true =>
                    replace hOx : Hid (wy.ownsRow w1.heap.size 5 1 (.slice A3 (q + m) c3) (q + m) ((out ++ l).map bv)) := Lib.hid (own_below hOx.out hby)
                    replace hBx := hBx.trans (hby.mono hBx.size)
                    clear hcx2 hbx hmk2 hby
                    obtain ⟨wx, rfl⟩ : ∃ wx, wx = wy := ⟨_, rfl⟩
                    obtain ⟨A9, hs9, hr9⟩ := slw_any (some ⟨bl, ol, none⟩) pn cl ((i : Int) + 1) (t : Int) (i + 1) t (by omega) rfl hit htp hlc'
                    have hps9 : ((ps.drop (i + 1)).take (t - (i + 1))).length = t - (i + 1) := by rw [List.length_take, List.length_drop, HPN.out]; omega
                    have hL9 : Rv wx A9 (((ps.drop (i + 1)).take (t - (i + 1))).map (lnV (some ⟨b0, o0, none⟩))) := by
                      have h := hr9 wx (ps.map (lnV (some ⟨b0, o0, none⟩))) (by rw [List.length_map, HPN.out]) (by obtain ⟨_, _, e9, _, _, hRv, _⟩ := own_form (own_below hown hBx); cases e9; exact hRv)
                      rwa [← List.map_drop, ← List.map_take] at h
                    have hto : lnTold b ((ps.drop (i + 1)).take (t - (i + 1))) = ((fl b).drop (i + 1)).take (t - (i + 1)) := by rw [← HLS.out.all HLE.out, lnTold, lnTold, List.map_take, List.map_drop]
                    obtain ⟨all, hal⟩ : ∃ all, flatT (((fl b).drop (i + 1)).take (t - (i + 1))) = all := ⟨_, rfl⟩
                    have HAL := Lib.hid hal
                    have hall9 : all.length ≤ 1000000 := by
                      have h1 := flat_len2 b
                      have h2 : flatT ((fl b).take (i + 1)) ++ flatT (((fl b).drop (i + 1)).take (t - (i + 1))) ++ flatT (((fl b).drop (i + 1)).drop (t - (i + 1))) = flatT (fl b) := by rw [List.append_assoc, ← flatT_app, ← flatT_app, List.take_append_drop, List.take_append_drop]
                      have h3 := congrArg List.length h2
                      rw [List.length_append, List.length_append, hal] at h3
                      rw [HN.out] at h1
                      omega
                    have hwr := wrap_any (some ⟨b0, o0, none⟩) A9 b ((ps.drop (i + 1)).take (t - (i + 1))) (t - (i + 1)) (cl - (i + 1)) k wx (hA.below (hb1.trans (hBx.mono hb1.size))) hps9 hL9 (fun p hp => HLS.out.2.2.1 p (List.mem_of_mem_drop (List.mem_of_mem_take hp))) (by omega) (by rw [HN.out]; exact hb) (by rw [hto, hal]; exact hall9) hk1 hk2 (by omega)
                    rw [hto, hal] at hwr
                    clear hto hal hr9 hL9 hps9
                    go_wp2_with fail
                    refine hwr.mono ?_
                    rintro e w9 ⟨⟨v9, rfl, mm, hmm1, hmm2, hov9⟩, hb9⟩
                    have hB9 := hBx.trans (hb9.mono hBx.size)
                    have hsr9 := hB9.size
                    obtain ⟨rs, hrs⟩ : ∃ rs, wrapL k mm all = rs := ⟨_, rfl⟩
                    have hO9 : Hid (w9.ownsRow w1.heap.size 5 1 (.slice A3 (q + m) c3) (q + m) ((out ++ l).map bv)) := Lib.hid (own_below hOx.out hb9)
                    have hrg := HP.out.1.line HL1.out (g := true) (by simp)
                    have hce : out ++ l = [] ∨ (out ++ l).getLast? = some 10 := .inr (last_app (tail_end (List.mem_of_getElem? HL1.out) ht1.out))
                    have HRG : Hid (PI (fl b) t false (out ++ l ++ rs ++ (if true then [13, 10] else []))) := Lib.hid (by
                      rcases hrg.region hce hit (by rw [HFL.out]; exact htp) (by omega) HAL.out.symm hmm1 hmm2 true with h | h
                      · rw [← hrs]; exact h
                      · rw [HFL.out] at h; simp at h)
                    rw [hrs] at hov9
                    have hrl := HRG.out.len
                    rw [HN.out] at hrl
                    obtain ⟨rn, hrn⟩ : ∃ rn, rs.length = rn := ⟨_, rfl⟩
                    have hqr : q + m + rn + 2 ≤ 7000000 := by have h := HQ2.out; simp [hrn] at hrl h; omega
                    have HRN := Lib.hid hrn
                    obtain ⟨A8, c8, e8, hR8⟩ : ∃ A8 c8, v9 = .slice A8 rn c8 ∧ Rb w9 A8 rs := by obtain ⟨A8, c8, e8, _, _, h, _⟩ := own_slice hov9; exact ⟨A8, c8, by rw [e8, hrn], h⟩
                    subst e8
                    have HQ3 : Hid ((out ++ l ++ rs).length = q + m + rn) := Lib.hid (by rw [List.length_append, HQ2.out, hrn])
                    clear hrg hce hmm1 hmm2 hov9 hrs hrn hrl hwr
                    go_wp2_with (first
                      | (at_builtin; refine wpList_app rfl (.tmp 69) _ _ _ rfl TU8 hO9.out rfl (Src_rb Tryz.underlying22 HRN.out hR8) rfl (by omega) hsr9 ?_; intro v10 w10 hown10 hgr10 hat10; have hB10 := below_app hB9 hO9.out hgr10 hsr9 (Nat.le_refl _); have hs10 := hB10.size; obtain ⟨A10, c10, hv10, _, _, _, _⟩ := own_form hown10; subst hv10; have hO10 : w10.ownsRow w1.heap.size 5 1 (.slice A10 (q + m + rn) c10) (q + m + rn) ((out ++ l ++ rs).map bv) := (by rw [List.map_append]; exact hown10))
                      | (at_builtin; refine wpList_app rfl (.tmp 82) _ _ _ rfl TU8 hO10 rfl (Src_str Tryz.underlying9 [13, 10]) rfl (by simp only [List.length_cons, List.length_nil]; omega) hs10 ?_; intro v11 w11 hown11 hgr11 hat11; have hB11 := below_app hB10 hO10 hgr11 hs10 (Nat.le_refl _)))
                    go_roundw
                    case rel => exact ⟨t, q + m + rn + 2, true, false, out ++ l ++ rs ++ [13, 10], by go_num, rfl, rfl, htp, by omega, Lib.hid ⟨HRG.out, by rw [List.length_append, HQ3.out]; rfl⟩, Lib.hid (by rw [List.map_append]; exact hown11), hB11⟩
                    case measure => simp [intOf]; omega
                · obtain rfl : pn = t := by omega
                  obtain ⟨A9, hs9, hr9⟩ := slw_any (some ⟨bl, ol, none⟩) pn cl ((i : Int) + 1) (pn : Int) (i + 1) pn (by omega) rfl hit htp hlc'
                  have hps9 : ((ps.drop (i + 1)).take (pn - (i + 1))).length = pn - (i + 1) := by rw [List.length_take, List.length_drop, HPN.out]; omega
                  have hL9 : Rv wx A9 (((ps.drop (i + 1)).take (pn - (i + 1))).map (lnV (some ⟨b0, o0, none⟩))) := by
                    have h := hr9 wx (ps.map (lnV (some ⟨b0, o0, none⟩))) (by rw [List.length_map, HPN.out]) (by obtain ⟨_, _, e9, _, _, hRv, _⟩ := own_form (own_below hown hBx); cases e9; exact hRv)
                    rwa [← List.map_drop, ← List.map_take] at h
                  have hto : lnTold b ((ps.drop (i + 1)).take (pn - (i + 1))) = ((fl b).drop (i + 1)).take (pn - (i + 1)) := by rw [← HLS.out.all HLE.out, lnTold, lnTold, List.map_take, List.map_drop]
                  obtain ⟨all, hal⟩ : ∃ all, flatT (((fl b).drop (i + 1)).take (pn - (i + 1))) = all := ⟨_, rfl⟩
                  have HAL := Lib.hid hal
                  have hall9 : all.length ≤ 1000000 := by
                    have h1 := flat_len2 b
                    have h2 : flatT ((fl b).take (i + 1)) ++ flatT (((fl b).drop (i + 1)).take (pn - (i + 1))) ++ flatT (((fl b).drop (i + 1)).drop (pn - (i + 1))) = flatT (fl b) := by rw [List.append_assoc, ← flatT_app, ← flatT_app, List.take_append_drop, List.take_append_drop]
                    have h3 := congrArg List.length h2
                    rw [List.length_append, List.length_append, hal] at h3
                    rw [HN.out] at h1
                    omega
                  have hwr := wrap_any (some ⟨b0, o0, none⟩) A9 b ((ps.drop (i + 1)).take (pn - (i + 1))) (pn - (i + 1)) (cl - (i + 1)) k wx (hA.below (hb1.trans (hBx.mono hb1.size))) hps9 hL9 (fun p hp => HLS.out.2.2.1 p (List.mem_of_mem_drop (List.mem_of_mem_take hp))) (by omega) (by rw [HN.out]; exact hb) (by rw [hto, hal]; exact hall9) hk1 hk2 (by omega)
                  rw [hto, hal] at hwr
                  clear hto hal hr9 hL9 hps9
                  go_wp2_with fail
                  refine hwr.mono ?_
                  rintro e w9 ⟨⟨v9, rfl, mm, hmm1, hmm2, hov9⟩, hb9⟩
                  have hB9 := hBx.trans (hb9.mono hBx.size)
                  have hsr9 := hB9.size
                  obtain ⟨rs, hrs⟩ : ∃ rs, wrapL k mm all = rs := ⟨_, rfl⟩
                  have hO9 : Hid (w9.ownsRow w1.heap.size 5 1 (.slice A3 (q + m) c3) (q + m) ((out ++ l).map bv)) := Lib.hid (own_below hOx.out hb9)
                  have hrg := HP.out.1.line HL1.out (g := true) (by simp)
                  have hce : out ++ l = [] ∨ (out ++ l).getLast? = some 10 := .inr (last_app (tail_end (List.mem_of_getElem? HL1.out) ht1.out))
                  have HRG : Hid (PI (fl b) pn false (out ++ l ++ rs ++ (if false then [13, 10] else []))) := Lib.hid (by
                    rcases hrg.region hce hit (by rw [HFL.out]; exact htp) (by omega) HAL.out.symm hmm1 hmm2 false with h | h
                    · rw [← hrs]; exact h
                    · rw [HFL.out] at h; exact absurd h.2 (Nat.lt_irrefl _))
                  rw [hrs] at hov9
                  have hrl := HRG.out.len
                  rw [HN.out] at hrl
                  obtain ⟨rn, hrn⟩ : ∃ rn, rs.length = rn := ⟨_, rfl⟩
                  have hqr : q + m + rn ≤ 7000000 := by have h := HQ2.out; simp [hrn] at hrl h; omega
                  have HRN := Lib.hid hrn
                  obtain ⟨A8, c8, e8, hR8⟩ : ∃ A8 c8, v9 = .slice A8 rn c8 ∧ Rb w9 A8 rs := by obtain ⟨A8, c8, e8, _, _, h, _⟩ := own_slice hov9; exact ⟨A8, c8, by rw [e8, hrn], h⟩
                  subst e8
                  have HQ3 : Hid ((out ++ l ++ rs).length = q + m + rn) := Lib.hid (by rw [List.length_append, HQ2.out, hrn])
                  clear hrg hce hmm1 hmm2 hov9 hrs hrn hrl hwr
                  go_wp2_with (at_builtin; refine wpList_app rfl (.tmp 69) _ _ _ rfl TU8 hO9.out rfl (Src_rb Tryz.underlying22 HRN.out hR8) rfl (by omega) hsr9 ?_; intro v10 w10 hown10 hgr10 hat10; have hB10 := below_app hB9 hO9.out hgr10 hsr9 (Nat.le_refl _); have hs10 := hB10.size; obtain ⟨A10, c10, hv10, _, _, _, _⟩ := own_form hown10; subst hv10; have hO10 : w10.ownsRow w1.heap.size 5 1 (.slice A10 (q + m + rn) c10) (q + m + rn) ((out ++ l ++ rs).map bv) := (by rw [List.map_append]; exact hown10))
                  go_roundw
                  case rel => exact ⟨pn, q + m + rn, true, false, out ++ l ++ rs, by go_num, rfl, rfl, htp, by omega, Lib.hid ⟨by have h := HRG.out; simp only [Bool.false_eq_true, if_false, List.append_nil] at h; exact h, HQ3.out⟩, Lib.hid hO10, hB10⟩
                  case measure => simp [intOf]; omega
    · obtain rfl : i = pn := by omega
      go_wp2_with fail
      refine bodyPost_ret (v := .slice Ao q co) (by simp [results, Tryz.results46, go_sem]) rfl ⟨⟨_, rfl, out, HP.out.1.done (by rw [HFL.out]; exact Nat.le_refl _), ?_⟩, hbr⟩
      rw [HP.out.2]
      exact own_base HO.out hb1.size
end Go.Proofs.YtcagkoakbdbbaaaGreatDoor
