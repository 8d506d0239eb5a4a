/- bytes.Replace of CR LF by LF, and the program's bare. · The program's bare, rest, name. -/
import Derived.Test.YtcagkoakbdbbaaaGreatDoorJ10
import Derived.Test.YtcagkoakbdbbaaaGreatDoorJ11
namespace Go.Proofs.YtcagkoakbdbbaaaGreatDoor
set_option linter.unusedVariables false
set_option linter.unusedSimpArgs false
open Go.RowKit

theorem rb_heap {w : World} {g : Nat} {L : List UInt8} {t : TypeId} {fr : Nat × Nat} (h : w.heap[g]? = some (.cells (L.map bv).toArray t fr)) : Rb w (some ⟨g, 0, none⟩) L := fun _ => by
  refine ⟨g, 0, rfl, fun j v hj => ?_⟩
  rw [Nat.zero_add]
  simp only [World.cell?, h]
  simpa using hj

set_option maxRecDepth 100000 in
set_option maxHeartbeats 1000000 in
theorem replace_any (A : Option Addr) (b : List UInt8) (B1 B2 d1 d2 n c : Nat) (w : World) (hn : b.length = n) (hA : Rb w A b) (hpl : Pl A c) (hnc : n ≤ c) (hb : n ≤ 1000000) (hs : Rb w (some ⟨B1, 0, none⟩) [13, 10]) (ht : Rb w (some ⟨B2, 0, none⟩) [10]) (hw : MxR w) :
    Calls Tryz.prog 58 #[.slice A n c, .slice (some ⟨B1, 0, none⟩) 2 d1, .slice (some ⟨B2, 0, none⟩) 1 d2, .int .i64 (-1)] w fun e w' => BOut (bareL b) e w' ∧ Below w.heap.size w w' := by
  have hcn := count_any A b B1 d1 n c w hn hA hpl hnc (by omega) hs hw
  have HN := Lib.hid hn
  have hcl := cnt_len b.length b (Nat.le_refl _)
  rw [hn] at hcl
  have HCL := Lib.hid hcl
  obtain ⟨m, hm⟩ : ∃ m, cntN b = m := ⟨_, rfl⟩
  have HM := Lib.hid hm
  rw [hm] at hcn hcl
  obtain ⟨hcl1, _⟩ := hcl
  clear hn hm
  rcases Nat.eq_zero_or_pos m with h0 | h0
  · subst h0
    go_enter Tryz.func58, Tryz.ntmps58
    go_wp2_with fail
    refine hcn.mono ?_
    rintro e w1 ⟨rfl, hd1⟩
    have hB1 := hd1.below w.heap.size
    have hA1 := hA.below hB1
    have hs1 := hB1.size
    go_wp2_with (at_builtin; refine wpList_app rfl _ _ _ _ rfl TU8 (World.ownsRow_nil w1 w.heap.size 5 1) rfl (Src_rb Tryz.underlying22 HN.out hA1) rfl (by omega) hs1 ?_; intro v3 w3 hown3 hgr3 hat3; have hB3 := below_app hB1 (World.ownsRow_nil w1 w.heap.size 5 1) hgr3 hs1 (Nat.le_refl _))
    go_ret
    refine ⟨?_, hB3⟩
    rw [cnt_zero HM.out]
    exact BOut.own (by simpa using hown3)
  · obtain ⟨N, rfl⟩ : ∃ N, n = N + m := ⟨n - m, by omega⟩
    have hmN : m ≤ N := by omega
    obtain ⟨b0, o0, rfl, _⟩ := hA (by have := HN.out; simp; omega)
    have HBL : Hid ((bareL b).length = N) := Lib.hid (by have := HCL.out.2; rw [HM.out] at this; omega)
    go_enter Tryz.func58, Tryz.ntmps58
    go_wp2_with fail
    refine hcn.mono ?_
    rintro e w1 ⟨rfl, hd1⟩
    have hB1 := hd1.below w.heap.size
    have hs1 := hB1.size
    obtain ⟨zs, hzs, hmk⟩ := makeNb ((N : Int) + (m : Int) + -(m : Int)) N (by omega) (by omega)
    have HZ := Lib.hid hzs
    have hG1 : (w1.alloc (.cells zs.toArray 5)).heap[w1.heap.size]? = some (.cells zs.toArray 5 (0, 0)) := World.alloc_heap_new w1 _
    have hBA : Below w.heap.size w (w1.alloc (.cells zs.toArray 5)) := hB1.alloc hs1 _
    clear hzs hcn hd1
    have m0 : ((m : Int) == 0) = false := by rw [beq_eq_false_iff_ne]; omega
    have hz1 : ∀ Y : List Value, Y.length ≤ N → (∀ v ∈ Y, True) := fun _ _ _ _ => trivial
    clear hz1
    go_upto_region 13 with fail
    go_loopw [11, 12, 13, 49] (fun s11 s12 _ s49 wr => ∃ (i q st : Nat) (D : List UInt8) (Z : List Value), s11 = .int .i64 q ∧ s12 = .int .i64 st ∧ s49 = .int .i64 i ∧ i ≤ m ∧ q ≤ N ∧ st ≤ N + m ∧
        Hid (D.length = q ∧ D ++ bareL (b.drop st) = bareL b ∧ cntN (b.drop st) = m - i ∧ Z.length = N - q) ∧ Hid (wr.heap[w1.heap.size]? = some (.cells (D.map bv ++ Z).toArray 5 (0, 0))) ∧ Below w.heap.size w wr) (fun _ _ _ s49 _ => m - (intOf s49).toNat)
    case atStart => exact ⟨0, 0, 0, [], zs, rfl, rfl, rfl, by omega, by omega, by omega, Lib.hid ⟨rfl, rfl, HM.out, HZ.out⟩, Lib.hid hG1, hBA⟩
    case round =>
      rename_i s13
      obtain ⟨i, q, st, D, Z, rfl, rfl, rfl, hi, hq, hst, HG, HR, hB⟩ := hrel
      by_cases hlt : i < m
      · obtain ⟨a, r, hcut⟩ := cnt_pos (l := b.drop st) (by rw [HG.out.2.2.1]; omega)
        obtain ⟨hcb, _, hbb⟩ := cutN_some hcut
        obtain ⟨al, hal⟩ : ∃ al, a.length = al := ⟨_, rfl⟩
        have hlen : st + al + 2 + r.length = N + m := by
          have h1 := congrArg List.length hcb
          rw [List.length_drop, HN.out] at h1
          simp at h1
          omega
        have hqa : q + al + 1 ≤ N := by
          have h1 := congrArg List.length HG.out.2.1
          rw [hbb, List.length_append, List.length_append, List.length_cons, HG.out.1, HBL.out, hal] at h1
          omega
        obtain ⟨A2, hsl, hrs⟩ := slf_any (some ⟨b0, o0, none⟩) (N + m) c st hst hnc
        have hAr := hA.below hB
        have hR2 := hrs wr b HN.out hAr
        obtain ⟨b2, o2, rfl, _⟩ := hR2 (by have := HN.out; simp; omega)
        have hix := index_any b2 o2 (b.drop st) B1 d1 (N + m - st) (c - st) wr (by rw [List.length_drop, HN.out]) hR2 (by omega) (by omega) (hs.below hB) (hw.below hB) hcut
        rw [hal] at hix
        have hsq := slk_any w1.heap.size 0 N N (q : Int) q rfl (by omega) (by omega)
        have hsq2 := slk_any w1.heap.size 0 N N ((q : Int) + (al : Int)) (q + al) (by omega) (by omega) (by omega)
        rw [Nat.zero_add] at hsq hsq2
        obtain ⟨A3, hsp, hrp⟩ := slp_any (some ⟨b0, o0, none⟩) (N + m) c (st : Int) ((st : Int) + (al : Int)) st (st + al) rfl (by omega) (by omega) (by omega) hnc
        simp only [Nat.add_sub_cancel_left] at hsp
        have hsga : sg b st (st + al) = a := by
          unfold sg
          rw [hcb, Nat.add_sub_cancel_left, ← hal, List.take_left]
        have HR3 : Hid (∀ W, Below w.heap.size w W → Rb W A3 a) := Lib.hid (fun W hW => by rw [← hsga]; exact hrp W b HN.out (hA.below hW))
        have HC1 : Hid (splice (D.map bv ++ Z) q (a.map bv) = (D ++ a).map bv ++ Z.drop al) := Lib.hid (by
          have h1 := splice_at (D.map bv) Z (a.map bv)
          rw [List.length_map, List.length_map, HG.out.1, hal] at h1
          rw [h1, List.map_append])
        obtain ⟨cur2, hcur2⟩ : ∃ cur2, (D ++ a).map bv ++ Z.drop al = cur2 := ⟨_, rfl⟩
        have HCU := Lib.hid hcur2
        have HC2 : Hid (splice cur2 (q + al) [bv 10] = (D ++ a ++ [10]).map bv ++ (Z.drop al).drop 1) := Lib.hid (by
          have h1 := splice_at ((D ++ a).map bv) (Z.drop al) [bv 10]
          rw [List.length_map, List.length_append, HG.out.1, hal] at h1
          rw [← hcur2, h1, List.map_append (l₂ := [10])]
          rfl)
        have HNX : Hid ((D ++ a ++ [10]).length = q + al + 1 ∧ (D ++ a ++ [10]) ++ bareL (b.drop (st + al + 2)) = bareL b ∧ cntN (b.drop (st + al + 2)) = m - (i + 1) ∧ ((Z.drop al).drop 1).length = N - (q + al + 1)) := Lib.hid (by
          have hdr : b.drop (st + al + 2) = r := by
            rw [Nat.add_assoc, ← List.drop_drop, hcb, show a ++ 13 :: 10 :: r = (a ++ [13, 10]) ++ r by simp, List.drop_left' (by simp [hal])]
          refine ⟨by have h1 := HG.out.1; simp; omega, ?_, ?_, ?_⟩
          · rw [hdr, ← HG.out.2.1, hbb]
            simp
          · have h1 := HG.out.2.2.1
            rw [cnt_some hcut] at h1
            rw [hdr]
            omega
          · rw [List.length_drop, List.length_drop, HG.out.2.2.2]
            omega)
        have hstb : st + al + 2 ≤ N + m := by omega
        have HAL := Lib.hid hal
        have hcl : (D.map bv ++ Z).length = N := by rw [List.length_append, List.length_map, HG.out.1, HG.out.2.2.2]; omega
        have hcl2 : cur2.length = N := by rw [← hcur2, List.length_append, List.length_map, List.length_append, List.length_drop, HG.out.1, HG.out.2.2.2, hal]; omega
        have HL1 := Lib.hid hcl
        have HL2 := Lib.hid hcl2
        clear hcur2 hcut hcb hbb hlen hrs hR2 hrp hsga hal hcl hcl2 hAr
        go_wp2_with fail
        refine hix.mono ?_
        rintro e w2 ⟨rfl, k2, rfl⟩
        have hB2 : Below w.heap.size w (wr.drewN k2) := hB.trans ((Dn.of wr k2).below _)
        have hB2d : Below w.heap.size w (wr.drewN k2).drew := hB2.drew
        have hR2 : (wr.drewN k2).drew.heap[w1.heap.size]? = some (.cells (D.map bv ++ Z).toArray 5 (0, 0)) := HR.out
        go_upto_region 15 with fail
        go_region_law (refine step_copy_splice rfl (.tmp 61) (.tmp 65) 22 22 rfl 5 Tryz.underlying22 szU8 (some ⟨w1.heap.size, q, none⟩) A3 (N - q) (N - q) al (c - st) (by simp [Act.eval, Act.put]) (by simp [Act.eval, Act.put]) w1.heap.size q (D.map bv ++ Z) 5 hR2 (a.map bv) (by rw [List.length_map, HAL.out]; exact (Nat.min_eq_left (by omega)).symm) (fun hp => ⟨rfl, by
            obtain ⟨b3, o3, e3, hc3⟩ := HR3.out _ hB2d hp
            exact ⟨_, e3, fun j v hj => by rw [addr_add]; exact hc3 j v hj⟩⟩) (by rw [List.length_map, HAL.out, HL1.out]; omega) (bv_one a) w.heap.size w hB2d hs1 ?_; intro w4 hg4 hb4)
        have hal2 := HAL.out
        have HG5 : Hid (w4.heap[w1.heap.size]? = some (.cells cur2.toArray 5 (0, 0))) := Lib.hid (by
          have h := hg4.out
          rw [HC1.out, HCU.out] at h
          exact h)
        have ht4 := ht.below hb4
        clear hg4 hR2 hB2 hB2d
        have cp2 : ∀ (ops : Array Oper) (rest : List Oper) (o : Oper) (a2 : Act) (Q : Exit → Act → World → Prop), o.guard = none → o.op = .call { callee := .builtin .copy, args := #[.tmp 71, .tmp 72], argTypes := #[22, 22] } →
            a2.eval (.tmp 71) = .slice (some ⟨w1.heap.size, q + al, none⟩) (N - (q + al)) (N - (q + al)) → a2.eval (.tmp 72) = .slice (some ⟨B2, 0, none⟩) 1 d2 →
            (∀ w', Hid (w'.heap[w1.heap.size]? = some (.cells (splice cur2 (q + al) [bv 10]).toArray 5 (0, 0))) → Below w.heap.size w w' → wpList Tryz.prog ops Q rest (a2.put o.dst (goInt 1)) w') → wpList Tryz.prog ops Q (o :: rest) a2 w4 :=
          fun ops rest o a2 Q hgd ho hd hs9 h => wpList_copy_splice hgd (.tmp 71) (.tmp 72) 22 22 ho 5 Tryz.underlying22 szU8 (some ⟨w1.heap.size, q + al, none⟩) (some ⟨B2, 0, none⟩) (N - (q + al)) (N - (q + al)) 1 d2 hd hs9 w1.heap.size (q + al) cur2 5 HG5.out [bv 10] (Nat.min_eq_left (show 1 ≤ N - (q + al) by omega)).symm (fun _ => ⟨rfl, _, rfl, fun j v hj => by
            obtain ⟨b3, o3, e3, hc3⟩ := ht4 (by simp)
            cases e3
            rw [addr_add]
            exact hc3 j v hj⟩) (by rw [HL2.out]; show q + al + 1 ≤ N; omega) (bv_one [10]) w.heap.size w hb4 hs1 h
        go_wp2_with (refine cp2 _ _ _ _ _ rfl (by with_reducible rfl) rfl rfl ?_; intro w5 hg6 hb5)
        go_roundw
        case rel =>
          refine ⟨i + 1, q + al + 1, st + al + 2, D ++ a ++ [10], (Z.drop al).drop 1, by go_num, by go_num, by go_num, by omega, by omega, by omega, HNX, Lib.hid ?_, hb5⟩
          have h := hg6.out
          rw [HC2.out] at h
          exact h
        case measure => simp [intOf]; omega
      · obtain rfl : i = m := by omega
        have hrest : bareL (b.drop st) = b.drop st := cnt_zero (by rw [HG.out.2.2.1, Nat.sub_self])
        obtain ⟨R, hR⟩ : ∃ R, b.drop st = R := ⟨_, rfl⟩
        obtain ⟨p, hp⟩ : ∃ p, N - q = p := ⟨_, rfl⟩
        have hsp0 : N + i - st = p := by
          have h1 := congrArg List.length HG.out.2.1
          rw [hrest, List.length_append, List.length_drop, HN.out, HG.out.1, HBL.out] at h1
          omega
        obtain ⟨A2, hsl, hrs⟩ := slf_any (some ⟨b0, o0, none⟩) (N + i) c st hst hnc
        obtain ⟨A4, hsd, hsd0⟩ : ∃ A4, (∀ K W, (Instr.slice 22 (.slice (some ⟨w1.heap.size, 0, none⟩) N N) (some (.int K (q : Int))) none none).run Tryz.prog W = .ok (.slice A4 p p) W) ∧ (0 < p → A4 = some ⟨w1.heap.size, q, none⟩) := by
          by_cases hqN : q < N
          · refine ⟨_, ?_, fun _ => rfl⟩
            have h := slk_any w1.heap.size 0 N N (q : Int) q rfl (by omega) (by omega)
            rw [Nat.zero_add, hp] at h
            exact h
          · obtain ⟨A4, h4, _⟩ := slf_any (some ⟨w1.heap.size, 0, none⟩) N N q hq (Nat.le_refl _)
            rw [hp] at h4
            exact ⟨A4, h4, fun h => by omega⟩
        rw [hsp0] at hsl
        have hRl : R.length = p := by rw [← hR, List.length_drop, HN.out]; exact hsp0
        rw [hR] at hrest
        have HR4 : Hid (∀ W, Below w.heap.size w W → Rb W A2 R) := Lib.hid (fun W hW => by rw [← hR]; exact hrs W b HN.out (hA.below hW))
        have HC3 : Hid (splice (D.map bv ++ Z) q (R.map bv) = (bareL b).map bv) := Lib.hid (by
          have h1 := splice_at (D.map bv) Z (R.map bv)
          rw [List.length_map, HG.out.1] at h1
          have hz : Z.drop (R.map bv).length = [] := List.drop_eq_nil_of_le (by rw [HG.out.2.2.2, List.length_map, hRl, hp]; exact Nat.le_refl _)
          rw [h1, hz, List.append_nil, ← HG.out.2.1, hR, hrest, List.map_append])
        have HDL : Hid (R.length = p) := Lib.hid hRl
        have HCL3 : Hid ((D.map bv ++ Z).length = N) := Lib.hid (by rw [List.length_append, List.length_map, HG.out.1, HG.out.2.2.2]; omega)
        have hqp : q + p = N := by omega
        have HQP := Lib.hid hqp
        have hpN : p ≤ N := by omega
        clear hrest hrs hsp0 hp hR hRl
        obtain ⟨A5, hsf, hsfr⟩ := slp_any (some ⟨w1.heap.size, 0, none⟩) N N 0 ((q : Int) + (p : Int)) 0 N rfl (by omega) (by omega) (Nat.le_refl _) (Nat.le_refl _)
        have hBd := hB.drew
        have hR5 : wr.drew.heap[w1.heap.size]? = some (.cells (D.map bv ++ Z).toArray 5 (0, 0)) := HR.out
        clear hqp
        go_upto_region 28 with fail
        go_region_law (refine step_copy_splice rfl (.tmp 123) (.tmp 126) 22 22 rfl 5 Tryz.underlying22 szU8 A4 A2 p p p (c - st) (by simp [Act.eval, Act.put]) (by simp [Act.eval, Act.put]) w1.heap.size q (D.map bv ++ Z) 5 hR5 (R.map bv) (by rw [List.length_map, HDL.out]; exact (Nat.min_eq_left (Nat.le_refl _)).symm) (fun hp => ⟨hsd0 (by rw [List.length_map, HDL.out] at hp; exact hp), by
            obtain ⟨b3, o3, e3, hc3⟩ := HR4.out _ hBd hp
            exact ⟨_, e3, fun j v hj => by rw [addr_add]; exact hc3 j v hj⟩⟩) (by rw [List.length_map, HDL.out, HCL3.out]; have := HQP.out; omega) (bv_one _) w.heap.size w hBd hs1 ?_; intro w4 hg4 hb4)
        have hpl2 : R.length = p := HDL.out
        go_wp2_with fail
        go_ret
        have hN0 : 0 < N := by omega
        have hgr : Rb w4 (some ⟨w1.heap.size, 0, none⟩) (bareL b) := rb_heap (by
          have h := hg4.out
          rw [HC3.out] at h
          exact h)
        have h5 := hsfr w4 (bareL b) HBL.out hgr
        have h6 : sg (bareL b) 0 N = bareL b := by unfold sg; rw [List.drop_zero, Nat.sub_zero, List.take_of_length_le (by rw [HBL.out]; exact Nat.le_refl _)]
        rw [h6] at h5
        refine ⟨⟨A5, N, by rw [HBL.out]; rfl, by rw [HBL.out]; exact Nat.le_refl _, by unfold maxLen; omega, h5, .inr ?_⟩, hb4⟩
        obtain ⟨b9, o9, e9, _⟩ := h5 (by rw [List.length_map, HBL.out]; exact hN0)
        exact ⟨b9, o9, e9⟩
end Go.Proofs.YtcagkoakbdbbaaaGreatDoor

namespace Go.Proofs.YtcagkoakbdbbaaaGreatDoor
set_option linter.unusedVariables false
set_option linter.unusedSimpArgs false
open Go.RowKit

theorem replaceAll_any (A : Option Addr) (b : List UInt8) (B1 B2 d1 d2 n c : Nat) (w : World) (hn : b.length = n) (hA : Rb w A b) (hpl : Pl A c) (hnc : n ≤ c) (hb : n ≤ 1000000) (hs : Rb w (some ⟨B1, 0, none⟩) [13, 10]) (ht : Rb w (some ⟨B2, 0, none⟩) [10]) (hw : MxR w) :
    Calls Tryz.prog 34 #[.slice A n c, .slice (some ⟨B1, 0, none⟩) 2 d1, .slice (some ⟨B2, 0, none⟩) 1 d2] w fun e w' => BOut (bareL b) e w' ∧ Below w.heap.size w w' := by
  have h := replace_any A b B1 B2 d1 d2 n c w hn hA hpl hnc hb hs ht hw
  clear hn
  go_enter Tryz.func34, Tryz.ntmps34
  go_wp2_with fail
  refine h.mono ?_
  rintro e w1 ⟨⟨A2, c2, rfl, h1, h2, h3, h4⟩, hb1⟩
  go_wp2_with fail
  go_ret
  exact ⟨⟨A2, c2, rfl, h1, h2, h3, h4⟩, hb1⟩
theorem bare_any (A : Option Addr) (b : List UInt8) (n c : Nat) (w : World) (hn : b.length = n) (hA : Rb w A b) (hpl : Pl A c) (hnc : n ≤ c) (hb : n ≤ 1000000) (hw : MxR w) :
    Calls Tryz.prog 16 #[.slice A n c] w fun e w' => BOut (bareL b) e w' ∧ Below w.heap.size w w' := by
  have hcv := Lib.run_convert_bytes_const (P := Tryz.prog) w 22 5 #[.int .u8 13, .int .u8 10] 2 2 Tryz.underlying22 Tryz.underlying5
  have hb1 := mark_below w #[.int .u8 13, .int .u8 10] 5 (2, 3)
  have hx1 : Rb (w.alloc (.cells #[.int .u8 13, .int .u8 10] 5 (2, 3))) (some ⟨w.heap.size, 0, none⟩) [13, 10] := Rb_new w [13, 10] _ _ rfl 2 (2, 3)
  have hcv2 := Lib.run_convert_bytes_const (P := Tryz.prog) (w.alloc (.cells #[.int .u8 13, .int .u8 10] 5 (2, 3))) 22 5 #[.int .u8 10] 1 1 Tryz.underlying22 Tryz.underlying5
  have hb2 := mark_below (w.alloc (.cells #[.int .u8 13, .int .u8 10] 5 (2, 3))) #[.int .u8 10] 5 (1, 2)
  have hx2 : Rb ((w.alloc (.cells #[.int .u8 13, .int .u8 10] 5 (2, 3))).alloc (.cells #[.int .u8 10] 5 (1, 2))) (some ⟨(w.alloc (.cells #[.int .u8 13, .int .u8 10] 5 (2, 3))).heap.size, 0, none⟩) [10] := Rb_new _ [10] _ _ rfl 1 (1, 2)
  have hB := hb1.trans (hb2.mono hb1.size)
  have h := replaceAll_any A b w.heap.size (w.alloc (.cells #[.int .u8 13, .int .u8 10] 5 (2, 3))).heap.size 2 1 n c _ hn (hA.below hB) hpl hnc hb (hx1.below hb2) hx2 (hw.below hB)
  clear hn
  rw [World.size_alloc] at h hcv2
  go_enter Tryz.func16, Tryz.ntmps16
  go_wp2_with fail
  refine h.mono ?_
  rintro e w1 ⟨⟨A2, c2, rfl, h1, h2, h3, h4⟩, hb3⟩
  go_wp2_with fail
  go_ret
  exact ⟨⟨A2, c2, rfl, h1, h2, h3, h4⟩, hB.trans (hb3.mono hB.size)⟩
end Go.Proofs.YtcagkoakbdbbaaaGreatDoor
