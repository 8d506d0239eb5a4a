/- RewriteFields' walk: a mail's protected fields have the values that they had, whatever relays do. · A row of fields that came in. -/
import Derived.Test.YtcagkoakbdbbaaaGreatDoorJ49
import Derived.Test.YtcagkoakbdbbaaaGreatDoorJ43
import Derived.Deep.Slices
import Derived.ChangeSame
namespace Go.Proofs.YtcagkoakbdbbaaaGreatDoor
set_option linter.unusedVariables false
set_option linter.unusedSimpArgs false
open Go.RowKit
open Go.Proofs.YtcagkoakbdbbaaaGreatDoor.Fd (Rf fcells rightF strv TStr valsN AllOut)

theorem prot_short {nm : List UInt8} (h : protL nm = true) : nm.length ≤ 25 := by
  unfold protL at h
  rw [List.any_eq_true] at h
  obtain ⟨p, hp1, hp2⟩ := h
  have hall : ∀ p ∈ nmL, p.length ≤ 25 := by decide
  have h1 := hall p hp1
  unfold sameN at hp2
  rw [decide_eq_true_iff] at hp2
  have := congrArg List.length hp2
  simp at this
  omega
set_option maxRecDepth 100000 in
set_option maxHeartbeats 4000000 in
theorem rewriteFields_any (A A2 Ax : Option Addr) (fs : List (List UInt8 × List UInt8)) (bd nm : List UInt8) (xs : List Rwt) (n c n2 c2 m d : Nat) (w : World) (hG : Gl w) (hn : fs.length = n) (hn2 : bd.length = n2) (hm : xs.length = m) (hA : Rf w A fs) (hA2 : Rb w A2 bd) (hX : Rw w Ax xs) (hok : rwOk xs)
    (hs : ∀ p ∈ fs, p.1.length ≤ 9223372036854775807 ∧ p.2.length ≤ 9223372036854775807) (hb : n ≤ 9223372036854775807) (hb2 : n2 ≤ 9223372036854775807) (hb3 : m ≤ 9223372036854775807) :
    Calls Tryz.prog 5 #[.agg #[.slice A n c, .slice A2 n2 c2], .slice Ax m d, .string (bs nm)] w fun e w' => e = .returned (.bool true) ∧ Below w.heap.size w w' := by
  have HN := Lib.hid hn
  have HN2 := Lib.hid hn2
  have HM := Lib.hid hm
  have HS := Lib.hid hs
  have HOK := Lib.hid hok
  clear hn hn2 hm hs hok
  have hB0 : Below w.heap.size w (w.alloc (.cells #[.slice A n c, .slice A2 n2 c2] 32)) := (Below.refl _ _).alloc (Nat.le_refl _) _
  have r0 := Row.new w #[.slice A n c, .slice A2 n2 c2] 32
  go_enter Tryz.func5, Tryz.ntmps5
  go_wp2_with fail
  refine (speaks_any _).mono ?_
  rintro e w1 ⟨rfl, hb1⟩
  have hB1 := hB0.trans (hb1.mono hB0.size)
  have r1 := r0.below hb1
  have x0 := r1.cell (j := 0) rfl
  have x1 := r1.cell (j := 1) rfl
  clear r0 hb1 hB0
  by_cases g1 : 20 < n
  · have g1i : (20 : Int) < (n : Int) := by omega
    go_wp2_with fail
    go_ret
    exact ⟨rfl, hB1⟩
  have g1i : ¬ (20 : Int) < (n : Int) := by omega
  by_cases g2 : 1000 < n2
  · have g2i : (1000 : Int) < (n2 : Int) := by omega
    go_wp2_with fail
    go_ret
    exact ⟨rfl, hB1⟩
  have g2i : ¬ (1000 : Int) < (n2 : Int) := by omega
  have hgr := greatr_any Ax xs m d w1 HM.out (hX.below hB1) HOK.out hb3
  obtain ⟨q1, hq1⟩ : ∃ q, greatR xs = q := ⟨_, rfl⟩
  have HQ1 := Lib.hid hq1
  rw [hq1] at hgr
  clear hq1
  go_wp2_with fail
  refine hgr.mono ?_
  rintro e w2 ⟨rfl, hb2'⟩
  have hB2 := hB1.trans (hb2'.mono hB1.size)
  have r2 := r1.below hb2'
  have x0 := r2.cell (j := 0) rfl
  have x1 := r2.cell (j := 1) rfl
  clear r1 hb2' hgr
  cases q1 with
  | true =>
    go_wp2_with fail
    go_ret
    exact ⟨rfl, hB2⟩
  | false =>
    have hm30 := great_no HQ1.out
    have hm31 : m ≤ 30 := by rw [← HM.out]; exact hm30.1
    have hrp := rprot_any nm w2
    obtain ⟨q2, hq2⟩ : ∃ q, rprotL nm = q := ⟨_, rfl⟩
    have HQ2 : Hid (protL nm = q2) := Lib.hid (by rw [← rprot_prot]; exact hq2)
    rw [hq2] at hrp
    clear hq2 hm30
    go_wp2_with fail
    refine hrp.mono ?_
    rintro e w3 ⟨rfl, hb3'⟩
    have hB3 := hB2.trans (hb3'.mono hB2.size)
    have r3 := r2.below hb3'
    have x0 := r3.cell (j := 0) rfl
    have x1 := r3.cell (j := 1) rfl
    clear r2 hb3' hrp
    cases q2 with
    | false =>
      go_wp2_with fail
      go_ret
      exact ⟨rfl, hB3⟩
    | true =>
      have hnm := prot_short HQ2.out
      go_wp2_with fail
      go_loopw [40] (fun s40 wr => ∃ k : Nat, s40 = .int .i64 k ∧ k ≤ n ∧ Hid (∀ p ∈ fs.take k, p.2.length ≤ 1000) ∧ Below w3.heap.size w3 wr) (fun s40 _ => n - (intOf s40).toNat)
      case atStart => exact ⟨0, rfl, by omega, Lib.hid (fun p hp => by simp at hp), Below.refl _ _⟩
      case round =>
        obtain ⟨k, rfl, hk, HK, hB⟩ := hrel
        have hBw := hB3.trans (hB.mono hB3.size)
        by_cases hlt : k < n
        · obtain ⟨b, o, p, rfl, hp, q0, q1⟩ := (hA.below hBw).one (k := k) (by rw [HN.out]; exact hlt)
          have hpl := (HS.out p (List.mem_of_getElem? hp.out)).2
          have hBA := hB.alloc hB.size (.cells #[.string (bs p.1), .string (bs p.2)] 37)
          by_cases h10 : 1000 < p.2.length
          · have h10i : (1000 : Int) < ((p.2.length : Nat) : Int) := by omega
            go_wp2_with fail
            go_ret
            exact ⟨rfl, hB3.trans (hBA.mono hB3.size)⟩
          · have h10i : ¬ (1000 : Int) < ((p.2.length : Nat) : Int) := by omega
            have HK1 : Hid (∀ p ∈ fs.take (k + 1), p.2.length ≤ 1000) := Lib.hid (fun x hx => by
              rw [take_succ_of hp.out] at hx
              rcases List.mem_append.1 hx with hx | hx
              · exact HK.out x hx
              · obtain rfl : x = p := by simpa using hx
                omega)
            go_wp2_with fail
            go_roundw
            case rel => exact ⟨k + 1, by go_num, by omega, HK1, hBA⟩
            case measure => simp [intOf]; omega
        · obtain rfl : k = n := by omega
          have hall : ∀ p ∈ fs, p.2.length ≤ 1000 := by
            have h := HK.out
            rwa [List.take_of_length_le (by rw [HN.out]; exact Nat.le_refl _)] at h
          have HALL := Lib.hid hall
          have r4 := r3.below hB
          have x0 := r4.cell (j := 0) rfl
          have x1 := r4.cell (j := 1) rfl
          have hwr := rwrite_any A A2 fs bd k c n2 c2 wr HN.out HN2.out (hA.below hBw) (hA2.below hBw) (fun p hp => ⟨(HS.out p hp).1, HALL.out p hp⟩) (by omega) (by omega)
          clear hall HK
          go_wp2_with fail
          refine hwr.mono ?_
          rintro e w5 ⟨hor, hb5⟩
          have hB5 := hBw.trans (hb5.mono hBw.size)
          have r5 := r4.below hb5
          have x0 := r5.cell (j := 0) rfl
          have x1 := r5.cell (j := 1) rfl
          clear r4 r3
          rcases hor with ⟨x, rfl, hrt, hox⟩ | ⟨A', m', d', z, hz, rfl⟩
          · have HRT := Lib.hid hrt
            have hinv := inv_start (name := nm) hrt HALL.out (by rw [HN.out]; omega) (by rw [HN2.out]; omega)
            obtain ⟨bL, hbL⟩ : ∃ bL, rawT (rawsOf fs) ++ [13, 10] ++ bd = bL := ⟨_, rfl⟩
            rw [hbL] at hox hinv
            have HI := Lib.hid hinv
            obtain ⟨A5, c5, e5, u1, u2, u3, u4⟩ := BOut.own hox
            cases e5
            clear hrt hinv hbL hwr
            have hal := Fd.all_any A A2 fs nm k c n2 c2 w5 HN.out (hA.below hB5) (hG.below hB5).tabs (by omega) (by omega)
            unfold Fd.AllOut at hal
            go_wp2_with fail
            refine hal.mono ?_
            rintro e w6 ⟨v6, rfl, ho6, hb6⟩
            have hB6 := hB5.trans (hb6.mono hB5.size)
            have hra := rall2_any A5 Ax bL nm (vN nm fs) xs bL.length c5 m d w6 (hG.below hB6) rfl (u3.below hb6) u4 u1 HM.out (hX.below hB6) HOK.out hm31 HI.out HQ2.out
            obtain ⟨A7, c7, hv7, _, _, hR7, hl7⟩ := own_form ho6
            subst hv7
            obtain ⟨wl, hwl⟩ : ∃ wl, (valsN nm fs).length = wl := ⟨_, rfl⟩
            have HWL := Lib.hid hwl
            rw [hwl] at ho6 ⊢
            have hwlb : wl ≤ 20 := by
              rw [← hwl]
              have := Fd.valsN_len nm fs
              rw [HN.out] at this
              omega
            obtain ⟨bl, hbl⟩ : ∃ bl, bL.length = bl := ⟨_, rfl⟩
            rw [hbl] at hra u1 ⊢
            clear hal hwl hbl u1 u2
            go_wp2_with fail
            refine hra.mono ?_
            rintro e w8 ⟨⟨r, hinv8, A8, c8, rfl, t1, t2, t3, t4⟩, hb8⟩
            have hB8 := hB6.trans (hb8.mono hB6.size)
            have hlr := lread2_any A8 r nm (vN nm fs) r.length c8 m w8 rfl t3 t4 t1 hinv8 hm31
            obtain ⟨rl, hrl⟩ : ∃ rl, r.length = rl := ⟨_, rfl⟩
            rw [hrl] at hlr t1 ⊢
            clear hra hinv8 hrl
            go_wp2_with fail
            refine hlr.mono ?_
            rintro e w9 ⟨⟨A9, A9b, n9, c9, n9b, c9b, fs9, rfl, hf9, hn9, hv9, hR9⟩, hb9⟩
            have hB9 := hB8.trans (hb9.mono hB8.size)
            have HF9 := Lib.hid hf9
            have HV9 : Hid (valsN nm fs9 = valsN nm fs) := Lib.hid hv9
            have hB9a : Below w.heap.size w (w9.alloc (.cells #[.slice A9 n9 c9, .slice A9b n9b c9b] 32)) := hB9.alloc hB9.size _
            have hA9a : Below w9.heap.size w9 (w9.alloc (.cells #[.slice A9 n9 c9, .slice A9b n9b c9b] 32)) := (Below.refl _ _).alloc (Nat.le_refl _) _
            have hal9 := Fd.all_any A9 A9b fs9 nm n9 c9 n9b c9b _ HF9.out (hR9.below hA9a) (hG.below hB9a).tabs (by omega) hn9
            unfold Fd.AllOut at hal9
            rw [HV9.out, HWL.out] at hal9
            clear hlr hf9 hv9
            go_wp2_with fail
            refine hal9.mono ?_
            rintro e w10 ⟨v10, rfl, ho10, hb10⟩
            have hB10 := hB9a.trans (hb10.mono hB9a.size)
            obtain ⟨A10, c10, hv10, _, _, hR10, _⟩ := own_form ho10
            subst hv10
            have hR7' : Rv w10 A7 ((valsN nm fs).map strv) := hR7.below (hb8.trans ((hb9.trans ((hA9a.trans (hb10.mono hA9a.size)).mono hb9.size)).mono hb8.size))
            clear hal9 ho10 ho6 hR7
            go_wp2_with fail
            go_loopw [80] (fun s80 wx => ∃ i : Nat, s80 = .int .i64 i ∧ i ≤ wl ∧ Below w10.heap.size w10 wx) (fun s80 _ => wl - (intOf s80).toNat)
            case atStart => exact ⟨0, rfl, by omega, Below.refl _ _⟩
            case round =>
              obtain ⟨wx, rfl⟩ : ∃ wx : World, wx = wr := ⟨_, rfl⟩
              obtain ⟨i, rfl, hi, hBx⟩ := hrel
              by_cases hlt2 : i < wl
              · obtain ⟨s, hs⟩ : ∃ s, (valsN nm fs)[i]? = some s := ⟨_, List.getElem?_eq_getElem (by rw [HWL.out]; exact hlt2)⟩
                have hsv : ((valsN nm fs).map strv)[i]? = some (.string (bs s)) := by rw [List.getElem?_map, hs]; rfl
                have hp0 : 0 < ((valsN nm fs).map strv).length := by rw [List.length_map, HWL.out]; omega
                obtain ⟨ba, oa, ea, ha⟩ := hR10 hp0
                obtain ⟨bb, ob, eb, hbb⟩ := hR7' hp0
                subst ea
                subst eb
                have k1 := (hBx.cell (cell_lt (ha i _ hsv))).trans (ha i _ hsv)
                have k2 := (hBx.cell (cell_lt (hbb i _ hsv))).trans (hbb i _ hsv)
                have hne : (bs s != bs s) = false := by rw [bs_bne]; simp
                have hlti : (i : Int) < (wl : Int) := by omega
                clear hs hsv hp0 ha hbb
                go_upto_region 22 with fail
                go_quiet (fail)
                rename_i nq
                go_wp2_with fail
                go_roundw
                case rel => exact ⟨i + 1, by go_num, by omega, hBx.trans ((Dn.of _ _).below _)⟩
                case measure => simp [intOf]; omega
              · obtain rfl : i = wl := by omega
                go_wp2_with fail
                go_ret
                exact ⟨rfl, hB10.trans (hBx.mono hB10.size)⟩
          · have hzb : (z != 0) = true := by rw [bne_iff_ne]; exact hz
            go_wp2_with fail
            go_ret
            exact ⟨rfl, hB5⟩
end Go.Proofs.YtcagkoakbdbbaaaGreatDoor

namespace Go.Proofs.YtcagkoakbdbbaaaGreatDoor
namespace Fd
set_option linter.unusedVariables false
set_option linter.unusedSimpArgs false
open Go.RowKit Go.ChangeShapes Go.WideShapes Go.Deep

theorem strv_of (s : ByteArray) : strv s.data.toList = .string s := by unfold strv; rw [bs_of]
theorem Rf_row {H : Type} {enc : TypeId × Value → H} {P : Program} {W : World} {t e st : TypeId} {f0 f1 : Field} {a : Option Addr} {len cap : Nat} {d : DataW H} {ps : List MemPlace} (ht : P.underlying t = some (.slice e)) (he : P.underlying e = some (.struct #[f0, f1])) (hs : P.underlying st = some .string)
    (hk : f0.offset = 0 ∧ f0.type = st ∧ f1.offset = 1 ∧ f1.type = st) (hc : P.cellsOf st = 1 ∧ P.cellsOf e = 2) (h : DataW.Trod enc P W 0 (fun _ => true) true t (.slice a len cap) d ps) :
    ∃ l : List (List UInt8 × List UInt8), l.length = len ∧ len ≤ cap ∧ cap ≤ maxLen ∧ Rf W a l ∧ ∀ p ∈ l, p.1.length ≤ 9223372036854775807 ∧ p.2.length ≤ 9223372036854775807 := by
  obtain ⟨fuel, hf⟩ := h
  rcases open_slice ht hf with ⟨hcs, _⟩ | ⟨a', len', cap', m, n, D, Pl, hcs, _, hl, hm, hmm, _, hi⟩
  · simp [Value.cells] at hcs
    obtain ⟨rfl, rfl, rfl⟩ := hcs
    exact ⟨[], rfl, Nat.le_refl _, by unfold maxLen; omega, Rv.nil _ _, by simp⟩
  · simp [Value.cells] at hcs
    obtain ⟨rfl, rfl, rfl⟩ := hcs
    simp at hmm
    subst hmm
    rw [hc.2] at hi
    have each : ∀ i, i < m → ∃ p : List UInt8 × List UInt8, (W.cell? ((a'.add (i * 2)).add 0) = some (strv p.1) ∧ W.cell? ((a'.add (i * 2)).add 1) = some (strv p.2)) ∧ p.1.length ≤ maxLen ∧ p.2.length ≤ maxLen := by
      intro i him
      obtain ⟨cs', h1, h2⟩ := hi i him
      obtain ⟨_, hlen, hat⟩ := World.cells?_some h1
      obtain ⟨y0, y1, n', _, _, t0, t1⟩ := trod_struct2 he h2
      match cs', hlen, hat, t0, t1 with
      | [x0, x1], _, hat, t0, t1 =>
        rw [hk.1, hk.2.1, hc.1] at t0
        rw [hk.2.2.1, hk.2.2.2, hc.1] at t1
        obtain ⟨s0, e0, _, z0⟩ := DataW.trod_string hs t0
        obtain ⟨s1, e1, _, z1⟩ := DataW.trod_string hs t1
        simp at e0 e1
        subst e0
        subst e1
        have g0 := hat 0 (by omega)
        have g1 := hat 1 (by omega)
        refine ⟨(s0.data.toList, s1.data.toList), ⟨by rw [strv_of]; exact g0, by rw [strv_of]; exact g1⟩, ?_, ?_⟩
        · have e := bs_size s0.data.toList
          rw [bs_of] at e
          exact e ▸ z0
        · have e := bs_size s1.data.toList
          rw [bs_of] at e
          exact e ▸ z1
    obtain ⟨V, hV⟩ := choose_lt (p := fun i (p : List UInt8 × List UInt8) => (W.cell? ((a'.add (i * 2)).add 0) = some (strv p.1) ∧ W.cell? ((a'.add (i * 2)).add 1) = some (strv p.2)) ∧ p.1.length ≤ maxLen ∧ p.2.length ≤ maxLen) each
    refine ⟨(List.range len).map V, by simp, hl, hm, fun hp => ?_, fun p hp => ?_⟩
    · rw [fcells_len] at hp
      simp at hp
      have h0 := (hV 0 (by omega)).1.1
      obtain ⟨b, o, s⟩ := a'
      have hs0 : s = none := by
        have := Addr_spot h0
        unfold Addr.add at this
        split at this <;> simp_all
      subst hs0
      refine ⟨b, o, rfl, fun j v hj => ?_⟩
      have hjl := lt_of_get hj
      rw [fcells_len] at hjl
      simp at hjl
      have hg : ((List.range len).map V)[j / 2]? = some (V (j / 2)) := by
        rw [List.getElem?_map, List.getElem?_range (by omega)]
        rfl
      obtain ⟨k1, k2⟩ := fcells_get hg
      obtain ⟨⟨v1, v2⟩, _⟩ := hV (j / 2) (by omega)
      rw [add_plain, add_plain] at v1 v2
      rcases Nat.mod_two_eq_zero_or_one j with hm2 | hm2
      · have e : 2 * (j / 2) = j := by omega
        rw [e] at k1
        rw [k1] at hj
        cases hj
        rw [← v1]
        congr 2
        omega
      · have e : 2 * (j / 2) + 1 = j := by omega
        rw [e] at k2
        rw [k2] at hj
        cases hj
        rw [← v2]
        congr 2
        omega
    · rw [List.mem_map] at hp
      obtain ⟨i, hi2, rfl⟩ := hp
      have := hV i (by have := List.mem_range.1 hi2; omega)
      exact this.2
end Fd
end Go.Proofs.YtcagkoakbdbbaaaGreatDoor
