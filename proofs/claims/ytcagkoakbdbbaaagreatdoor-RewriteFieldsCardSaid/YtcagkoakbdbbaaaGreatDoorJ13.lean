/- The program's name of a field, and rest. · The program's letters: the letters of a field's name. -/
import Derived.Test.YtcagkoakbdbbaaaGreatDoorJ12
namespace Go.Proofs.YtcagkoakbdbbaaaGreatDoor
set_option linter.unusedVariables false
set_option linter.unusedSimpArgs false
open Go.RowKit

/-- a field's name -/
def nameL (f : List UInt8) : List UInt8 := match cutAt 58 (textL ((fl f).headD [])) with | some p => p.1 | none => []
theorem nameL_len (f : List UInt8) : (nameL f).length ≤ f.length := by
  unfold nameL
  split
  · next p hp =>
    have h1 := (cutAt_some (a := p.1) (b := p.2) (by rw [hp])).1
    have h2 := congrArg List.length h1
    rw [List.length_append] at h2
    have h3 := textL_len ((fl f).headD [])
    have h4 : ((fl f).headD []).length ≤ f.length := by
      cases hf : fl f with
      | nil => simp
      | cons a r =>
        have h5 := congrArg List.length (fl_flat f)
        rw [hf, List.flatten_cons, List.length_append] at h5
        simp
        omega
    omega
  · simp

set_option maxRecDepth 100000 in
set_option maxHeartbeats 1000000 in
theorem name_any (b0 o0 : Nat) (f : List UInt8) (n c : Nat) (w : World) (hn : f.length = n) (hA : Rb w (some ⟨b0, o0, none⟩) f) (hnc : n ≤ c) (hb : n ≤ 1000000) (h0 : 0 < n) :
    Calls Tryz.prog 41 #[.slice (some ⟨b0, o0, none⟩) n c] w fun e w' => e = .returned (.string (bs (nameL f))) ∧ Below w.heap.size w w' := by
  have hsp := callsIn_wide.1 (lsplit_in 5 (Nat.le_refl _) (some ⟨b0, o0, none⟩) f n c w hn hA hnc (by omega))
  have HN := Lib.hid hn
  clear hn
  go_enter Tryz.func41, Tryz.ntmps41
  go_wp2_with fail
  refine hsp.mono ?_
  rintro e w1 ⟨⟨v, ps, rfl, hls, hle, hown⟩, hb1⟩
  obtain ⟨Al, cl, hv, hlc, hlm, hRl, _⟩ := own_form hown
  subst hv
  have hps : 0 < ps.length := by
    rcases Nat.eq_zero_or_pos ps.length with h | h
    · have := List.eq_nil_of_length_eq_zero h
      rw [this, HN.out] at hle
      simp at hle
      omega
    · exact h
  obtain ⟨p, hp⟩ : ∃ p, ps[0]? = some p := ⟨_, List.getElem?_eq_getElem hps⟩
  obtain ⟨hl1, hl2, hp1, hp2⟩ := ln_at hls hle hp
  obtain ⟨l, hl⟩ : ∃ l, sg f p.1 p.2 = l := ⟨_, rfl⟩
  have hR1 : Rb w1 (some ⟨b0, o0 + p.1, none⟩) l := by rw [← hl]; exact rb_sg (hA.below hb1) p.1 p.2
  rw [hl] at hl1 hl2
  obtain ⟨bl, ol, x, rfl, hx, hcx⟩ := hRl.one (k := 0) (by rw [List.length_map]; exact hps)
  have hx2 := hx.out
  rw [List.getElem?_map, hp] at hx2
  have hx3 : lnV (some ⟨b0, o0, none⟩) p = x := Option.some.inj hx2
  have hx4 : x = .slice (some ⟨b0, o0 + p.1, none⟩) l.length l.length := by rw [← hx3, hl2]; rfl
  subst hx4
  obtain ⟨k, hk⟩ : ∃ k, l.length = k := ⟨_, rfl⟩
  have HK := Lib.hid hk
  have hkn : k ≤ n := by rw [← hk, hl2, ← HN.out]; omega
  rw [hk] at hcx
  have hcx1 : w1.cell? ⟨bl, ol, none⟩ = some (.slice (some ⟨b0, o0 + p.1, none⟩) k k) := hcx
  obtain ⟨of, hof⟩ : ∃ of, o0 + p.1 = of := ⟨_, rfl⟩
  rw [hof] at hR1 hcx1
  have HNM : Hid (nameL f = match cutAt 58 (textL l) with | some p => p.1 | none => []) := Lib.hid (by
    unfold nameL
    have : (fl f).headD [] = l := by
      cases hf : fl f with
      | nil => rw [hf] at hl1; simp at hl1
      | cons a r => rw [hf] at hl1; simp at hl1; simp [hl1]
    rw [this])
  have htx := text_any (some ⟨b0, of, none⟩) l k k w1 HK.out hR1 (Nat.le_refl _) (by omega)
  have htl := textL_len l
  rw [hk] at htl
  have hRt : Rb w1 (some ⟨b0, of, none⟩) (textL l) := by rw [textL_take]; exact hR1.take _
  obtain ⟨t, ht⟩ : ∃ t, textL l = t := ⟨_, rfl⟩
  rw [ht] at htx htl hRt
  rw [ht] at HNM
  obtain ⟨tn, htn⟩ : ∃ tn, t.length = tn := ⟨_, rfl⟩
  have HTN := Lib.hid htn
  rw [htn] at htx htl
  clear hx hx2 hx3 hl hk hl1 hp2 hl2 hp1 hof hp hcx hRl hls hle hown ht htn hR1
  have hi0 : (0 : Int) < (ps.length : Int) := by omega
  go_wp2_with fail
  refine htx.mono ?_
  rintro e w2 ⟨rfl, hb2⟩
  have hcv := Lib.run_convert_bytes_const (P := Tryz.prog) w2 22 5 #[.int .u8 58] 1 1 Tryz.underlying22 Tryz.underlying5
  have hb3 := mark_below w2 #[.int .u8 58] 5 (1, 2)
  have hx1 : Rb (w2.alloc (.cells #[.int .u8 58] 5 (1, 2))) (some ⟨w2.heap.size, 0, none⟩) [58] := Rb_new w2 [58] _ _ rfl 1 (1, 2)
  obtain ⟨_, _, e9, hc58⟩ := hx1 (by simp)
  cases e9
  have hcut := cut_any (some ⟨b0, of, none⟩) t tn k w2.heap.size 0 1 58 (w2.alloc (.cells #[.int .u8 58] 5 (1, 2))) HTN.out ((hRt.below hb2).below hb3) htl (.inr ⟨_, _, rfl⟩) (hc58 0 (bv 58) rfl) (by omega)
  have hB := hb1.trans ((hb2.trans (hb3.mono hb2.size)).mono hb1.size)
  clear hx1 hc58
  go_wp2_with fail
  refine hcut.mono ?_
  rintro e w3 ⟨hco, hd3⟩
  unfold CutOut at hco
  have hB3 := hB.trans (hd3.below _)
  cases hc : cutAt 58 t with
  | none =>
    rw [hc] at hco
    obtain rfl := hco
    have HE : Hid (nameL f = []) := Lib.hid (by rw [HNM.out, hc])
    clear hc
    go_wp2_with fail
    go_ret
    exact ⟨by rw [HE.out]; rfl, hB3⟩
  | some p =>
    obtain ⟨a, r⟩ := p
    rw [hc] at hco
    obtain ⟨B, d, rfl, hRa, _, _, _, _, _⟩ := hco
    have HE : Hid (nameL f = a) := Lib.hid (by rw [HNM.out, hc])
    obtain ⟨an, han⟩ : ∃ an, a.length = an := ⟨_, rfl⟩
    have hcs := conv_str (P := Tryz.prog) Tryz.underlying22 Tryz.underlying5 Tryz.underlying9 (n := an) (c := k) hRa han
    clear hc
    rw [han]
    clear han
    go_wp2_with fail
    go_ret
    exact ⟨by rw [HE.out]; rfl, hB3⟩
end Go.Proofs.YtcagkoakbdbbaaaGreatDoor

namespace Go.Proofs.YtcagkoakbdbbaaaGreatDoor
set_option linter.unusedVariables false
set_option linter.unusedSimpArgs false
open Go.RowKit

theorem bor_u8 (x : UInt8) : bits BinOp.or IntKind.u8 (x.toNat : Int) 32 = ((x ||| 32).toNat : Int) := by
  have h : ∀ n : Fin 256, bits BinOp.or IntKind.u8 ((n.val : Nat) : Int) 32 = (((UInt8.ofNat n.val) ||| 32).toNat : Int) := by decide +kernel
  have := h ⟨x.toNat, x.toNat_lt⟩
  simpa using this
theorem bclr_u8 (x : UInt8) : bits BinOp.andNot IntKind.u8 (x.toNat : Int) 32 = ((x &&& 223).toNat : Int) := by
  have h : ∀ n : Fin 256, bits BinOp.andNot IntKind.u8 ((n.val : Nat) : Int) 32 = (((UInt8.ofNat n.val) &&& 223).toNat : Int) := by decide +kernel
  have := h ⟨x.toNat, x.toNat_lt⟩
  simpa using this

/-- is a number's bit set? -/
def bitM (m : Int) (i : Nat) : Bool := bits BinOp.and IntKind.i64 (m / 2 ^ (i % 16)) 1 == 1
/-- a letter, small or not; other signs as they are -/
def capB (bit : Bool) (x : UInt8) : UInt8 := if 97 ≤ (x ||| 32).toNat ∧ (x ||| 32).toNat ≤ 122 then (if bit then (x ||| 32) &&& 223 else x ||| 32) else x
/-- the first i letters changed -/
def lettersG (m : Int) (i : Nat) (f : List UInt8) : List UInt8 := f.mapIdx fun j c => if j < i then capB (bitM m j) c else c
def lettersL (m : Int) (f : List UInt8) : List UInt8 := lettersG m (nameL f).length f
theorem lg_len (m : Int) (i : Nat) (f : List UInt8) : (lettersG m i f).length = f.length := by simp [lettersG]
theorem lg_get (m : Int) (i : Nat) (f : List UInt8) (j : Nat) : (lettersG m i f)[j]? = f[j]?.map fun c => if j < i then capB (bitM m j) c else c := by
  simp [lettersG, List.getElem?_mapIdx]
theorem lg_zero (m : Int) (f : List UInt8) : lettersG m 0 f = f := by
  apply List.ext_getElem?
  intro j
  rw [lg_get]
  simp
theorem lg_step {m : Int} {i : Nat} {f : List UInt8} {x : UInt8} (h : f[i]? = some x) : (lettersG m i f).set i (capB (bitM m i) x) = lettersG m (i + 1) f := by
  apply List.ext_getElem?
  intro j
  rw [lg_get, List.getElem?_set, lg_get, lg_len]
  by_cases hj : i = j
  · subst hj
    rw [if_pos rfl, if_pos (lt_of_get h), h]
    simp
  · rw [if_neg hj]
    by_cases hji : j < i
    · simp [hji, (by omega : j < i + 1)]
    · have h9 : ¬ j < i + 1 := by omega
      cases f[j]? with
      | none => rfl
      | some c =>
        show some (if j < i then _ else c) = some (if j < i + 1 then _ else c)
        rw [if_neg hji, if_neg h9]
theorem lg_same {m : Int} {i : Nat} {f : List UInt8} {x : UInt8} (h : f[i]? = some x) (hc : capB (bitM m i) x = x) : lettersG m (i + 1) f = lettersG m i f := by
  rw [← lg_step h, hc]
  apply List.ext_getElem?
  intro j
  rw [List.getElem?_set]
  by_cases hj : i = j
  · subst hj
    rw [if_pos rfl, lg_len, if_pos (lt_of_get h), lg_get, h]
    simp
  · rw [if_neg hj]

set_option maxRecDepth 100000 in
set_option maxHeartbeats 1000000 in
theorem letters_any (b0 o0 : Nat) (f : List UInt8) (n c : Nat) (m : Int) (w : World) (hn : f.length = n) (hA : Rb w (some ⟨b0, o0, none⟩) f) (hnc : n ≤ c) (hb : n ≤ 1000000) (h0 : 0 < n) :
    Calls Tryz.prog 39 #[.slice (some ⟨b0, o0, none⟩) n c, .int .i64 m] w fun e w' => (∃ v, e = .returned v ∧ w'.ownsRow w.heap.size 5 1 v n ((lettersL m f).map bv)) ∧ Below w.heap.size w w' := by
  have hcl := clone_any (some ⟨b0, o0, none⟩) f n c w hn hA hnc (.inr ⟨_, _, rfl⟩) (by omega)
  have HN := Lib.hid hn
  clear hn
  go_enter Tryz.func39, Tryz.ntmps39
  go_wp2_with fail
  refine hcl.mono ?_
  rintro e w1 ⟨⟨v, rfl, hown⟩, hb1⟩
  obtain ⟨Ao, co, hv, hno, _, _, _⟩ := own_form hown
  subst hv
  obtain ⟨g, hg, hgb⟩ : ∃ g, Ao = some ⟨g, 0, none⟩ ∧ w.heap.size ≤ g := by
    rcases hown.2 with ⟨hv, _⟩ | ⟨g, cap, cur, hv, hbg, hg, _⟩
    · cases hv; omega
    · cases hv; exact ⟨g, rfl, hbg⟩
  subst hg
  have hnm := name_any b0 o0 f n c w1 HN.out (hA.below hb1) hnc hb h0
  obtain ⟨k, hk⟩ : ∃ k, (nameL f).length = k := ⟨_, rfl⟩
  have HK := Lib.hid hk
  have hkn : k ≤ n := by rw [← hk, ← HN.out]; exact nameL_len f
  go_wp2_with fail
  refine hnm.mono ?_
  rintro e w2 ⟨rfl, hb2⟩
  have hbl : (bs (nameL f)).size = k := by rw [bs_size]; exact hk
  have hown2 := own_below hown hb2
  have hB2 := hb1.trans (hb2.mono hb1.size)
  clear hown hnm hcl
  go_wp2_with fail
  go_loopw [13] (fun s13 wr => ∃ (i : Nat) (D : List UInt8), s13 = .int .i64 i ∧ i ≤ k ∧ Hid (D = lettersG m i f) ∧ Hid (wr.ownsRow w.heap.size 5 1 (.slice (some ⟨g, 0, none⟩) n co) n (D.map bv)) ∧ Below w.heap.size w wr) (fun s13 _ => k - (intOf s13).toNat)
  case atStart => exact ⟨0, f, rfl, by omega, Lib.hid (lg_zero m f).symm, Lib.hid hown2, hB2⟩
  case round =>
    obtain ⟨i, D, rfl, hi, HD, HO, hB⟩ := hrel
    by_cases hlt : i < k
    · obtain ⟨x, hx⟩ : ∃ x, f[i]? = some x := ⟨_, List.getElem?_eq_getElem (by rw [HN.out]; omega)⟩
      have hDx : D[i]? = some x := by rw [HD.out, lg_get, hx]; simp
      have hcx : wr.cell? ⟨g, i, none⟩ = some (.int .u8 (x.toNat : Int)) := by
        have h1 := HO.out.cells (g := g) rfl i (bv x) (by rw [List.getElem?_map, hDx]; rfl)
        rw [addr_add, Nat.zero_add] at h1
        exact h1
      have hfz : wr.frozen? ⟨g, i, none⟩ = false := by
        rcases HO.out.2 with ⟨hv, _⟩ | ⟨g', cap, cur, hv, hbg, hg, _⟩
        · cases hv
        · cases hv
          exact frozen_of_row wr g i cur 5 hg
      have hst : ∀ z : UInt8, (D.map bv).set i (bv z) = (D.set i z).map bv := fun z => by rw [List.map_set]
      have HX := Lib.hid hx
      clear hx hk hDx
      have hor := bor_u8 x
      obtain ⟨y, hy⟩ : ∃ y, x ||| 32 = y := ⟨_, rfl⟩
      have HY := Lib.hid hy
      rw [hy] at hor
      clear hy
      by_cases hlet : 97 ≤ y.toNat ∧ y.toNat ≤ 122
      · have hclr := bclr_u8 y
        obtain ⟨z, hz⟩ : ∃ z, y &&& 223 = z := ⟨_, rfl⟩
        rw [hz] at hclr
        have HCP : Hid (∀ bit, capB bit x = if bit then z else y) := Lib.hid (fun bit => by unfold capB; rw [HY.out, if_pos hlet, hz])
        obtain ⟨hl1, hl2⟩ := hlet
        have hl1i : (97 : Int) ≤ (y.toNat : Int) := by omega
        have hl2i : (y.toNat : Int) ≤ 122 := by omega
        clear hz
        cases hbit : bitM m i with
        | true =>
          have HB := Lib.hid hbit
          unfold bitM at hbit
          go_wp2_with fail
          go_roundw
          case rel =>
            refine ⟨i + 1, D.set i z, by go_num, by omega, Lib.hid ?_, Lib.hid ?_, hB.setCell (p := ⟨g, i, none⟩) hgb _⟩
            · rw [← lg_step HX.out, HB.out, HCP.out, if_pos rfl, HD.out]
            · rw [← hst]
              exact own_setAt HO.out (by omega) (bv z)
          case measure => simp [intOf]; omega
        | false =>
          have HB := Lib.hid hbit
          unfold bitM at hbit
          go_wp2_with fail
          go_roundw
          case rel =>
            refine ⟨i + 1, D.set i y, by go_num, by omega, Lib.hid ?_, Lib.hid ?_, hB.setCell (p := ⟨g, i, none⟩) hgb _⟩
            · rw [← lg_step HX.out, HB.out, HCP.out, if_neg (by simp), HD.out]
            · rw [← hst]
              exact own_setAt HO.out (by omega) (bv y)
          case measure => simp [intOf]; omega
      · have hq : (decide ((97 : Int) ≤ (y.toNat : Int)) && decide ((y.toNat : Int) ≤ 122)) = false := by
          rw [Bool.and_eq_false_iff, decide_eq_false_iff_not, decide_eq_false_iff_not]
          by_cases h1 : (97 : Int) ≤ (y.toNat : Int)
          · right; omega
          · left; exact h1
        have HCP : Hid (capB (bitM m i) x = x) := Lib.hid (by unfold capB; rw [HY.out, if_neg hlet])
        by_cases h1 : (97 : Int) ≤ (y.toNat : Int)
        · have h2 : ¬ ((y.toNat : Int) ≤ 122) := by omega
          have h3 : (122 : Int) < (y.toNat : Int) := by omega
          clear hq hlet
          go_wp2_with fail
          go_roundw
          case rel => exact ⟨i + 1, D, by go_num, by omega, Lib.hid (by rw [lg_same HX.out HCP.out]; exact HD.out), HO, hB⟩
          case measure => simp [intOf]; omega
        · have h3 : (y.toNat : Int) < 97 := by omega
          clear hq hlet
          go_wp2_with fail
          go_roundw
          case rel => exact ⟨i + 1, D, by go_num, by omega, Lib.hid (by rw [lg_same HX.out HCP.out]; exact HD.out), HO, hB⟩
          case measure => simp [intOf]; omega
    · obtain rfl : i = k := by omega
      clear hk
      go_wp2_with fail
      go_ret
      refine ⟨⟨_, rfl, ?_⟩, hB⟩
      have h1 : D = lettersL m f := by rw [HD.out]; unfold lettersL; rw [HK.out]
      rw [← h1]
      exact HO.out
end Go.Proofs.YtcagkoakbdbbaaaGreatDoor
