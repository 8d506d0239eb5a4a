/- The program's bare, rest, name. · The program's name of a field, and rest. -/
import Derived.Test.YtcagkoakbdbbaaaGreatDoorJ16
namespace Go.Proofs.YtcagkoakbdbbaaaGreatDoor
set_option linter.unusedVariables false
set_option linter.unusedSimpArgs false
open Go.RowKit

theorem replaceAll_any (A : Option Addr) (b : List UInt8) (B1 B2 d1 d2 n c : Nat) (w : World) (hn : b.length = n) (hA : Rb w A b) (hpl : Pl A c) (hnc : n ≤ c) (hb : n ≤ 1000000) (hs : Rb w (some ⟨B1, 0, none⟩) [13, 10]) (ht : Rb w (some ⟨B2, 0, none⟩) [10]) (hw : MxR w) :
    Calls Tryz.prog 34 #[.slice A n c, .slice (some ⟨B1, 0, none⟩) 2 d1, .slice (some ⟨B2, 0, none⟩) 1 d2] w fun e w' => BOut (bareL b) e w' ∧ Below w.heap.size w w' := by
  have h := replace_any A b B1 B2 d1 d2 n c w hn hA hpl hnc hb hs ht hw
  clear hn
  go_enter Tryz.func34, Tryz.ntmps34
  go_wp2_with fail
  refine h.mono ?_
  rintro e w1 ⟨⟨A2, c2, rfl, h1, h2, h3, h4⟩, hb1⟩
  go_wp2_with fail
  go_ret
  exact ⟨⟨A2, c2, rfl, h1, h2, h3, h4⟩, hb1⟩
theorem bare_any (A : Option Addr) (b : List UInt8) (n c : Nat) (w : World) (hn : b.length = n) (hA : Rb w A b) (hpl : Pl A c) (hnc : n ≤ c) (hb : n ≤ 1000000) (hw : MxR w) :
    Calls Tryz.prog 16 #[.slice A n c] w fun e w' => BOut (bareL b) e w' ∧ Below w.heap.size w w' := by
  have hcv := Lib.run_convert_bytes_const (P := Tryz.prog) w 22 5 #[.int .u8 13, .int .u8 10] 2 2 Tryz.underlying22 Tryz.underlying5
  have hb1 := mark_below w #[.int .u8 13, .int .u8 10] 5 (2, 3)
  have hx1 : Rb (w.alloc (.cells #[.int .u8 13, .int .u8 10] 5 (2, 3))) (some ⟨w.heap.size, 0, none⟩) [13, 10] := Rb_new w [13, 10] _ _ rfl 2 (2, 3)
  have hcv2 := Lib.run_convert_bytes_const (P := Tryz.prog) (w.alloc (.cells #[.int .u8 13, .int .u8 10] 5 (2, 3))) 22 5 #[.int .u8 10] 1 1 Tryz.underlying22 Tryz.underlying5
  have hb2 := mark_below (w.alloc (.cells #[.int .u8 13, .int .u8 10] 5 (2, 3))) #[.int .u8 10] 5 (1, 2)
  have hx2 : Rb ((w.alloc (.cells #[.int .u8 13, .int .u8 10] 5 (2, 3))).alloc (.cells #[.int .u8 10] 5 (1, 2))) (some ⟨(w.alloc (.cells #[.int .u8 13, .int .u8 10] 5 (2, 3))).heap.size, 0, none⟩) [10] := Rb_new _ [10] _ _ rfl 1 (1, 2)
  have hB := hb1.trans (hb2.mono hb1.size)
  have h := replaceAll_any A b w.heap.size (w.alloc (.cells #[.int .u8 13, .int .u8 10] 5 (2, 3))).heap.size 2 1 n c _ hn (hA.below hB) hpl hnc hb (hx1.below hb2) hx2 (hw.below hB)
  clear hn
  rw [World.size_alloc] at h hcv2
  go_enter Tryz.func16, Tryz.ntmps16
  go_wp2_with fail
  refine h.mono ?_
  rintro e w1 ⟨⟨A2, c2, rfl, h1, h2, h3, h4⟩, hb3⟩
  go_wp2_with fail
  go_ret
  exact ⟨⟨A2, c2, rfl, h1, h2, h3, h4⟩, hB.trans (hb3.mono hB.size)⟩
end Go.Proofs.YtcagkoakbdbbaaaGreatDoor

namespace Go.Proofs.YtcagkoakbdbbaaaGreatDoor
set_option linter.unusedVariables false
set_option linter.unusedSimpArgs false
open Go.RowKit

/-- a field's name -/
def nameL (f : List UInt8) : List UInt8 := match cutAt 58 (textL ((fl f).headD [])) with | some p => p.1 | none => []
theorem nameL_len (f : List UInt8) : (nameL f).length ≤ f.length := by
  unfold nameL
  split
  · next p hp =>
    have h1 := (cutAt_some (a := p.1) (b := p.2) (by rw [hp])).1
    have h2 := congrArg List.length h1
    rw [List.length_append] at h2
    have h3 := textL_len ((fl f).headD [])
    have h4 : ((fl f).headD []).length ≤ f.length := by
      cases hf : fl f with
      | nil => simp
      | cons a r =>
        have h5 := congrArg List.length (fl_flat f)
        rw [hf, List.flatten_cons, List.length_append] at h5
        simp
        omega
    omega
  · simp

set_option maxRecDepth 100000 in
set_option maxHeartbeats 1000000 in
theorem name_any (b0 o0 : Nat) (f : List UInt8) (n c : Nat) (w : World) (hn : f.length = n) (hA : Rb w (some ⟨b0, o0, none⟩) f) (hnc : n ≤ c) (hb : n ≤ 1000000) (h0 : 0 < n) :
    Calls Tryz.prog 41 #[.slice (some ⟨b0, o0, none⟩) n c] w fun e w' => e = .returned (.string (bs (nameL f))) ∧ Below w.heap.size w w' := by
  have hsp := callsIn_wide.1 (lsplit_in 5 (Nat.le_refl _) (some ⟨b0, o0, none⟩) f n c w hn hA hnc (by omega))
  have HN := Lib.hid hn
  clear hn
  go_enter Tryz.func41, Tryz.ntmps41
  go_wp2_with fail
  refine hsp.mono ?_
  rintro e w1 ⟨⟨v, ps, rfl, hls, hle, hown⟩, hb1⟩
  obtain ⟨Al, cl, hv, hlc, hlm, hRl, _⟩ := own_form hown
  subst hv
  have hps : 0 < ps.length := by
    rcases Nat.eq_zero_or_pos ps.length with h | h
    · have := List.eq_nil_of_length_eq_zero h
      rw [this, HN.out] at hle
      simp at hle
      omega
    · exact h
  obtain ⟨p, hp⟩ : ∃ p, ps[0]? = some p := ⟨_, List.getElem?_eq_getElem hps⟩
  obtain ⟨hl1, hl2, hp1, hp2⟩ := ln_at hls hle hp
  obtain ⟨l, hl⟩ : ∃ l, sg f p.1 p.2 = l := ⟨_, rfl⟩
  have hR1 : Rb w1 (some ⟨b0, o0 + p.1, none⟩) l := by rw [← hl]; exact rb_sg (hA.below hb1) p.1 p.2
  rw [hl] at hl1 hl2
  obtain ⟨bl, ol, x, rfl, hx, hcx⟩ := hRl.one (k := 0) (by rw [List.length_map]; exact hps)
  have hx2 := hx.out
  rw [List.getElem?_map, hp] at hx2
  have hx3 : lnV (some ⟨b0, o0, none⟩) p = x := Option.some.inj hx2
  have hx4 : x = .slice (some ⟨b0, o0 + p.1, none⟩) l.length l.length := by rw [← hx3, hl2]; rfl
  subst hx4
  obtain ⟨k, hk⟩ : ∃ k, l.length = k := ⟨_, rfl⟩
  have HK := Lib.hid hk
  have hkn : k ≤ n := by rw [← hk, hl2, ← HN.out]; omega
  rw [hk] at hcx
  have hcx1 : w1.cell? ⟨bl, ol, none⟩ = some (.slice (some ⟨b0, o0 + p.1, none⟩) k k) := hcx
  obtain ⟨of, hof⟩ : ∃ of, o0 + p.1 = of := ⟨_, rfl⟩
  rw [hof] at hR1 hcx1
  have HNM : Hid (nameL f = match cutAt 58 (textL l) with | some p => p.1 | none => []) := Lib.hid (by
    unfold nameL
    have : (fl f).headD [] = l := by
      cases hf : fl f with
      | nil => rw [hf] at hl1; simp at hl1
      | cons a r => rw [hf] at hl1; simp at hl1; simp [hl1]
    rw [this])
  have htx := text_any (some ⟨b0, of, none⟩) l k k w1 HK.out hR1 (Nat.le_refl _) (by omega)
  have htl := textL_len l
  rw [hk] at htl
  have hRt : Rb w1 (some ⟨b0, of, none⟩) (textL l) := by rw [textL_take]; exact hR1.take _
  obtain ⟨t, ht⟩ : ∃ t, textL l = t := ⟨_, rfl⟩
  rw [ht] at htx htl hRt
  rw [ht] at HNM
  obtain ⟨tn, htn⟩ : ∃ tn, t.length = tn := ⟨_, rfl⟩
  have HTN := Lib.hid htn
  rw [htn] at htx htl
  clear hx hx2 hx3 hl hk hl1 hp2 hl2 hp1 hof hp hcx hRl hls hle hown ht htn hR1
  have hi0 : (0 : Int) < (ps.length : Int) := by omega
  go_wp2_with fail
  refine htx.mono ?_
  rintro e w2 ⟨rfl, hb2⟩
  have hcv := Lib.run_convert_bytes_const (P := Tryz.prog) w2 22 5 #[.int .u8 58] 1 1 Tryz.underlying22 Tryz.underlying5
  have hb3 := mark_below w2 #[.int .u8 58] 5 (1, 2)
  have hx1 : Rb (w2.alloc (.cells #[.int .u8 58] 5 (1, 2))) (some ⟨w2.heap.size, 0, none⟩) [58] := Rb_new w2 [58] _ _ rfl 1 (1, 2)
  obtain ⟨_, _, e9, hc58⟩ := hx1 (by simp)
  cases e9
  have hcut := cut_any (some ⟨b0, of, none⟩) t tn k w2.heap.size 0 1 58 (w2.alloc (.cells #[.int .u8 58] 5 (1, 2))) HTN.out ((hRt.below hb2).below hb3) htl (.inr ⟨_, _, rfl⟩) (hc58 0 (bv 58) rfl) (by omega)
  have hB := hb1.trans ((hb2.trans (hb3.mono hb2.size)).mono hb1.size)
  clear hx1 hc58
  go_wp2_with fail
  refine hcut.mono ?_
  rintro e w3 ⟨hco, hd3⟩
  unfold CutOut at hco
  have hB3 := hB.trans (hd3.below _)
  cases hc : cutAt 58 t with
  | none =>
    rw [hc] at hco
    obtain rfl := hco
    have HE : Hid (nameL f = []) := Lib.hid (by rw [HNM.out, hc])
    clear hc
    go_wp2_with fail
    go_ret
    exact ⟨by rw [HE.out]; rfl, hB3⟩
  | some p =>
    obtain ⟨a, r⟩ := p
    rw [hc] at hco
    obtain ⟨B, d, rfl, hRa, _, _, _, _, _⟩ := hco
    have HE : Hid (nameL f = a) := Lib.hid (by rw [HNM.out, hc])
    obtain ⟨an, han⟩ : ∃ an, a.length = an := ⟨_, rfl⟩
    have hcs := conv_str (P := Tryz.prog) Tryz.underlying22 Tryz.underlying5 Tryz.underlying9 (n := an) (c := k) hRa han
    clear hc
    rw [han]
    clear han
    go_wp2_with fail
    go_ret
    exact ⟨by rw [HE.out]; rfl, hB3⟩
end Go.Proofs.YtcagkoakbdbbaaaGreatDoor
