/- The program's flat: a field without its lines' ends, and the last one of these. -/
import Derived.Test.YtcagkoakbdbbaaaGreatDoorJ21
namespace Go.Proofs.YtcagkoakbdbbaaaGreatDoor
set_option linter.unusedVariables false
set_option linter.unusedSimpArgs false
open Go.RowKit

def flatT (ls : List (List UInt8)) : List UInt8 := (ls.map textL).flatten
def lastT (ls : List (List UInt8)) : List UInt8 := match ls.getLast? with | none => [] | some l => l.drop (textL l).length
theorem flatT_snoc (ls : List (List UInt8)) (l : List UInt8) : flatT (ls ++ [l]) = flatT ls ++ textL l := by simp [flatT]
theorem lastT_snoc (ls : List (List UInt8)) (l : List UInt8) : lastT (ls ++ [l]) = l.drop (textL l).length := by simp [lastT]
theorem flatT_len (ls : List (List UInt8)) : (flatT ls).length ≤ ls.flatten.length := by
  induction ls with
  | nil => simp [flatT]
  | cons l r ih =>
    have h := textL_len l
    simp only [flatT, List.map_cons, List.flatten_cons, List.length_append] at *
    omega

set_option maxRecDepth 100000 in
set_option maxHeartbeats 2000000 in
theorem flat_any (b0 o0 : Nat) (f : List UInt8) (n c : Nat) (w : World) (hn : f.length = n) (hA : Rb w (some ⟨b0, o0, none⟩) f) (hnc : n ≤ c) (hb : n ≤ 1000000) :
    Calls Tryz.prog 68 #[.slice (some ⟨b0, o0, none⟩) n c] w fun e w' => (∃ v A3 c3, e = .returned (.tuple #[v, .slice A3 (lastT (fl f)).length c3]) ∧ w'.ownsRow w.heap.size 5 1 v (flatT (fl f)).length ((flatT (fl f)).map bv) ∧ (∀ W, Below w.heap.size w W → Rb W A3 (lastT (fl f))) ∧ (lastT (fl f)).length ≤ c3) ∧ Below w.heap.size w w' := by
  have hsp := callsIn_wide.1 (lsplit_in 5 (Nat.le_refl _) (some ⟨b0, o0, none⟩) f n c w hn hA hnc (by omega))
  have HN := Lib.hid hn
  clear hn
  go_enter Tryz.func68, Tryz.ntmps68
  go_wp2_with fail
  refine hsp.mono ?_
  rintro e w1 ⟨⟨v, ps, rfl, hls, hle, hown⟩, hb1⟩
  obtain ⟨Al, cl, hv, hlc, hlm, _, _⟩ := own_form hown
  subst hv
  have HLS := Lib.hid hls
  have HLE := Lib.hid hle
  have hpn : ps.length ≤ n := by have h := hls.2.2.2; rw [hle, HN.out] at h; exact h
  clear hls hle hsp
  go_wp2_with fail
  go_loopw [2, 3, 9] (fun s2 s3 s9 wr => ∃ (i k : Nat) (A3 : Option Addr) (n3 c3 : Nat), s9 = .int .i64 i ∧ i ≤ ps.length ∧ s3 = .slice A3 n3 c3 ∧ k ≤ n ∧ Hid ((flatT ((fl f).take i)).length = k) ∧ Hid ((lastT ((fl f).take i)).length = n3 ∧ n3 ≤ c3 ∧ ∀ W, Below w.heap.size w W → Rb W A3 (lastT ((fl f).take i))) ∧ Hid (wr.ownsRow w1.heap.size 5 1 s2 k ((flatT ((fl f).take i)).map bv)) ∧ Below w1.heap.size w1 wr) (fun _ _ s9 _ => ps.length - (intOf s9).toNat)
  case atStart => exact ⟨0, 0, none, 0, 0, rfl, by omega, rfl, by omega, Lib.hid rfl, Lib.hid ⟨rfl, Nat.le_refl _, fun W _ => Rb.nil _ _⟩, Lib.hid (World.ownsRow_nil _ _ _ _), Below.refl _ _⟩
  case round =>
    rename_i s2 s3
    obtain ⟨i, k, A3, n3, c3, rfl, hi, rfl, hk, HK, HE, HO, hB⟩ := hrel
    have hbr : Below w.heap.size w wr := hb1.trans (hB.mono hb1.size)
    have hsr := hB.size
    obtain ⟨Ao, co, hov, _, _, _, _⟩ := own_form HO.out
    subst hov
    by_cases hlt : i < ps.length
    · obtain ⟨p, hp⟩ : ∃ p, ps[i]? = some p := ⟨_, List.getElem?_eq_getElem hlt⟩
      obtain ⟨hl1, hl2, hp1, hp2⟩ := ln_at HLS.out HLE.out hp
      obtain ⟨l, hl⟩ : ∃ l, sg f p.1 p.2 = l := ⟨_, rfl⟩
      have HRL : Hid (∀ W, Below w.heap.size w W → Rb W (some ⟨b0, o0 + p.1, none⟩) l) := Lib.hid (fun W hW => by rw [← hl]; exact rb_sg (hA.below hW) p.1 p.2)
      rw [hl] at hl1 hl2
      have hor := own_below hown hB
      obtain ⟨_, _, e9, _, _, hRv, _⟩ := own_form hor
      cases e9
      obtain ⟨bl, ol, x, rfl, hx, hcx⟩ := hRv.one (k := i) (by rw [List.length_map]; exact hlt)
      have hx2 := hx.out
      rw [List.getElem?_map, hp] at hx2
      have hx3 : lnV (some ⟨b0, o0, none⟩) p = x := Option.some.inj hx2
      have hx4 : x = .slice (some ⟨b0, o0 + p.1, none⟩) l.length l.length := by rw [← hx3, hl2]; rfl
      subst hx4
      obtain ⟨m, hm⟩ : ∃ m, l.length = m := ⟨_, rfl⟩
      have HM := Lib.hid hm
      rw [hm] at hcx hl2
      have hmn : m ≤ n := by rw [hl2, ← HN.out]; omega
      obtain ⟨of, hof⟩ : ∃ of, o0 + p.1 = of := ⟨_, rfl⟩
      rw [hof] at hcx HRL
      obtain ⟨tn, htn⟩ : ∃ tn, (textL l).length = tn := ⟨_, rfl⟩
      have HTN := Lib.hid htn
      have htl : tn ≤ m := by rw [← htn, ← hm]; exact textL_len l
      have hcxd : wr.drew.cell? ⟨bl, ol + i, none⟩ = some (.slice (some ⟨b0, of, none⟩) m m) := hcx
      have htx : ∀ W, Below w1.heap.size w1 W → Calls Tryz.prog 31 #[.slice (some ⟨b0, of, none⟩) m m] W fun e w' => e = .returned (.slice (some ⟨b0, of, none⟩) tn m) ∧ Below W.heap.size W w' := fun W hW => by
        have h := text_any (some ⟨b0, of, none⟩) l m m W HM.out (HRL.out W (hb1.trans (hW.mono hb1.size))) (Nat.le_refl _) (by omega)
        rw [HTN.out] at h
        exact h
      have HTK : Hid ((fl f).take (i + 1) = (fl f).take i ++ [l]) := Lib.hid (take_succ_of hl1)
      have hkt : k + tn ≤ n := by
        have h1 := flatT_len ((fl f).take (i + 1))
        have h2 := flat_le (fl f) (i + 1)
        rw [fl_flat, HN.out] at h2
        rw [HTK.out, flatT_snoc, List.length_append, HK.out, HTN.out, ← HTK.out] at h1
        omega
      obtain ⟨A4, hs4, hr4⟩ := slf_any (some ⟨b0, of, none⟩) m m tn htl (Nat.le_refl _)
      clear hx hx2 hx3 hl hm hl1 hp2 hRv hl2 hp1 hof hp hor htn
      have hsrc : ∀ W, Below wr.heap.size wr W → Src Tryz.prog 1 22 (.slice (some ⟨b0, of, none⟩) tn m) tn ((textL l).map bv) W := fun W hW => by
        have h := HRL.out W (hbr.trans (hW.mono hbr.size))
        exact Src_rb Tryz.underlying22 HTN.out (by rw [textL_take]; exact h.take _)
      have hoW : ∀ W, Below wr.heap.size wr W → W.ownsRow w1.heap.size 5 1 (.slice Ao k co) k ((flatT ((fl f).take i)).map bv) := fun W hW => own_below HO.out hW
      have hbd : Below wr.heap.size wr wr.drew := (Below.refl _ _).drew
      go_upto_region 4 with fail
      have hcd : Below w1.heap.size w1 wr.drew := hB.drew
      go_region_law (first
        | (refine step_app (w := w6) rfl (.tmp 13) (.tmp 15) _ _ rfl TU8 (hoW _ B6) rfl (hsrc _ B6) rfl (by omega) (by have := B6.size; omega) ?_; intro v7 w7 own7 gr7 at7; have C7 := below_app C6 (hoW _ B6) gr7 C6.size (Nat.le_refl _); obtain ⟨A7, c7, hv7, _, _, _, _⟩ := own_form own7; subst hv7)
        | (refine step_app (w := w5) rfl (.tmp 13) (.tmp 15) _ _ rfl TU8 (hoW _ B5) rfl (hsrc _ B5) rfl (by omega) (by have := B5.size; omega) ?_; intro v7 w7 own7 gr7 at7; have C7 := below_app C5 (hoW _ B5) gr7 C5.size (Nat.le_refl _); obtain ⟨A7, c7, hv7, _, _, _, _⟩ := own_form own7; subst hv7)
        | (go_simp; go_at_call 31; (with_reducible refine (htx _ hcd).mono ?_); rintro e w5 ⟨rfl, hb5⟩; have B5 := hbd.trans (hb5.mono (Nat.le_refl _)); have C5 := hB.trans (B5.mono hsr))
        | (go_simp; go_at_call 31; (with_reducible refine (htx _ C5).mono ?_); rintro e w6 ⟨rfl, hb6⟩; have B6 := B5.trans (hb6.mono B5.size); have C6 := hB.trans (B6.mono hsr))
        | (go_simp; go_at_call 31; (with_reducible refine (htx _ C7).mono ?_); rintro e w8 ⟨rfl, hb8⟩))
      go_wp2_with fail
      go_roundw
      case rel =>
        have C8 := C7.trans (hb8.mono C7.size)
        refine ⟨i + 1, k + tn, A4, m - tn, m - tn, by go_num, by omega, rfl, hkt, Lib.hid ?_, Lib.hid ⟨?_, Nat.le_refl _, fun W hW => ?_⟩, Lib.hid ?_, C8⟩
        · rw [HTK.out, flatT_snoc, List.length_append, HK.out, HTN.out]
        · rw [HTK.out, lastT_snoc, List.length_drop, HM.out, HTN.out]
        · rw [HTK.out, lastT_snoc, HTN.out]
          exact hr4 W l HM.out (HRL.out W hW)
        · rw [HTK.out, flatT_snoc, List.map_append]
          exact own_below own7 hb8
      case measure => simp [intOf]; omega
    · obtain rfl : i = ps.length := by omega
      have hall : (fl f).take ps.length = fl f := by
        rw [← HLS.out.all HLE.out]
        exact List.take_of_length_le (by rw [lnTold, List.length_map]; exact Nat.le_refl _)
      rw [hall] at HK HE HO
      have HKK := HK
      clear hall
      go_wp2_with fail
      refine bodyPost_ret (v := .tuple #[.slice Ao k co, .slice A3 n3 c3]) (by simp [results, Tryz.results68, go_sem]) rfl ⟨⟨_, A3, c3, by rw [HE.out.1], ?_, HE.out.2.2, by rw [HE.out.1]; exact HE.out.2.1⟩, hbr⟩
      rw [HKK.out]
      exact own_base HO.out hb1.size
end Go.Proofs.YtcagkoakbdbbaaaGreatDoor
