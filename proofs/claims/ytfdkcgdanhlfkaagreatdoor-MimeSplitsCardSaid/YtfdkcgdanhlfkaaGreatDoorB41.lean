/- MimeSplits' walk: the program's Split tells what the document's does, for any bytes and any boundary. -/
import Derived.Test.YtfdkcgdanhlfkaaGreatDoorB40
namespace Go.Proofs.YtfdkcgdanhlfkaaGreatDoor
set_option linter.unusedVariables false
set_option linter.unusedSimpArgs false
open Go.RowKit

theorem bodyP_len {bd : List UInt8} : ∀ {L : List (List UInt8 × List UInt8)} {part pend : List UInt8} {out l : List (List UInt8)}, bodyP bd L part pend out = some l → l.length ≤ out.length + L.length
  | [], _, _, _, _, h => by simp [bodyP] at h
  | p :: r, part, pend, out, l, h => by
    rw [bodyP] at h
    split at h
    · have := bodyP_len h
      simp
      omega
    · split at h
      · have := bodyP_len h
        simp at this ⊢
        omega
      · cases h
        simp
theorem splitP_len {bd : List UInt8} : ∀ {L : List (List UInt8 × List UInt8)} {l : List (List UInt8)}, splitP bd L = some l → l.length ≤ L.length
  | [], _, h => by simp [splitP] at h
  | p :: r, l, h => by
    rw [splitP] at h
    split at h
    · have := bodyP_len h
      simp at this ⊢
      omega
    · have := splitP_len h
      simp
      omega
theorem splitS_len (b bd : List UInt8) : (splitS b bd).1.length ≤ b.length + 1 := by
  unfold splitS
  split
  · split
    · rename_i l h
      have h1 := splitP_len h
      have h2 := lnA_len b []
      unfold lns at h1
      simp only
      omega
    · simp
  · simp

set_option maxRecDepth 100000 in
set_option maxHeartbeats 4000000 in
theorem mimeSplits_any (A : Option Addr) (b s : List UInt8) (n c : Nat) (w : World) (hn : b.length = n) (hA : Rb w A b) (hnc : n ≤ c) (hs : s.length ≤ 9223372036854775807) (hn2 : n ≤ 9223372036854775807) :
    Calls Tryz.prog 3 #[.slice A n c, .string (bs s)] w fun e w' => e = .returned (.bool true) ∧ Below w.heap.size w w' := by
  have HN := Lib.hid hn
  have hpu : ∀ W, Sem.run Tryz.prog (pure #[] : Sem (Array Value)) W = .ok #[] W := fun _ => rfl
  have hst : ∀ a W, Sem.run Tryz.prog (storeCells a []) W = .ok () W := fun _ _ => rfl
  have hsp := speaks_any w
  obtain ⟨m, hm⟩ : ∃ m, s.length = m := ⟨_, rfl⟩
  have HM := Lib.hid hm
  by_cases hg : 2000 < n ∨ 200 < m
  · rcases hg with hg | hg
    · go_enter Tryz.func3, Tryz.ntmps3
      go_wp2_with fail
      refine hsp.mono ?_
      rintro e w1 ⟨rfl, hb1⟩
      go_wp2_with fail
      go_ret
      exact ⟨rfl, hb1⟩
    · by_cases hg2 : 2000 < n
      · go_enter Tryz.func3, Tryz.ntmps3
        go_wp2_with fail
        refine hsp.mono ?_
        rintro e w1 ⟨rfl, hb1⟩
        go_wp2_with fail
        go_ret
        exact ⟨rfl, hb1⟩
      · go_enter Tryz.func3, Tryz.ntmps3
        go_wp2_with fail
        refine hsp.mono ?_
        rintro e w1 ⟨rfl, hb1⟩
        go_wp2_with fail
        go_ret
        exact ⟨rfl, hb1⟩
  · have g1 : ¬ 2000 < n := fun h => hg (.inl h)
    have g2 : ¬ 200 < m := fun h => hg (.inr h)
    clear hg hn
    go_enter Tryz.func3, Tryz.ntmps3
    go_wp2_with fail
    refine hsp.mono ?_
    rintro e w1 ⟨rfl, hb1⟩
    have hA1 := hA.below hb1
    have hB0 : Below w1.heap.size w1 (w1.alloc (.cells #[] 5)) := (Below.refl _ _).alloc (Nat.le_refl _) _
    have hown := fresh0 w1 w1.heap.size 5 (Nat.le_refl _)
    have hAa := hA1.below hB0
    have hbase : w1.heap.size ≤ (w1.alloc (.cells #[] 5)).heap.size := hB0.size
    have hbd : (0 + n) * 1 ≤ 140737488355328 := by omega
    go_wp2_with (at_builtin; refine wpList_appM rfl _ _ _ _ rfl TU8 hown rfl (Src_rb Tryz.underlying22 HN.out hAa) rfl hbd hbase ?_; intro v2 w2 own2 gr2 at2; have hB2 : Below w1.heap.size w1 w2 := below_appM hB0 hown gr2 hbase (Nat.le_refl _); obtain ⟨Av, cv, hv, hvc, hvm, hRv, _, hvn, hvp⟩ := own2.form; subst hv)
    have hRv' : Rb w2 Av b := by
      have h := hRv
      rwa [List.nil_append] at h
    have hPl : Pl Av cv := by
      rcases hvp with h | ⟨g, h⟩
      · exact .inl ⟨h, hvn h⟩
      · exact .inr ⟨g, 0, h⟩
    refine (split_any Av b s n cv w2 HN.out hRv' hPl (by omega) hvm (by omega) (by omega)).mono ?_
    rintro e w3 ⟨A3, c3, rfl, hc3, hr3, hb3⟩
    have hB3 := hB2.trans (hb3.mono hB2.size)
    clear hRv hRv' own2 at2 gr2 hown hPl hvp hvn
    go_wp2_with fail
    refine (rsplit_any A b s n c w3 HN.out (hA1.below hB3) hnc (by omega) (by omega)).mono ?_
    rintro e w4 ⟨A4, c4, rfl, hc4, hr4, hb4⟩
    have hB4 := hB3.trans (hb4.mono hB3.size)
    have hr34 := hr3.below hb4
    clear hr3
    have hkl := splitS_len b s
    rw [HN.out] at hkl
    generalize splitS b s = sp at *
    obtain ⟨LS, code⟩ := sp
    simp only at hc3 hc4 hr34 hr4 hkl ⊢
    obtain ⟨k, hk⟩ : ∃ k, LS.length = k := ⟨_, rfl⟩
    have HK := Lib.hid hk
    rw [hk] at hc3 hc4 hkl ⊢
    clear hk hm
    have hbo := boundary_any s w4 (by rw [HM.out]; omega)
    obtain ⟨q, hq⟩ : ∃ q, bdOk s = q := ⟨_, rfl⟩
    have hro := fun W => rboundary_any s W (by rw [HM.out]; omega)
    rw [hq] at hbo
    simp only [hq] at hro
    clear hq
    go_wp2_with (first | (go_at_call 10; refine hbo.mono ?_; rintro e w5 ⟨rfl, hb5⟩) | (go_at_call 11; refine (hro _).mono ?_; rintro e w6 ⟨rfl, rfl⟩))
    have hB5 := hB4.trans (hb5.mono hB4.size)
    have hr35 := hr34.below hb5
    have hr45 := hr4.below hb5
    clear hro hr34 hr4 hsp hA hA1 hAa
    go_loopw [53] (fun i wr => ∃ j : Nat, i = .int .i64 j ∧ j ≤ k ∧ Dn w5 wr) (fun i _ => k - (intOf i).toNat)
    case atStart => exact ⟨0, rfl, by omega, Dn.refl _⟩
    case round =>
      obtain ⟨j, rfl, hj, hD⟩ := hrel
      by_cases hlt : j < k
      · have hBr := hD.below w5.heap.size
        obtain ⟨b1, o1, B1, d1, l, rfl, hl, cl1, hld1, hdm1, _, _, hR1⟩ := (hr35.below hBr).one (k := j) (by rw [HK.out]; exact hlt)
        obtain ⟨b2, o2, B2, d2, l2, rfl, hl2, cl2, hld2, hdm2, _, _, hR2⟩ := (hr45.below hBr).one (k := j) (by rw [HK.out]; exact hlt)
        obtain rfl : l2 = l := Option.some.inj (hl2.out.symm.trans hl.out)
        have hlm : l2.length ≤ 9223372036854775807 := by unfold maxLen at hdm1; omega
        have hsame : ∀ n, Calls Tryz.prog 12 #[.slice B1 l2.length d1, .slice B2 l2.length d2] (wr.drewN n) fun e w' => e = .returned (.bool true) ∧ ∃ m, w' = (wr.drewN n).drewN m := fun n =>
          (same_any B1 B2 l2 l2 l2.length l2.length d1 d2 _ rfl rfl (hR1.drewN n) (hR2.drewN n) hlm).mono fun e w' h => ⟨by rw [h.1]; simp, h.2⟩
        clear hl hl2
        go_wp2_with fail
        go_quiet ((go_at_call 12; exact Calls.quiet_of (hsame _)))
        rename_i nq
        go_wp2_with fail
        go_roundw
        case rel => exact ⟨j + 1, by go_num, by omega, hD.drewN nq⟩
        case measure => simp [intOf]; omega
      · obtain rfl : j = k := by omega
        go_wp2_with fail
        go_ret
        exact ⟨rfl, (hb1.trans (hB5.mono hb1.size)).trans (hD.below _)⟩
end Go.Proofs.YtfdkcgdanhlfkaaGreatDoor
