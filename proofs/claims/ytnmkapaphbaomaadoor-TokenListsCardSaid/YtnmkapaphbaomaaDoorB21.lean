/- TokenAddress's walk. -/
import Derived.Test.YtnmkapaphbaomaaDoorU13
import Derived.Test.YtnmkapaphbaomaaDoorB20
namespace Go.Proofs.YtnmkapaphbaomaaDoor
set_option linter.unusedVariables false
set_option linter.unusedSimpArgs false
open Go.RowKit

theorem idsOut_two (r : Except Nat (List (List UInt8))) : ∃ (ids : List (List UInt8)) (k : Nat), ∀ w e w', IdsOut r w e w' → ∃ A c, e = .returned (.tuple #[.slice A ids.length c, .int .i64 (k : Int)]) ∧ Rv w' A (ids.map sv) ∧ ids.length ≤ 9223372036854775807 := by
  cases r with
  | ok ids =>
    refine ⟨ids, 0, fun w e w' h => ?_⟩
    obtain ⟨v, he, ho⟩ := h
    obtain ⟨A, c, rfl, h1, h2, hR, _⟩ := own_form ho
    exact ⟨A, c, he, hR, by unfold maxLen at h2; omega⟩
  | error k => exact ⟨[], k, fun w e w' h => ⟨none, 0, h, Rv.nil _ _, by simp⟩⟩
set_option maxRecDepth 100000 in
set_option maxHeartbeats 1000000 in
theorem tokenAddress_any (l : List UInt8) (w : World) (hw : Mx w) (hl : l.length ≤ 9223372036854775807) :
    Calls Tryd.prog 4 #[.string (bs l)] w fun e w' => e = .returned (.bool true) ∧ Below w.heap.size w w' := by
  go_enter Tryd.func4, Tryd.ntmps4
  go_wp2_with fail
  refine (speaks_any _ hw).mono ?_
  rintro e w1 ⟨rfl, hb1⟩
  by_cases h1 : 1000 < l.length
  · go_wp2_with fail
    go_ret
    exact ⟨rfl, hb1⟩
  · obtain ⟨o, k, hok⟩ := bareOut_two (addrP l)
    obtain ⟨ids, k2, hid⟩ := idsOut_two (idsP l)
    have ha := fun W hW => addr_any l W hW (by omega)
    have hra := fun W => raddr_any l W (by omega)
    have hi := fun W hW => tids_any l W hW (by omega)
    have hri := fun W => rids_any l W (by omega)
    generalize addrP l = r at *
    generalize idsP l = r2 at *
    go_wp2_with fail
    refine (ha _ (hw.below hb1)).mono ?_
    rintro e w2 ⟨h2, hb2⟩
    rw [hok _ h2]
    have hB2 := hb1.trans (hb2.mono hb1.size)
    clear ha hb1 hb2 h2
    go_wp2_with fail
    refine (hra _).mono ?_
    rintro e w3 ⟨h3, hb3⟩
    rw [hok _ h3]
    have hB3 := hB2.trans (hb3.mono hB2.size)
    clear hra hB2 hb3 h3 hok
    go_wp2_with fail
    refine (hi _ (hw.below hB3)).mono ?_
    rintro e w4 ⟨h4, hb4⟩
    obtain ⟨A, c, rfl, hR4, hnl⟩ := hid _ _ _ h4
    have hB4 := hB3.trans (hb4.mono hB3.size)
    clear hi hB3 hb4 h4
    go_wp2_with fail
    refine (hri _).mono ?_
    rintro e w5 ⟨h5, hb5⟩
    obtain ⟨A2, c2, rfl, hR5, _⟩ := hid _ _ _ h5
    have hB5 := hB4.trans (hb5.mono hB4.size)
    have hR45 := hR4.below hb5
    clear hri hB4 hb5 h5 hid hR4
    obtain ⟨n, hn⟩ : ∃ n, ids.length = n := ⟨_, rfl⟩
    have HN := Lib.hid hn
    rw [hn] at hnl ⊢
    clear hn
    go_wp2_with fail
    go_loopw [59] (fun i wr => ∃ q : Nat, i = .int .i64 q ∧ q ≤ n ∧ Dn w5 wr) (fun i _ => n - (intOf i).toNat)
    case atStart => exact ⟨0, rfl, by omega, Dn.refl _⟩
    case round =>
      obtain ⟨q, rfl, hq, hd⟩ := hrel
      by_cases hlt : q < n
      · have hlt2 : q < (ids.map sv).length := by rw [List.length_map, HN.out]; exact hlt
        obtain ⟨b1, o1, v1, rfl, hv1, hc1⟩ := (hR45.below (hd.below _)).one hlt2
        obtain ⟨b2, o2, v2, rfl, hv2, hc2⟩ := (hR5.below (hd.below _)).one hlt2
        obtain ⟨x, hx⟩ : ∃ x, ids[q]? = some x := ⟨_, List.getElem?_eq_getElem (by simpa using hlt2)⟩
        have e1 : v1 = .string (bs x) := by
          have := hv1.out
          rw [List.getElem?_map, hx] at this
          exact (Option.some.inj this).symm
        have e2 : v2 = .string (bs x) := by
          have := hv2.out
          rw [List.getElem?_map, hx] at this
          exact (Option.some.inj this).symm
        subst e1
        subst e2
        clear hv1 hv2 hx hlt2 hR45 hR5
        go_wp2_with fail
        go_quiet (fail)
        go_wp2_with fail
        go_roundw
        case rel => exact ⟨q + 1, by go_num, by omega, by first | exact hd.drewN _ | exact hd.drew | exact hd⟩
        case measure => simp [intOf]; omega
      · obtain rfl : q = n := by omega
        go_wp2_with fail
        go_ret
        exact ⟨rfl, hB5.trans ((hd.below _).mono hB5.size)⟩
end Go.Proofs.YtnmkapaphbaomaaDoor
