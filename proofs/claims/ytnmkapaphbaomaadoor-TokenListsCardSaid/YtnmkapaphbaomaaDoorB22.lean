/- TokenLists' walk. -/
import Derived.Test.YtnmkapaphbaomaaDoorB21
import Derived.Test.YtnmkapaphbaomaaDoorP24
namespace Go.Proofs.YtnmkapaphbaomaaDoor
set_option linter.unusedVariables false
set_option linter.unusedSimpArgs false
open Go.RowKit

theorem okc_tests (c : UInt8) : (okc c = true ∧ ¬ (c.toNat : Int) < 33 ∧ ¬ (126 : Int) < (c.toNat : Int) ∧ ((c.toNat : Int) == 60) = false ∧ ((c.toNat : Int) == 62) = false ∧ ((c.toNat : Int) == 40) = false ∧ ((c.toNat : Int) == 41) = false ∧ ((c.toNat : Int) == 34) = false ∧ ((c.toNat : Int) == 92) = false) ∨
    ((c.toNat : Int) < 33) ∨ (¬ (c.toNat : Int) < 33 ∧ (126 : Int) < (c.toNat : Int)) ∨ (¬ (c.toNat : Int) < 33 ∧ ¬ (126 : Int) < (c.toNat : Int) ∧ ((c.toNat : Int) == 60) = true) ∨
    (¬ (c.toNat : Int) < 33 ∧ ¬ (126 : Int) < (c.toNat : Int) ∧ ((c.toNat : Int) == 60) = false ∧ ((c.toNat : Int) == 62) = true) ∨
    (¬ (c.toNat : Int) < 33 ∧ ¬ (126 : Int) < (c.toNat : Int) ∧ ((c.toNat : Int) == 60) = false ∧ ((c.toNat : Int) == 62) = false ∧ ((c.toNat : Int) == 40) = true) ∨
    (¬ (c.toNat : Int) < 33 ∧ ¬ (126 : Int) < (c.toNat : Int) ∧ ((c.toNat : Int) == 60) = false ∧ ((c.toNat : Int) == 62) = false ∧ ((c.toNat : Int) == 40) = false ∧ ((c.toNat : Int) == 41) = true) ∨
    (¬ (c.toNat : Int) < 33 ∧ ¬ (126 : Int) < (c.toNat : Int) ∧ ((c.toNat : Int) == 60) = false ∧ ((c.toNat : Int) == 62) = false ∧ ((c.toNat : Int) == 40) = false ∧ ((c.toNat : Int) == 41) = false ∧ ((c.toNat : Int) == 34) = true) ∨
    (¬ (c.toNat : Int) < 33 ∧ ¬ (126 : Int) < (c.toNat : Int) ∧ ((c.toNat : Int) == 60) = false ∧ ((c.toNat : Int) == 62) = false ∧ ((c.toNat : Int) == 40) = false ∧ ((c.toNat : Int) == 41) = false ∧ ((c.toNat : Int) == 34) = false ∧ ((c.toNat : Int) == 92) = true) := by
  have t : ∀ x : UInt8, ∀ n : Int, n = (x.toNat : Int) → (((c.toNat : Int) == n) = true ↔ c = x) := fun x n hn => by rw [u8_test c x hn]; simp
  have f : ∀ x : UInt8, ∀ n : Int, n = (x.toNat : Int) → (((c.toNat : Int) == n) = false ↔ ¬ c = x) := fun x n hn => by rw [u8_test c x hn]; simp
  rw [t 60 60 rfl, t 62 62 rfl, t 40 40 rfl, t 41 41 rfl, t 34 34 rfl, t 92 92 rfl, f 60 60 rfl, f 62 62 rfl, f 40 40 rfl, f 41 41 rfl, f 34 34 rfl, f 92 92 rfl]
  have ho := okc_iff c
  have hp := prc_iff c
  rw [hp] at ho
  by_cases h1 : (c.toNat : Int) < 33
  · exact .inr (.inl h1)
  · by_cases h2 : (126 : Int) < (c.toNat : Int)
    · exact .inr (.inr (.inl ⟨h1, h2⟩))
    · by_cases e1 : c = 60
      · exact .inr (.inr (.inr (.inl ⟨h1, h2, e1⟩)))
      · by_cases e2 : c = 62
        · exact .inr (.inr (.inr (.inr (.inl ⟨h1, h2, e1, e2⟩))))
        · by_cases e3 : c = 40
          · exact .inr (.inr (.inr (.inr (.inr (.inl ⟨h1, h2, e1, e2, e3⟩)))))
          · by_cases e4 : c = 41
            · exact .inr (.inr (.inr (.inr (.inr (.inr (.inl ⟨h1, h2, e1, e2, e3, e4⟩))))))
            · by_cases e5 : c = 34
              · exact .inr (.inr (.inr (.inr (.inr (.inr (.inr (.inl ⟨h1, h2, e1, e2, e3, e4, e5⟩)))))))
              · by_cases e6 : c = 92
                · exact .inr (.inr (.inr (.inr (.inr (.inr (.inr (.inr ⟨h1, h2, e1, e2, e3, e4, e5, e6⟩)))))))
                · exact .inl ⟨ho.2 ⟨⟨by omega, by omega⟩, e1, e2, e3, e4, e5, e6⟩, h1, h2, e1, e2, e3, e4, e5, e6⟩

theorem bits_and3 (y : UInt8) : ∃ m : Nat, (m = 0 ∨ m = 1 ∨ m = 2 ∨ m = 3) ∧ bits BinOp.and IntKind.u8 (y.toNat : Int) 3 = (m : Int) := by
  have key : ∀ n : Fin 256, bits BinOp.and IntKind.u8 (n.1 : Int) 3 = ((n.1 % 4 : Nat) : Int) := by decide +kernel
  refine ⟨y.toNat % 4, by omega, ?_⟩
  exact key ⟨y.toNat, y.toNat_lt⟩
theorem addrIn_len {b t : List UInt8} (h : addrIn b = some t) : t.length ≤ b.length := by
  have h0 := trimB_len b
  unfold addrIn at h
  split at h
  · rw [Option.map_eq_some_iff] at h
    obtain ⟨u, hu, rfl⟩ := h
    have h1 := lastCut_len hu
    have h2 := trimB_len u
    rw [List.length_dropLast] at h1
    omega
  · cases h
    exact h0
theorem addrP_len {l a : List UInt8} (h : addrP l = .ok a) : a.length ≤ l.length := by
  unfold addrP at h
  cases hb : bareP l with
  | error e => rw [hb] at h; cases h
  | ok b =>
    have h1 := bareP_len _ _ _ (Nat.le_refl _) hb
    rw [hb] at h
    simp only at h
    cases ha : addrIn b with
    | none => rw [ha] at h; cases h
    | some t =>
      have h2 := addrIn_len ha
      rw [ha] at h
      simp only at h
      unfold addrAt at h
      cases hc : cutAt 64 t with
      | none => rw [hc] at h; cases h
      | some p =>
        obtain ⟨x, y⟩ := p
        have h3 := cutAt_len hc
        rw [hc] at h
        simp only at h
        split at h
        · cases h
          simp
          omega
        · cases h

set_option maxRecDepth 100000 in
set_option maxHeartbeats 4000000 in
theorem tokenLists_any (A A2 : Option Addr) (ids : List (List UInt8)) (bl s : List UInt8) (n c n2 c2 : Nat) (w : World) (hn : ids.length = n) (hn2 : bl.length = n2) (hA : Rv w A (ids.map sv)) (hA2 : Rb w A2 bl) (hw : Mx w)
    (hb1 : n ≤ 9223372036854775807) (hb2 : n2 ≤ 9223372036854775807) (hl : s.length ≤ 9223372036854775807) (hids : ∀ p ∈ ids, p.length ≤ 9223372036854775807) :
    Calls Tryd.prog 5 #[.slice A n c, .slice A2 n2 c2, .string (bs s)] w fun e w' => e = .returned (.bool true) ∧ Below w.heap.size w w' := by
  have HN := Lib.hid hn
  have HN2 := Lib.hid hn2
  have HI := Lib.hid hids
  clear hn hn2 hids
  go_enter Tryd.func5, Tryd.ntmps5
  go_wp2_with fail
  refine (speaks_any _ hw).mono ?_
  rintro e w1 ⟨rfl, hB1⟩
  rcases (by omega : 20 < n ∨ (¬ 20 < n ∧ 500 < s.length) ∨ (¬ 20 < n ∧ ¬ 500 < s.length ∧ n2 = 0) ∨ (¬ 20 < n ∧ ¬ 500 < s.length ∧ 0 < n2)) with h1 | ⟨h1, h2⟩ | ⟨h1, h2, rfl⟩ | ⟨h1, h2, h3⟩
  · go_wp2_with fail
    go_ret
    exact ⟨rfl, hB1⟩
  · go_wp2_with fail
    go_ret
    exact ⟨rfl, hB1⟩
  · go_wp2_with fail
    go_ret
    exact ⟨rfl, hB1⟩
  have hne : ((n2 : Int) == 0) = false := by rw [beq_eq_false_iff_ne]; omega
  go_wp2_with fail
  go_loopw [7, 35] (fun s7 i wr => ∃ (q : Nat) (its : List (Nat × List UInt8)), i = .int .i64 q ∧ q ≤ n ∧ s7 = .string (bs (its.flatMap itemT)) ∧ (its.flatMap itemT).length ≤ 300 * q ∧ Hid (its.map (·.2) = ids.take q ∧ ∀ p ∈ its, okId p.2 = true) ∧ Below w.heap.size w wr) (fun _ i _ => n - (intOf i).toNat)
  case atStart => exact ⟨0, [], rfl, by omega, rfl, by simp, Lib.hid ⟨by simp, by simp⟩, hB1⟩
  case round =>
    obtain ⟨q, its, rfl, hq, rfl, htl, hits, hB⟩ := hrel
    have hs := hB.size
    by_cases hlt : q < n
    · have hlt2 : q < (ids.map sv).length := by rw [List.length_map, HN.out]; exact hlt
      obtain ⟨b, o, v1, rfl, hv1, hc1⟩ := (hA.below hB).one hlt2
      obtain ⟨id, hx⟩ : ∃ x, ids[q]? = some x := ⟨_, List.getElem?_eq_getElem (by simpa using hlt2)⟩
      have e1 : v1 = .string (bs id) := by
        have := hv1.out
        rw [List.getElem?_map, hx] at this
        exact (Option.some.inj this).symm
      subst e1
      have hidl := HI.out id (List.mem_of_getElem? hx)
      have HX := Lib.hid hx
      clear hv1 hlt2 hx
      rcases (by omega : id.length = 0 ∨ (¬ id.length = 0 ∧ 200 < id.length) ∨ (¬ id.length = 0 ∧ ¬ 200 < id.length)) with k1 | ⟨k1, k2⟩ | ⟨k1, k2⟩
      · go_wp2_with fail
        go_ret
        exact ⟨rfl, hB⟩
      · have kk : ((id.length : Int) == 0) = false := by rw [beq_eq_false_iff_ne]; omega
        go_wp2_with fail
        go_ret
        exact ⟨rfl, hB⟩
      · have kk : ((id.length : Int) == 0) = false := by rw [beq_eq_false_iff_ne]; omega
        obtain ⟨wo, rfl⟩ : ∃ wo : World, wo = wr := ⟨_, rfl⟩
        go_wp2_with fail
        go_loopw [10] (fun i wr => ∃ k : Nat, i = .int .i64 k ∧ k ≤ id.length ∧ Hid ((id.take k).all okc = true) ∧ wr = wo) (fun i _ => id.length - (intOf i).toNat)
        case atStart => exact ⟨0, rfl, by omega, Lib.hid (by simp), rfl⟩
        case round =>
          obtain ⟨k, rfl, hk, ha, rfl⟩ := hrel
          by_cases hlk : k < id.length
          · obtain ⟨x, hxk⟩ : ∃ x, id[k]? = some x := ⟨_, List.getElem?_eq_getElem hlk⟩
            have hi := str_index (P := Tryd.prog) Tryd.underlying9 hxk .i64
            rcases okc_tests x with ⟨h0, g1, g2, g3, g4, g5, g6, g7, g8⟩ | g1 | ⟨g1, g2⟩ | ⟨g1, g2, g3⟩ | ⟨g1, g2, g3, g4⟩ | ⟨g1, g2, g3, g4, g5⟩ | ⟨g1, g2, g3, g4, g5, g6⟩ | ⟨g1, g2, g3, g4, g5, g6, g7⟩ | ⟨g1, g2, g3, g4, g5, g6, g7, g8⟩
            · have HST := Lib.hid (show (id.take (k + 1)).all okc = true by rw [all_take okc _ hxk, ha.out, h0]; rfl)
              clear h0 hxk ha
              go_wp2_with fail
              go_roundw
              case rel => exact ⟨k + 1, by go_num, by omega, HST, by first | rfl | trivial⟩
              case measure => simp [intOf]; omega
            all_goals
              clear hxk
              go_wp2_with fail
              go_ret
              exact ⟨rfl, hB⟩
          · obtain rfl : k = id.length := by omega
            have hok : okId id = true := by
              have := ha.out
              rw [List.take_length] at this
              unfold okId
              rw [this]
              cases id with
              | nil => simp at k1
              | cons _ _ => rfl
            have HOK := Lib.hid hok
            obtain ⟨p, hp⟩ : ∃ p, q % n2 = p := ⟨_, rfl⟩
            have hpn : p < n2 := by rw [← hp]; exact Nat.mod_lt _ h3
            have hmod : (q : Int) % (n2 : Int) = (p : Int) := by rw [← hp]; simp
            obtain ⟨b2, o2, y, rfl, hy, hc2⟩ := (hA2.below hB).one (by rw [HN2.out]; exact hpn)
            have hc3 := fun o => (World.cell?_alloc_old wr o ⟨b2, o2 + p, none⟩ (Nat.ne_of_lt (cell_lt hc2))).trans hc2
            clear hok ha hp hy
            obtain ⟨m, hm, hand⟩ := bits_and3 y
            obtain ⟨S0, hS0⟩ : ∃ S0, sepT m ++ [60] = S0 := ⟨_, rfl⟩
            have hS0l : S0.length ≤ 20 := by
              rw [← hS0]
              rcases hm with rfl | rfl | rfl | rfl <;> simp [sepT]
            obtain ⟨S1, hS1⟩ : ∃ S1, S0 ++ id ++ [62] = S1 := ⟨_, rfl⟩
            have hS1l : S1.length ≤ 230 := by
              rw [← hS1]
              simp
              omega
            have a2 := bs_sep (S0 ++ id) 62
            rw [hS1] at a2
            have hit : (its ++ [(m, id)]).flatMap itemT = its.flatMap itemT ++ S1 := by
              rw [List.flatMap_append, ← hS1, ← hS0]
              simp [itemT]
            have hmap : (its ++ [(m, id)]).map (·.2) = ids.take (q + 1) ∧ ∀ p ∈ its ++ [(m, id)], okId p.2 = true := by
              refine ⟨by rw [List.map_append, hits.out.1, take_succ_of HX.out]; rfl, fun p hp => ?_⟩
              rcases List.mem_append.1 hp with hp | hp
              · exact hits.out.2 p hp
              · rw [List.mem_singleton.1 hp]
                exact HOK.out
            have HIT := Lib.hid hit
            have HMAP := Lib.hid hmap
            have hTl : (its.flatMap itemT).length ≤ 6000 := by omega
            have hTl2 : (its.flatMap itemT ++ S1).length ≤ 300 * (q + 1) := by
              rw [List.length_append]
              omega
            have hBn := hB.alloc hs (.cells #[.string ⟨#[]⟩, .string ⟨#[32]⟩, .string ⟨#[9, 40, 120, 41]⟩, .string ⟨#[40, 97, 32, 40, 98, 41, 32, 99, 41, 32]⟩] 9)
            generalize its.flatMap itemT = T at *
            clear hit hmap HOK HX hits hS1 hB
            rcases hm with rfl | rfl | rfl | rfl
            · have a1 : (⟨#[]⟩ : ByteArray) ++ (⟨#[60]⟩ : ByteArray) = bs S0 := by rw [← hS0]; exact bs_sep [] 60
              clear hS0
              go_wp2_with fail
              go_roundw
              case rel => exact ⟨q + 1, its ++ [(0, id)], by go_num, by omega, by rw [HIT.out], by rw [HIT.out]; exact hTl2, HMAP, hBn⟩
              case measure => simp [intOf]; omega
            · have a1 : (⟨#[32]⟩ : ByteArray) ++ (⟨#[60]⟩ : ByteArray) = bs S0 := by rw [← hS0]; exact bs_sep [32] 60
              clear hS0
              go_wp2_with fail
              go_roundw
              case rel => exact ⟨q + 1, its ++ [(1, id)], by go_num, by omega, by rw [HIT.out], by rw [HIT.out]; exact hTl2, HMAP, hBn⟩
              case measure => simp [intOf]; omega
            · have a1 : (⟨#[9, 40, 120, 41]⟩ : ByteArray) ++ (⟨#[60]⟩ : ByteArray) = bs S0 := by rw [← hS0]; exact bs_sep [9, 40, 120, 41] 60
              clear hS0
              go_wp2_with fail
              go_roundw
              case rel => exact ⟨q + 1, its ++ [(2, id)], by go_num, by omega, by rw [HIT.out], by rw [HIT.out]; exact hTl2, HMAP, hBn⟩
              case measure => simp [intOf]; omega
            · have a1 : (⟨#[40, 97, 32, 40, 98, 41, 32, 99, 41, 32]⟩ : ByteArray) ++ (⟨#[60]⟩ : ByteArray) = bs S0 := by rw [← hS0]; exact bs_sep [40, 97, 32, 40, 98, 41, 32, 99, 41, 32] 60
              clear hS0
              go_wp2_with fail
              go_roundw
              case rel => exact ⟨q + 1, its ++ [(3, id)], by go_num, by omega, by rw [HIT.out], by rw [HIT.out]; exact hTl2, HMAP, hBn⟩
              case measure => simp [intOf]; omega
    · obtain rfl : q = n := by omega
      have hall : idsP (its.flatMap itemT) = .ok ids := by
        rw [lists_ok its hits.out.2, hits.out.1, take_all ids (by rw [HN.out]; exact Nat.le_refl _)]
      have htids := fun W hW => tids_any (its.flatMap itemT) W hW (by omega)
      rw [hall] at htids
      have hids2 : ∀ W e w', IdsOut (.ok ids) W e w' → ∃ A c, e = .returned (.tuple #[.slice A q c, .int .i64 0]) ∧ Rv w' A (ids.map sv) := fun W e w' h => by
        obtain ⟨v, he, ho⟩ := h
        obtain ⟨A, c, rfl, _, _, hR, _⟩ := own_form ho
        rw [HN.out] at he
        exact ⟨A, c, he, hR⟩
      have hw1 := hw.below hB
      clear hits hall htl
      go_wp2_with fail
      refine (htids _ hw1).mono ?_
      rintro e w2 ⟨h2, hb2'⟩
      obtain ⟨A3, c3, rfl, hR3⟩ := hids2 _ _ _ h2
      have hB2 := hB.trans (hb2'.mono hs)
      have hs2 := hB2.size
      clear htids hids2 h2 hb2' hB hs
      go_wp2_with fail
      go_loopw [134] (fun i wr => ∃ k : Nat, i = .int .i64 k ∧ k ≤ q ∧ Dn w2 wr) (fun i _ => q - (intOf i).toNat)
      case atStart => exact ⟨0, rfl, by omega, Dn.refl _⟩
      case round =>
        obtain ⟨k, rfl, hk, hd⟩ := hrel
        have hBk := hB2.trans ((hd.below _).mono hs2)
        by_cases hlt' : k < q
        · have hlt2 : k < (ids.map sv).length := by rw [List.length_map, HN.out]; exact hlt'
          obtain ⟨b1, o1, v1, rfl, hv1, hc1⟩ := (hA.below hBk).one hlt2
          obtain ⟨b2, o2, v2, rfl, hv2, hc2⟩ := (hR3.below (hd.below _)).one hlt2
          obtain ⟨x, hx⟩ : ∃ x, ids[k]? = some x := ⟨_, List.getElem?_eq_getElem (by simpa using hlt2)⟩
          have e1 : v1 = .string (bs x) := by
            have := hv1.out
            rw [List.getElem?_map, hx] at this
            exact (Option.some.inj this).symm
          have e2 : v2 = .string (bs x) := by
            have := hv2.out
            rw [List.getElem?_map, hx] at this
            exact (Option.some.inj this).symm
          subst e1
          subst e2
          clear hv1 hv2 hx hlt2 hR3 hA hA2 hBk
          go_wp2_with fail
          go_quiet (fail)
          go_wp2_with fail
          go_roundw
          case rel => exact ⟨k + 1, by go_num, by omega, by first | exact hd.drewN _ | exact hd.drew | exact hd⟩
          case measure => simp [intOf]; omega
        · obtain rfl : k = q := by omega
          have hwk := hw.below hBk
          have hsk := hBk.size
          have ha1 := fun W hW => addr_any s W hW (by omega)
          clear hA hA2 hR3 hd hB2
          cases hap : addrP s with
          | error k1 =>
            rw [hap] at ha1
            have hk1 : ((k1 : Int) != 0) = true := by
              have : k1 = 3 ∨ k1 = 5 := by
                unfold addrP at hap
                cases hb : bareP s with
                | error e =>
                  rw [hb] at hap
                  cases hap
                  exact bareP_err _ _ _ (Nat.le_refl _) hb
                | ok b =>
                  rw [hb] at hap
                  simp only at hap
                  split at hap
                  · cases hap
                    exact .inl rfl
                  · unfold addrAt at hap
                    split at hap
                    · cases hap
                      exact .inl rfl
                    · split at hap
                      · cases hap
                      · cases hap
                        exact .inl rfl
              rw [bne_iff_ne]
              omega
            obtain ⟨o4, k4, h4⟩ := bareOut_two (addrP [])
            have ha2 := fun W hW => addr_any [] W hW (by simp)
            generalize addrP [] = r4 at *
            clear hap
            go_wp2_with fail
            refine (ha1 _ hwk).mono ?_
            rintro e w3 ⟨h3', hb3⟩
            obtain rfl : e = .returned (.tuple #[.string (bs []), .int .i64 (k1 : Int)]) := h3'
            have hB3 := hBk.trans (hb3.mono hsk)
            clear ha1 hb3
            go_wp2_with fail
            refine (ha2 _ (hw.below hB3)).mono ?_
            rintro e w4 ⟨h5, hb4⟩
            rw [h4 _ h5]
            go_wp2_with fail
            go_ret
            exact ⟨rfl, hB3.trans (hb4.mono hB3.size)⟩
          | ok a =>
            rw [hap] at ha1
            have hag := addr_again hap
            have hal := addrP_len hap
            have ha2 := fun W hW => addr_any a W hW (by omega)
            rw [hag] at ha2
            clear hap hag
            go_wp2_with fail
            refine (ha1 _ hwk).mono ?_
            rintro e w3 ⟨h3', hb3⟩
            obtain rfl : e = .returned (.tuple #[.string (bs a), .int .i64 0]) := h3'
            have hB3 := hBk.trans (hb3.mono hsk)
            clear ha1 hb3
            go_wp2_with fail
            refine (ha2 _ (hw.below hB3)).mono ?_
            rintro e w4 ⟨h5, hb4⟩
            obtain rfl : e = .returned (.tuple #[.string (bs a), .int .i64 0]) := h5
            go_wp2_with fail
            go_ret
            exact ⟨ret_bool (by simp), hB3.trans (hb4.mono hB3.size)⟩
end Go.Proofs.YtnmkapaphbaomaaDoor
