/- The document's Write. -/
import Derived.Test.YtnmkapaphbaomaaGreatDoorU18
namespace Go.Proofs.YtnmkapaphbaomaaGreatDoor
set_option linter.unusedVariables false
set_option linter.unusedSimpArgs false
open Go.RowKit

theorem esc_step {v : List UInt8} {k : Nat} {c : UInt8} (h : v[k]? = some c) : esc (v.take (k + 1)) = esc (v.take k) ++ (if c = 34 ∨ c = 92 then [92, c] else [c]) := by
  unfold esc
  rw [take_succ_of h, List.flatMap_append]
  simp
theorem OwnM.snoc {w : World} {base e : Nat} {v : Value} {n m : Nat} {l r : List UInt8} (h : OwnM w base e 1 v n (l.map bv ++ r.map bv)) (hm : m = n) : OwnM w base e 1 v m ((l ++ r).map bv) := by
  rw [List.map_append, hm]
  exact h
theorem ownM_eq {w : World} {base e size : Nat} {v : Value} {n m : Nat} {xs ys : List Value} (h : OwnM w base e size v n xs) (hm : n = m) (hx : xs = ys) : OwnM w base e size v m ys := by
  subst hm
  subst hx
  exact h

set_option maxRecDepth 100000 in
set_option maxHeartbeats 6400000 in
theorem rwrite_any (kind : List UInt8) (A : Option Addr) (fs : List (List UInt8 × List UInt8)) (n c : Nat) (w : World) (hk : kind.length ≤ 1000) (hn : fs.length = n) (hb : n ≤ 20) (hp : ∀ p ∈ fs, p.1.length ≤ 2000000 ∧ p.2.length ≤ 2000000) (hA : Rv w A (pcells fs)) :
    Calls Tryz.prog 12 #[.string (bs kind), .slice A n c] w fun e w' => e = .returned (.string (bs (writeB kind fs))) ∧ Below w.heap.size w w' := by
  have HN := Lib.hid hn
  obtain ⟨c1, w1, hcv, hO1, hB1, _⟩ := conv_bs (P := Tryz.prog) (src := 9) (dst := 58) (e := 5) Tryz.underlying9 Tryz.underlying58 Tryz.underlying5 w kind (by unfold maxLen; omega)
  clear hn
  go_enter Tryz.func12, Tryz.ntmps12
  go_wp2_with fail
  go_loopw [5, 6] (fun v5 i wr => ∃ (k N : Nat) (O : List UInt8), i = .int .i64 k ∧ k ≤ n ∧ Hid (O = writeB kind (fs.take k)) ∧ N ≤ 1000 + k * 6000010 ∧ OwnM wr w.heap.size 5 1 v5 N (O.map bv) ∧ Below w.heap.size w wr) (fun _ i _ => n - (intOf i).toNat)
  case atStart => exact ⟨0, kind.length, kind, rfl, by omega, Lib.hid (by simp [writeB]), by omega, hO1, hB1⟩
  case round =>
    clear hcv hO1 hB1
    obtain ⟨k, N, O, rfl, hk1, hO, hNl, hown, hB⟩ := hrel
    by_cases hlt : k < n
    · obtain ⟨b, o, p, rfl, hp1, h0, h1⟩ := Rp_one (hA.below hB) (k := k) (by rw [HN.out]; exact hlt)
      obtain ⟨l1, l2⟩ := hp p (List.mem_of_getElem? hp1.out)
      have HW := Lib.hid (writeB_step (kind := kind) hp1.out)
      obtain ⟨na, va⟩ := p
      simp only at l1 l2 h0 h1
      have hs := hB.size
      have hpl : parW (na, va) = [59, 32] ++ na ++ [61] ++ valW va := rfl
      obtain ⟨u, hu⟩ : ∃ u, ([59, 32] ++ na ++ [61] : List UInt8) = u := ⟨_, rfl⟩
      have hul : u.length ≤ 2000003 := by rw [← hu]; simp; omega
      have hsr : Src Tryz.prog 1 9 (.string (⟨#[59, 32]⟩ ++ bs na ++ ⟨#[61]⟩)) u.length (u.map bv) wr := by
        have e : (⟨#[59, 32]⟩ ++ bs na ++ ⟨#[61]⟩ : ByteArray) = bs u := by
          rw [show (⟨#[59, 32]⟩ : ByteArray) = bs [59, 32] from rfl, show (⟨#[61]⟩ : ByteArray) = bs [61] from rfl, bs_add, bs_add, hu]
        rw [e]
        exact Src_str Tryz.underlying9 u
      rw [hu] at hpl
      have HPL := Lib.hid hpl
      have hsi := fun W => rsimple_any va W (by omega)
      have hvw : valW va = if onlyB loc' va then va else 34 :: (esc va ++ [34]) := rfl
      clear hu hpl hp1
      rcases Bool.eq_false_or_eq_true (onlyB loc' va) with q1 | q1
      · rw [q1] at hsi hvw
        have HFIN : Hid ((O ++ u) ++ va = writeB kind (fs.take (k + 1))) := Lib.hid (by rw [HW.out, HPL.out, hvw, hO.out]; simp)
        clear hvw q1
        go_wp2_with (at_builtin; refine wpList_appM rfl _ _ _ _ rfl TU8 hown rfl hsr rfl (by omega) hs ?_; intro v2 w2 hown2 hgr2 hat2; have hB2 := below_appM hB hown hgr2 hs (Nat.le_refl _))
        refine (hsi _).mono ?_
        rintro e w3 ⟨rfl, rfl⟩
        have hs2 := hB2.size
        have hown2' := hown2.snoc rfl
        clear hown hsr
        go_wp2_with (at_builtin; refine wpList_appM rfl _ _ _ _ rfl TU8 hown2' rfl (Src_str Tryz.underlying9 va) rfl (by omega) hs2 ?_; intro v4 w4 hown4 hgr4 hat4; have hB4 := below_appM hB2 hown2' hgr4 hs2 (Nat.le_refl _))
        go_roundw
        case rel => exact ⟨k + 1, _, _, by go_num, by omega, HFIN, by omega, hown4.snoc rfl, hB4⟩
        case measure => simp [intOf]; omega
      · rw [q1] at hsi hvw
        have HFIN : Hid ((O ++ u) ++ (34 :: (esc va ++ [34])) = writeB kind (fs.take (k + 1))) := Lib.hid (by rw [HW.out, HPL.out, hvw, hO.out]; simp)
        clear hvw q1
        go_wp2_with (at_builtin; refine wpList_appM rfl _ _ _ _ rfl TU8 hown rfl hsr rfl (by omega) hs ?_; intro v2 w2 hown2 hgr2 hat2; have hB2 := below_appM hB hown hgr2 hs (Nat.le_refl _))
        refine (hsi _).mono ?_
        rintro e w3 ⟨rfl, rfl⟩
        have hs2 := hB2.size
        have hown3 := (hown2.snoc rfl).alloc (.cells #[bv 34] 5)
        have hB3 := hB2.alloc hs2 (.cells #[bv 34] 5)
        have hs3 := hB3.size
        clear hown hsr
        go_wp2_with (at_builtin; refine wpList_appM rfl _ _ _ _ rfl TU8 hown3 rfl (Src_rv (news := [bv 34]) Tryz.underlying58 rfl (Rv_new w3 _ _ _ rfl) (by simp [Value.oneCell', bv]) (by omega)) rfl (by omega) hs3 ?_; intro v4 w4 hown4 hgr4 hat4; have hB4 := below_appM hB3 hown3 hgr4 hs3 (Nat.le_refl _))
        have hown4' := OwnM.snoc (l := O ++ u) (r := [34]) hown4 rfl
        obtain ⟨wo, hwo⟩ : ∃ wo : World, wo = wr := ⟨_, rfl⟩
        clear hown3 hown2 hgr2 hat2 hgr4 hat4 hB2 hB3 hs3 hs2 h0 h1 hown4
        go_loopw [5, 8] (fun v5 i wx => ∃ (j N' : Nat) (O' : List UInt8), i = .int .i64 j ∧ j ≤ va.length ∧ Hid (O' = (O ++ u ++ [34]) ++ esc (va.take j)) ∧ N' ≤ N + 2000004 + 2 * j ∧ OwnM wx w.heap.size 5 1 v5 N' (O'.map bv) ∧ Below w.heap.size w wx) (fun _ i _ => va.length - (intOf i).toNat)
        case atStart => exact ⟨0, _, _, rfl, by omega, Lib.hid (by simp [esc]), by omega, hown4', hB4⟩
        case round =>
          clear hown4' hB4 hB hs hwo
          obtain ⟨j, N', O', rfl, hj, hO', hN', hown, hB⟩ := hrel
          have hs := hB.size
          by_cases hjl : j < va.length
          · obtain ⟨x, hx⟩ : ∃ x, va[j]? = some x := ⟨_, List.getElem?_eq_getElem hjl⟩
            have hi := str_index (P := Tryz.prog) Tryz.underlying9 hx .i64
            have t34 : ((x.toNat : Int) == 34) = (x == 34) := u8_test x 34 rfl
            have t92 : ((x.toNat : Int) == 92) = (x == 92) := u8_test x 92 rfl
            have hes := esc_step hx
            have hesc : ((x == 34) = true ∨ (x == 34) = false ∧ (x == 92) = true) ∧ (esc (va.take (j + 1)) = esc (va.take j) ++ [92, x]) ∨ ((x == 34) = false ∧ (x == 92) = false) ∧ (esc (va.take (j + 1)) = esc (va.take j) ++ [x]) := by
              by_cases h : x = 34 ∨ x = 92
              · rw [if_pos h] at hes
                refine .inl ⟨?_, hes⟩
                rcases h with h | h
                · exact .inl (by simp [h])
                · exact .inr ⟨by rw [h]; rfl, by simp [h]⟩
              · rw [if_neg h] at hes
                rw [not_or] at h
                exact .inr ⟨⟨by simp [h.1], by simp [h.2]⟩, hes⟩
            rw [← t34, ← t92] at hesc
            clear hx hes t34 t92 HFIN HW HPL hsi
            rcases hesc with ⟨hx, hes⟩ | ⟨⟨hx1, hx2⟩, hes⟩
            · have HES : Hid ((O' ++ [92]) ++ [x] = (O ++ u ++ [34]) ++ esc (va.take (j + 1))) := Lib.hid (by rw [hes, hO'.out]; simp)
              clear hes hO'
              rcases hx with hx1 | ⟨hx1, hx2⟩
              all_goals
                go_wp2_with (first
                | (at_builtin; refine wpList_appM rfl _ _ _ _ rfl TU8 (hown.alloc (.cells #[bv 92] 5)) rfl (Src_rv (news := [bv 92]) Tryz.underlying58 rfl (Rv_new wr _ _ _ rfl) (by simp [Value.oneCell', bv]) (by omega)) rfl (by omega) (by simp; omega) ?_; intro v6 w6 hown6 hgr6 hat6; have hB6 := below_appM (hB.alloc hs (.cells #[bv 92] 5)) (hown.alloc _) hgr6 (by simp; omega) (Nat.le_refl _); have hs6 := hB6.size)
                | (at_builtin; refine wpList_appM rfl _ _ _ _ rfl TU8 (hown6.alloc (.cells #[bv x] 5)) rfl (Src_rv (news := [bv x]) Tryz.underlying58 rfl (Rv_new w6 _ _ _ rfl) (by simp [Value.oneCell', bv]) (by omega)) rfl (by omega) (by simp; omega) ?_; intro v8 w8 hown8 hgr8 hat8; have hB8 := below_appM (hB6.alloc hs6 (.cells #[bv x] 5)) (hown6.alloc _) hgr8 (by simp; omega) (Nat.le_refl _); have hs8 := hB8.size))
                go_roundw
                case rel => exact ⟨j + 1, _, _, by go_num, by omega, HES, by omega, ownM_eq hown8 rfl (by simp), hB8⟩
                case measure => simp [intOf]; omega
            · have HES : Hid (O' ++ [x] = (O ++ u ++ [34]) ++ esc (va.take (j + 1))) := Lib.hid (by rw [hes, hO'.out]; simp)
              clear hes hO'
              go_wp2_with (at_builtin; refine wpList_appM rfl _ _ _ _ rfl TU8 (hown.alloc (.cells #[bv x] 5)) rfl (Src_rv (news := [bv x]) Tryz.underlying58 rfl (Rv_new wr _ _ _ rfl) (by simp [Value.oneCell', bv]) (by omega)) rfl (by omega) (by simp; omega) ?_; intro v8 w8 hown8 hgr8 hat8; have hB8 := below_appM (hB.alloc hs (.cells #[bv x] 5)) (hown.alloc _) hgr8 (by simp; omega) (Nat.le_refl _); have hs8 := hB8.size)
              go_roundw
              case rel => exact ⟨j + 1, _, _, by go_num, by omega, HES, by omega, ownM_eq hown8 rfl (by simp), hB8⟩
              case measure => simp [intOf]; omega
          · obtain rfl : j = va.length := by omega
            have HFI : Hid (O' ++ [34] = writeB kind (fs.take (k + 1))) := Lib.hid (by rw [← HFIN.out, hO'.out, List.take_of_length_le (Nat.le_refl _)]; simp)
            clear hO' HFIN HW HPL hsi
            go_wp2_with (at_builtin; refine wpList_appM rfl _ _ _ _ rfl TU8 (hown.alloc (.cells #[bv 34] 5)) rfl (Src_rv (news := [bv 34]) Tryz.underlying58 rfl (Rv_new wr _ _ _ rfl) (by simp [Value.oneCell', bv]) (by omega)) rfl (by omega) (by simp; omega) ?_; intro v8 w8 hown8 hgr8 hat8; have hB8 := below_appM (hB.alloc hs (.cells #[bv 34] 5)) (hown.alloc _) hgr8 (by simp; omega) (Nat.le_refl _); have hs8 := hB8.size)
            go_roundw
            case rel => exact ⟨k + 1, _, _, by go_num, by omega, HFI, by omega, ownM_eq hown8 rfl (by simp), hB8⟩
            case measure => simp [intOf]; omega
    · obtain rfl : k = n := by omega
      have hO2 : O = writeB kind fs := by
        have := hO.out
        rwa [List.take_of_length_le (by rw [HN.out]; omega)] at this
      obtain ⟨A5, c5, rfl, _, _, hR5, hl5, _, _⟩ := hown.form
      have hcs := conv_str (P := Tryz.prog) (src := 58) (dst := 9) (e := 5) (c := c5) (n := N) Tryz.underlying58 Tryz.underlying5 Tryz.underlying9 (show Rb wr A5 O from hR5) (by simpa using hl5)
      go_wp2_with fail
      go_ret
      exact ⟨by rw [← hO2]; rfl, hB⟩
end Go.Proofs.YtnmkapaphbaomaaGreatDoor
