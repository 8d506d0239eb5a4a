/- The statement FieldWidth: the walk of the law. -/
import Derived.Test.YtgohdohkikkeeaaDoorB11
import Derived.Test.YtgohdohkikkeeaaDoorP15
namespace Go.Proofs.YtgohdohkikkeeaaDoor
set_option linter.unusedVariables false
set_option linter.unusedSimpArgs false
open Go.RowKit

set_option maxRecDepth 100000 in
set_option maxHeartbeats 4000000 in
theorem width9_any (n v : List UInt8) (w : World) (hn : n.length ≤ 9223372036854775807) (hv : v.length ≤ 9223372036854775807) :
    Calls Tryd.prog 4 #[.agg #[strv n, strv v]] w fun e w' => e = .returned (.bool true) ∧ Below w.heap.size w w' := by
  have hA0 : Below w.heap.size w (w.alloc (.cells #[.string (bs n), .string (bs v)] 28)) := (Below.refl _ _).alloc (Nat.le_refl _) _
  have hfold := fun (W : World) (hv : v.length ≤ 9223372036854775807) => fold_any n v W hn hv
  unfold strv at *
  go_enter Tryd.func4, Tryd.ntmps4
  go_wp2_with fail
  refine (speaks9_any _).mono ?_
  rintro e w1 ⟨rfl, hb1⟩
  have hB1 := hA0.trans (hb1.mono hA0.size)
  have c0 : w1.cell? ⟨w.heap.size, 0, none⟩ = some (.string (bs n)) := (hb1.cell (p := ⟨w.heap.size, 0, none⟩) (by simp)).trans (by simp)
  have c1 : w1.cell? ⟨w.heap.size, 1, none⟩ = some (.string (bs v)) := (hb1.cell (p := ⟨w.heap.size, 1, none⟩) (by simp)).trans (by simp)
  have hs1 := hB1.size
  by_cases h1 : 9000 < v.length
  · go_wp2_with fail
    go_ret
    exact ⟨rfl, hB1⟩
  go_wp2_with fail
  refine (hfold _ (by omega)).mono ?_
  rintro e w2 ⟨hfo, hb2⟩
  have hB2 := hB1.trans (hb2.mono hs1)
  have hs2 := hB2.size
  have c20 : w2.cell? ⟨w.heap.size, 0, none⟩ = some (.string (bs n)) := (hb2.cell (p := ⟨w.heap.size, 0, none⟩) (cell_lt c0)).trans c0
  have c21 : w2.cell? ⟨w.heap.size, 1, none⟩ = some (.string (bs v)) := (hb2.cell (p := ⟨w.heap.size, 1, none⟩) (cell_lt c1)).trans c1
  rcases hfo with ⟨hnm, hvl, x, rfl, hx⟩ | ⟨hno, rfl⟩
  · obtain ⟨b, bc, rfl, hbc, _, hR, _⟩ := hx.form
    have hfl := foldF_len n v
    have hnl := nmOk_len hnm
    have hok := foldL_ok (n := n) (v := v)
    have hfu := foldL_further (n := n) hvl
    have hpl := foldL_plain hnm hvl
    rw [foldL_text] at hfl hbc hR hx ⊢
    clear hx hfold
    generalize foldL n v = ls at *
    have HOK := Lib.hid hok
    have HFU := Lib.hid hfu
    have HPL := Lib.hid hpl
    obtain ⟨al, hal⟩ : ∃ al, linesT ls = al := ⟨_, rfl⟩
    rw [hal] at hfl hbc hR ⊢
    have HAL := Lib.hid hal
    clear hok hfu hpl hal
    obtain ⟨N, hN⟩ : ∃ N, al.length = N := ⟨_, rfl⟩
    rw [hN] at hfl hbc ⊢
    have HN := Lib.hid hN
    clear hN
    have hRb : Rb w2 b al := hR
    clear hR
    go_wp2_with fail
    go_loopw [5, 38] (fun f i wr => ∃ q g : Nat, i = .int .i64 q ∧ f = .int .i64 g ∧ q ≤ N ∧ g ≤ q + 1 ∧ Hid (LineAt ls q g) ∧ Dn w2 wr) (fun _ i _ => N - (intOf i).toNat)
    case atStart => exact ⟨0, 0, rfl, rfl, by omega, by omega, Lib.hid (LineAt.start ls), Dn.refl _⟩
    case round =>
      obtain ⟨q, g, rfl, rfl, hq, hg, hat, hd⟩ := hrel
      have hBr := hB2.trans ((hd.below _).mono hs2)
      have hRr := hRb.below (hd.below _)
      by_cases hlt : q < N
      · obtain ⟨bb, bo, ch, rfl, hch, hcc⟩ := hRr.one (k := q) (by rw [HN.out]; exact hlt)
        by_cases h13 : ch = 13
        · have h13i : (ch.toNat : Int) = 13 := by rw [h13]; rfl
          have h13b : ((ch.toNat : Int) != 13) = false := by rw [h13i]; rfl
          have hch13 : (linesT ls)[q]? = some 13 := by rw [HAL.out, hch.out, h13]
          obtain ⟨l, hl0, hl1, hgq, hll, hnext⟩ := hat.out.line hch13 HPL.out
          have hlen : l.length = q - g := by
            rw [hll, HAL.out, List.length_take, List.length_drop, HN.out]
            omega
          have hRl : Rb wr (some ⟨bb, bo + g, none⟩) l := by
            rw [hll, HAL.out]
            exact (hRr.drop g).take _
          have HL0 := Lib.hid hl0
          have HL1 := Lib.hid hl1
          have HLN := Lib.hid hlen
          have HNX := Lib.hid hnext
          clear hl0 hl1 hll hnext hlen h13 h13i hch13 hRr
          obtain ⟨wA, rfl⟩ : ∃ wA : World, wA = wr := ⟨_, rfl⟩
          go_wp2_with fail
          go_loopw [9, 10, 51] (fun t wd i wr => ∃ (k tt : Nat) (ww : Bool), i = .int .i64 k ∧ t = .int .i64 tt ∧ wd = .bool ww ∧ k ≤ q - g ∧ tt ≤ k ∧ Hid (turnsAt l g n.length k tt ww) ∧ Dn wA wr) (fun _ _ i _ => (q - g) - (intOf i).toNat)
          case atStart => exact ⟨0, 0, false, rfl, rfl, rfl, by omega, by omega, Lib.hid (turnsAt.start l g n.length), Dn.refl _⟩
          case round =>
            obtain ⟨k, tt, ww, rfl, rfl, rfl, hk, htk, hta, hdr⟩ := hrel
            have hRi := hRl.below (hdr.below _)
            have c2r : wr.cell? ⟨w.heap.size, 0, none⟩ = some (.string (bs n)) := (((hd.trans hdr).below _).cell (p := ⟨w.heap.size, 0, none⟩) (cell_lt c20)).trans c20
            by_cases hlk : k < q - g
            · obtain ⟨b2, o2, x, e, hx, hcx⟩ := hRi.one (k := k) (by rw [HLN.out]; exact hlk)
              cases e
              rcases blk_cases x with ⟨hbk, hb2⟩ | ⟨hbk, hb2, hb3⟩
              · have HBL := Lib.hid (hta.out.blank hx.out hbk)
                have hfacts : (((x.toNat : Int) != 32) = false) ∨ (((x.toNat : Int) != 32) = true ∧ ((x.toNat : Int) != 9) = false) := by
                  rw [bne_iff_ne, bne_eq_false_iff_eq, bne_eq_false_iff_eq]
                  exact hb2
                clear hb2
                have hturn : ww = true → 0 < k → ∀ p, l[k - 1]? = some p → blk p = false → (0 < g ∨ n.length + 1 < k) → Hid (turnsAt l g n.length (k + 1) (tt + 1) true) := by
                  rintro rfl h0 p hp hn hf
                  exact Lib.hid (hta.out.turn hx.out hbk h0 hp hn hf)
                have HTURN := Lib.hid hturn
                clear hturn
                cases ww with
                | false =>
                  clear HTURN
                  rcases hfacts with h32b | ⟨h32b, h9b⟩
                  all_goals
                    go_wp2_with fail
                    go_roundw
                    case rel => exact ⟨k + 1, tt, false, by go_num, rfl, rfl, by omega, by omega, HBL, hdr⟩
                    case measure => simp [intOf]; omega
                | true =>
                  by_cases hk0 : 0 < k
                  · obtain ⟨j, rfl⟩ : ∃ j, k = j + 1 := ⟨k - 1, by omega⟩
                    obtain ⟨b3, o3, y, e, hy, hcy⟩ := hRi.one (k := j) (by rw [HLN.out]; omega)
                    cases e
                    rcases blk_cases y with ⟨hyb, hyb2⟩ | ⟨hyb, hyb2, hyb3⟩
                    · have hyfacts : (((y.toNat : Int) != 32) = false) ∨ (((y.toNat : Int) != 32) = true ∧ ((y.toNat : Int) != 9) = false) := by
                        rw [bne_iff_ne, bne_eq_false_iff_eq, bne_eq_false_iff_eq]
                        exact hyb2
                      clear hyb2 HTURN
                      rcases hfacts with h32b | ⟨h32b, h9b⟩
                      all_goals
                        rcases hyfacts with hy32 | ⟨hy32, hy9⟩
                        all_goals
                          go_wp2_with fail
                          go_roundw
                          case rel => exact ⟨j + 1 + 1, tt, true, by go_num, rfl, rfl, by omega, by omega, HBL, hdr⟩
                          case measure => simp [intOf]; omega
                    · have hy32 : ((y.toNat : Int) != 32) = true := by rw [bne_iff_ne]; exact hyb2
                      have hy9 : ((y.toNat : Int) != 9) = true := by rw [bne_iff_ne]; exact hyb3
                      have HT2 := Lib.hid (HTURN.out rfl (by omega) y (by simpa using hy.out) hyb)
                      clear hyb2 hyb3 HTURN
                      by_cases hg0 : 0 < g
                      · have HT3 := HT2.out (.inl hg0)
                        rcases hfacts with h32b | ⟨h32b, h9b⟩
                        all_goals
                          go_wp2_with fail
                          go_roundw
                          case rel => exact ⟨j + 1 + 1, tt + 1, true, by go_num, by go_num, rfl, by omega, by omega, HT3, hdr⟩
                          case measure => simp [intOf]; omega
                      · by_cases hnk : n.length < j
                        · have HT3 := HT2.out (.inr (by omega))
                          rcases hfacts with h32b | ⟨h32b, h9b⟩
                          all_goals
                            go_wp2_with fail
                            go_roundw
                            case rel => exact ⟨j + 1 + 1, tt + 1, true, by go_num, by go_num, rfl, by omega, by omega, HT3, hdr⟩
                            case measure => simp [intOf]; omega
                        · clear HT2
                          rcases hfacts with h32b | ⟨h32b, h9b⟩
                          all_goals
                            go_wp2_with fail
                            go_roundw
                            case rel => exact ⟨j + 1 + 1, tt, true, by go_num, rfl, rfl, by omega, by omega, HBL, hdr⟩
                            case measure => simp [intOf]; omega
                  · clear HTURN
                    rcases hfacts with h32b | ⟨h32b, h9b⟩
                    all_goals
                      go_wp2_with fail
                      go_roundw
                      case rel => exact ⟨k + 1, tt, true, by go_num, rfl, rfl, by omega, by omega, HBL, hdr⟩
                      case measure => simp [intOf]; omega
              · have h32b : ((x.toNat : Int) != 32) = true := by rw [bne_iff_ne]; exact hb2
                have h9b : ((x.toNat : Int) != 9) = true := by rw [bne_iff_ne]; exact hb3
                have HWD := Lib.hid hta.out.word
                clear hb2 hb3
                go_wp2_with fail
                go_roundw
                case rel => exact ⟨k + 1, tt, true, by go_num, rfl, rfl, by omega, by omega, HWD, hdr⟩
                case measure => simp [intOf]; omega
            · have hke : k = q - g := by omega
              have hfin : turnsAt l g n.length l.length tt ww := by
                have := hta.out
                rwa [hke, ← HLN.out] at this
              have hloK : lineOk (if g = 0 then n.length + 1 else 0) l := by
                obtain ⟨a, as1, e1, e2, e3⟩ := HOK.out
                by_cases hg0 : g = 0
                · rw [if_pos hg0]
                  have := HL0.out hg0
                  rw [e1] at this
                  cases this
                  exact e2
                · rw [if_neg hg0]
                  have := HL1.out (by omega)
                  rw [e1] at this
                  exact e3 l this
              have hfine := hfin.fine hloK
              rw [HLN.out] at hfine
              by_cases hg0 : 0 < g
              · obtain ⟨⟨c, r, hcr, hcb⟩, hw⟩ := HFU.out l (HL1.out hg0)
                have hww := hfin.hasWord hw
                subst hww
                have hlpos : 0 < q - g := by rw [← HLN.out, hcr]; simp
                obtain ⟨b3, o3, y, e, hy, hcy⟩ := hRi.one (k := 0) (by rw [HLN.out]; exact hlpos)
                cases e
                have hyc : y = c := by
                  have := hy.out
                  rw [hcr] at this
                  simpa using this.symm
                rw [Nat.add_zero] at hcy
                have hyfacts : (((y.toNat : Int) != 32) = false) ∨ (((y.toNat : Int) != 32) = true ∧ ((y.toNat : Int) != 9) = false) := by
                  rw [bne_iff_ne, bne_eq_false_iff_eq, bne_eq_false_iff_eq, hyc]
                  rcases blk_cases c with ⟨_, h⟩ | ⟨h, _⟩
                  · exact h
                  · rw [hcb] at h
                    cases h
                clear hyc hfin hloK hcr hcb hw
                by_cases h76 : 76 < q - g
                · have ht0 : ¬ 0 < tt := fun h => hfine ⟨h76, h⟩
                  clear hfine
                  rcases hyfacts with hy32 | ⟨hy32, hy9⟩
                  all_goals
                    go_wp2_with fail
                    go_roundw
                    case rel => exact ⟨q + 1, q + 2, by go_num, by go_num, by omega, by omega, HNX, hd.trans hdr⟩
                    case measure => simp [intOf]; omega
                · clear hfine
                  rcases hyfacts with hy32 | ⟨hy32, hy9⟩
                  all_goals
                    go_wp2_with fail
                    go_roundw
                    case rel => exact ⟨q + 1, q + 2, by go_num, by go_num, by omega, by omega, HNX, hd.trans hdr⟩
                    case measure => simp [intOf]; omega
              · clear hfin hloK
                by_cases h76 : 76 < q - g
                · have ht0 : ¬ 0 < tt := fun h => hfine ⟨h76, h⟩
                  clear hfine
                  go_wp2_with fail
                  go_roundw
                  case rel => exact ⟨q + 1, q + 2, by go_num, by go_num, by omega, by omega, HNX, hd.trans hdr⟩
                  case measure => simp [intOf]; omega
                · clear hfine
                  go_wp2_with fail
                  go_roundw
                  case rel => exact ⟨q + 1, q + 2, by go_num, by go_num, by omega, by omega, HNX, hd.trans hdr⟩
                  case measure => simp [intOf]; omega
        · have h13b : ((ch.toNat : Int) != 13) = true := by
            rw [bne_iff_ne]
            intro e
            exact h13 (UInt8.toNat_inj.1 (by show ch.toNat = 13; omega))
          have HON := Lib.hid (hat.out.on (by rw [HAL.out]; exact hch.out) h13)
          clear h13
          go_wp2_with fail
          go_roundw
          case rel => exact ⟨q + 1, g, by go_num, rfl, by omega, by omega, HON, hd⟩
          case measure => simp [intOf]; omega
      · have hqN : q = N := by omega
        have hgN : g = N := by
          have h1 := hat.out
          rw [hqN, ← HN.out, ← HAL.out] at h1
          have h2 := h1.stop
          rwa [HAL.out, HN.out] at h2
        have hgb : ((g : Int) == (N : Int)) = true := by rw [hgN]; simp
        clear hqN hgN
        go_wp2_with fail
        go_ret
        exact ⟨rfl, hBr⟩
  · go_wp2_with fail
    refine (rname_any n _ (by omega)).mono ?_
    rintro e w3 ⟨rfl, hd3⟩
    have hB3 := hB2.trans ((hd3.below _).mono hs2)
    have hs3 := hB3.size
    have c31 : w3.cell? ⟨w.heap.size, 1, none⟩ = some (.string (bs v)) := ((hd3.below _).cell (p := ⟨w.heap.size, 1, none⟩) (cell_lt c21)).trans c21
    cases hnm : nmOk n with
    | false =>
      go_wp2_with fail
      go_ret
      exact ⟨rfl, hB3⟩
    | true =>
      rw [hnm, Bool.true_and] at hno
      go_wp2_with fail
      refine (rvalue_any v _ (by omega)).mono ?_
      rintro e w4 ⟨rfl, hd4⟩
      have hB4 := hB3.trans ((hd4.below _).mono hs3)
      rw [hno]
      go_wp2_with fail
      go_ret
      exact ⟨rfl, hB4⟩
end Go.Proofs.YtgohdohkikkeeaaDoor
