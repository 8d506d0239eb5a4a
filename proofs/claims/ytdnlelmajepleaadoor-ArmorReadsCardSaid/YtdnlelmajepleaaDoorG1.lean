/- The document's signs: the walk of Encode, bit by bit. -/
import Derived.Test.YtdnlelmajepleaaDoorA4
import Derived.Test.YtdnlelmajepleaaDoorP8
import Derived.Test.YtdnlelmajepleaaDoorF1
import Derived.Laws.BitsAllLaws
namespace Go.Proofs.YtdnlelmajepleaaDoor
open Go.RowKit

/-- a number as a cell -/
def iv (n : Nat) : Value := .int .i64 (n : Int)
theorem TI64 : ElT Tryd.prog 33 3 1 8 := ElT.mk' (z := .int .i64 0) Tryd.underlying33 (by omega) (by omega) rfl (by kernel_rfl)
theorem iv_snoc {w : World} {b e : Nat} {v x : Value} {n : Nat} {L L' : List Nat} {g : Nat} (h : w.ownsRow b e 1 v (n + 1) (L.map iv ++ [x])) (hx : x = iv g) (hL : L' = L ++ [g]) : w.ownsRow b e 1 v (n + 1) (L'.map iv) := by
  rw [hL, List.map_append]
  rw [hx] at h
  exact h
/-- the length of a slice value -/
def lenOf : Value → Int
  | .slice _ n _ => n
  | _ => 0
theorem and1 (y : UInt8) (k : Nat) : bits .and .u8 ((y.toNat : Int) / 2 ^ k) 1 = ((y.toNat / 2 ^ k % 2 : Nat) : Int) := by
  have h := y.toNat_lt
  have hl : y.toNat / 2 ^ k ≤ y.toNat := Nat.div_le_self _ _
  rw [show ((y.toNat : Int) / 2 ^ k) = ((y.toNat / 2 ^ k : Nat) : Int) by simp, show (1 : Int) = ((1 : Nat) : Int) from rfl, u8_and_nat _ _ (by omega) (by omega)]
  exact congrArg _ (Nat.and_two_pow_sub_one_eq_mod _ 1)

set_option maxRecDepth 100000 in
set_option maxHeartbeats 2000000 in
theorem refE_any (A : Option Addr) (xs : List UInt8) (n c : Nat) (w : World) (hn : xs.length = n) (hA : Rb w A xs) (hnc : n ≤ c) (hb : n ≤ 1000000) :
    Calls Tryd.prog 14 #[.slice A n c] w fun e w' => e = .returned (.string (bs (enc xs))) ∧ Below w.heap.size w w' := by
  have HN := Lib.hid hn
  clear hn
  have hpu : ∀ W, Sem.run Tryd.prog (pure #[] : Sem (Array Value)) W = .ok #[] W := fun _ => rfl
  have hst : ∀ a W, Sem.run Tryd.prog (storeCells a []) W = .ok () W := fun _ _ => rfl
  have hown0 := World.ownsRow_made (base := w.heap.size) (e := 3) (size := 1) w #[] 0 (Nat.le_refl _) (by unfold maxLen; omega) rfl
  go_enter Tryd.func14, Tryd.ntmps14
  go_wp2_with fail
  go_loopw [3, 4] (fun v i wr => ∃ q : Nat, i = .int .i64 q ∧ q ≤ n ∧ wr.ownsRow w.heap.size 3 1 v (8 * q) ((bits8 (xs.take q)).map iv) ∧ Below w.heap.size w wr) (fun _ i _ => n - (intOf i).toNat)
  case atStart => exact ⟨0, rfl, by omega, hown0, (Below.refl _ _).alloc (Nat.le_refl _) _⟩
  case round =>
    obtain ⟨q, rfl, hq, hown, hB⟩ := hrel
    obtain ⟨wo, rfl⟩ : ∃ wo : World, wo = wr := ⟨_, rfl⟩
    by_cases hlt : q < n
    · obtain ⟨b, o, y, rfl, hy, hc⟩ := hA.one (k := q) (by rw [HN.out]; exact hlt)
      have hc0 := cell_lt hc
      have HC := Lib.hid hc
      clear hc
      clear hown0
      go_wp2_with fail
      go_loopw [3, 5] (fun v i wr => ∃ r : Nat, i = .int .i64 ((r : Int) - 1) ∧ r ≤ 8 ∧ wr.ownsRow w.heap.size 3 1 v (8 * q + (8 - r)) ((bits8 (xs.take q) ++ (nbits 8 y.toNat).take (8 - r)).map iv) ∧ Below w.heap.size w wr) (fun _ i _ => (intOf i + 1).toNat)
      case atStart => exact ⟨8, rfl, by omega, by simpa using hown, hB⟩
      case round =>
        obtain ⟨r, rfl, hr, hown, hB⟩ := hrel
        rcases r with _ | k
        · go_wp2_with fail
          go_roundw
          case rel => exact ⟨q + 1, by go_num, by omega, by rw [take_succ_of hy.out, bits8_snoc]; exact hown, hB⟩
          case measure => simp [intOf]; omega
        · have e : (((k + 1 : Nat) : Int) - 1) = (k : Int) := by omega
          rw [e]
          have hc2 := (hB.cell (p := ⟨b, o + q, none⟩) hc0).trans HC.out
          have ha := and1 y k
          have hlt8 : 8 - (k + 1) < 8 := by omega
          have hg := nbits_get (N := y.toNat) hlt8
          rw [show 8 - 1 - (8 - (k + 1)) = k by omega] at hg
          obtain ⟨t, ht⟩ : ∃ t, y.toNat / 2 ^ k % 2 = t := ⟨_, rfl⟩
          rw [ht] at ha hg
          have htl : t < 2 := by omega
          have HG := Lib.hid hg
          have hs1 := hB.size
          clear hg ht
          go_wp2_with (at_builtin; refine wpList_app rfl (.tmp 21) (.tmp 30) _ _ rfl TI64 (hown.alloc (.cells #[iv t] 3)) rfl (Src_rv (news := [iv t]) Tryd.underlying33 rfl (Rv_new wr _ _ _ rfl) (by simp [Value.oneCell', iv]) (by omega)) rfl (by omega) (by simp; omega) ?_; intro v2 w2 hown2 hgr2 hat2; have hB2 := below_app (hB.alloc hs1 (.cells #[iv t] 3)) (hown.alloc _) hgr2 (by simp; omega) (Nat.le_refl _))
          go_roundw
          case rel =>
            refine ⟨k, by go_num, by omega, ?_, hB2⟩
            have e2 : 8 - k = 8 - (k + 1) + 1 := by omega
            rw [e2, take_succ_of HG.out, ← List.append_assoc, ← Nat.add_assoc]
            exact iv_snoc hown2 rfl rfl
          case measure => simp [intOf]
    · obtain rfl : q = n := by omega
      rw [take_all xs (by rw [HN.out]; omega)] at hown
      have hl0 := bits8_length xs
      rw [HN.out] at hl0
      clear hlt hown0
      go_wp2_with fail
      go_loopw [3] (fun v wr => ∃ r N : Nat, N = 8 * q + r ∧ r ≤ (6 - 8 * q % 6) % 6 ∧ wr.ownsRow w.heap.size 3 1 v N ((bits8 xs ++ List.replicate r 0).map iv) ∧ Below w.heap.size w wr) (fun v _ => ((6 - (lenOf v).toNat % 6) % 6))
      case atStart => exact ⟨0, 8 * q, rfl, by omega, by simpa using hown, hB⟩
      case round =>
        obtain ⟨r, N, hN, hr, hown, hB⟩ := hrel
        have hown5 := hown
        obtain ⟨A3, c3, rfl, hc3, hc3m, hR3, hl3⟩ := own_form hown
        by_cases h6 : N % 6 = 0
        · have hb6 : (((N : Int) % 6) != 0) = false := by
            have : (N : Int) % 6 = 0 := by omega
            simp [this]
          have hre : r = (6 - 8 * q % 6) % 6 := by omega
          have hW : bits8 xs ++ List.replicate r 0 = padTo 6 0 (bits8 xs) := by rw [padTo, hl0, hre]
          rw [hW] at hR3 hown5
          have hWb : ∀ b ∈ padTo 6 0 (bits8 xs), b < 2 := by
            rw [← hW]
            intro b hb
            rcases List.mem_append.1 hb with h | h
            · exact bits8_lt xs b h
            · rw [List.mem_replicate] at h
              omega
          have hWl : (padTo 6 0 (bits8 xs)).length = N := by rw [← hW, List.length_append, hl0, List.length_replicate, hN]
          have hRE : padTo 4 61 (sgnsTo (padTo 6 0 (bits8 xs)) (N / 6)) = enc xs := by rw [← refE_enc, refE, hWl]
          obtain ⟨G, hG⟩ : ∃ G, N = 6 * G := ⟨N / 6, by omega⟩
          rw [show N / 6 = G by omega] at hRE
          have hN2 : N ≤ 9000000 := by omega
          have HWB := Lib.hid hWb
          have HRE := Lib.hid hRE
          have HWL := Lib.hid hWl
          have HG := Lib.hid hG
          clear hRE hWb hWl hW hre hl3 hl0 hown hN hG hr h6
          generalize padTo 6 0 (bits8 xs) = W at *
          have hown8 := World.ownsRow_made (base := wr.heap.size) (e := 5) (size := 1) wr #[] 0 (Nat.le_refl _) (by unfold maxLen; omega) rfl
          have hB8 : Below wr.heap.size wr (wr.alloc (.cells #[] 5)) := (Below.refl _ _).alloc (Nat.le_refl _) _
          obtain ⟨w9, rfl⟩ : ∃ w9 : World, w9 = wr := ⟨_, rfl⟩
          go_wp2_with fail
          clear hb6
          go_loopw [6, 7] (fun v i wr => ∃ k p : Nat, i = .int .i64 p ∧ p ≤ 6 * k ∧ 6 * k ≤ p ∧ p ≤ N ∧ wr.ownsRow w9.heap.size 5 1 v k ((sgnsTo W k).map bv) ∧ Below w9.heap.size w9 wr) (fun _ i _ => N - (intOf i).toNat)
          case atStart => exact ⟨0, 0, rfl, by omega, by omega, by omega, hown8, hB8⟩
          case round =>
            obtain ⟨k, p, rfl, hp1, hp2, hpN, hown, hB10⟩ := hrel
            obtain ⟨w10, rfl⟩ : ∃ w10 : World, w10 = wr := ⟨_, rfl⟩
            have hown9 := hown
            obtain ⟨A6, c6, rfl, hc6, hc6m, hR6, hl6⟩ := own_form hown
            by_cases hlt : p < N
            · have hp6 : p + 6 ≤ N := by have := HG.out; omega
              have hdl : ((W.drop p).take 6).length = 6 := by simp [HWL.out]; omega
              have HDL := Lib.hid hdl
              clear hdl
              go_wp2_with fail
              go_loopw [8, 9] (fun v i wr => ∃ m : Nat, i = .int .i64 m ∧ m ≤ 6 ∧ v = .int .i64 (num ((W.drop p).take m)) ∧ Dn w10 wr) (fun _ i _ => 6 - (intOf i).toNat)
              case atStart => exact ⟨0, rfl, by omega, rfl, Dn.refl _⟩
              case round =>
                obtain ⟨m, rfl, hm, rfl, hdn⟩ := hrel
                have hnum : num ((W.drop p).take m) < 64 := by
                  have h1 := num_lt (l := (W.drop p).take m) (fun b hb => HWB.out b (List.mem_of_mem_drop (List.mem_of_mem_take hb)))
                  have h2 : ((W.drop p).take m).length ≤ 6 := by simp; omega
                  have h3 : 2 ^ ((W.drop p).take m).length ≤ 2 ^ 6 := Nat.pow_le_pow_right (by omega) h2
                  omega
                by_cases hm6 : m < 6
                · obtain ⟨b3, o3, x, rfl, hx, hcx⟩ := ((hR3.below hB10).below (hdn.below _)).one (k := p + m) (by simp [HWL.out]; omega)
                  obtain ⟨g, hg, rfl⟩ : ∃ g, W[p + m]? = some g ∧ x = iv g := by
                    have := hx.out
                    simp only [List.getElem?_map, Option.map_eq_some_iff] at this
                    obtain ⟨g, h1, h2⟩ := this
                    exact ⟨g, h1, h2.symm⟩
                  have hg2 := HWB.out g (List.mem_of_getElem? hg)
                  have hstep : num ((W.drop p).take (m + 1)) = 2 * num ((W.drop p).take m) + g := by
                    rw [take_succ_of (x := g) (by rw [List.getElem?_drop]; exact hg), num_snoc]
                  have HST := Lib.hid hstep
                  unfold iv at hcx
                  clear hstep hg hx
                  generalize num ((W.drop p).take m) = M at *
                  go_wp2_with fail
                  go_roundw
                  case rel => exact ⟨m + 1, by go_num, by omega, by rw [HST.out]; simp, by first | exact hdn | exact hdn.drewN _ | exact hdn.drew⟩
                  case measure => simp [intOf]; omega
                · obtain rfl : m = 6 := by omega
                  obtain ⟨T, hTe⟩ : ∃ T, num ((W.drop p).take 6) = T := ⟨_, rfl⟩
                  have hsn := sgnsTo_succ W k
                  rw [show 6 * k = p by omega, hTe] at hsn
                  rw [hTe] at hnum ⊢
                  have hTl : T < (⟨#[65, 66, 67, 68, 69, 70, 71, 72, 73, 74, 75, 76, 77, 78, 79, 80, 81, 82, 83, 84, 85, 86, 87, 88, 89, 90, 97, 98, 99, 100, 101, 102, 103, 104, 105, 106, 107, 108, 109, 110, 111, 112, 113, 114, 115, 116, 117, 118, 119, 120, 121, 122, 48, 49, 50, 51, 52, 53, 54, 55, 56, 57, 43, 47]⟩ : ByteArray).size := hnum
                  obtain ⟨cb, hcb⟩ : ∃ cb, (⟨#[65, 66, 67, 68, 69, 70, 71, 72, 73, 74, 75, 76, 77, 78, 79, 80, 81, 82, 83, 84, 85, 86, 87, 88, 89, 90, 97, 98, 99, 100, 101, 102, 103, 104, 105, 106, 107, 108, 109, 110, 111, 112, 113, 114, 115, 116, 117, 118, 119, 120, 121, 122, 48, 49, 50, 51, 52, 53, 54, 55, 56, 57, 43, 47]⟩ : ByteArray)[T] = cb := ⟨_, rfl⟩
                  have hcs : sgs.getD T 0 = cb := by rw [← hcb]; exact (sgs_get T hnum).symm
                  rw [hcs] at hsn
                  have HSN := Lib.hid hsn
                  clear hsn hTe hcs
                  have hown11 : wr.ownsRow w9.heap.size 5 1 (.slice A6 k c6) k ((sgnsTo W k).map bv) := own_below hown9 (hdn.below _)
                  have hB11 : Below w9.heap.size w9 wr := hB10.trans ((hdn.below _).mono hB10.size)
                  have hs11 := hB11.size
                  go_wp2_with (at_builtin; refine wpList_app rfl (.tmp 59) (.tmp 62) _ _ rfl TU8 (hown11.alloc (.cells #[bv cb] 5)) rfl (Src_rv (news := [bv cb]) Tryd.underlying22 rfl (Rv_new wr _ _ _ rfl) (by simp [Value.oneCell', bv]) (by omega)) rfl (by omega) (by simp; omega) ?_; intro v2 w2 hown2 hgr2 hat2; have hB2 := below_app (hB11.alloc hs11 (.cells #[bv cb] 5)) (hown11.alloc _) hgr2 (by simp; omega) (Nat.le_refl _))
                  go_roundw
                  case rel =>
                    refine ⟨k + 1, p + 6, by go_num, by omega, by omega, by omega, ?_, hB2⟩
                    rw [HSN.out, List.map_append]
                    exact hown2
                  case measure => simp [intOf]; omega
            · obtain rfl : p = N := by omega
              obtain rfl : G = k := by have := HG.out; omega
              have hsl : (sgnsTo W G).length = G := by simp [sgnsTo]
              have HSL := Lib.hid hsl
              clear hsl hl6 hR6
              go_wp2_with fail
              go_loopw [6] (fun v wr => ∃ r M : Nat, M ≤ G + r ∧ G + r ≤ M ∧ r ≤ (4 - G % 4) % 4 ∧ wr.ownsRow w9.heap.size 5 1 v M ((sgnsTo W G ++ List.replicate r 61).map bv) ∧ Below w9.heap.size w9 wr) (fun v _ => ((4 - (lenOf v).toNat % 4) % 4))
              case atStart => exact ⟨0, G, by omega, by omega, by omega, by simpa using hown9, hB10⟩
              case round =>
                obtain ⟨r, M, hM1, hM2, hr, hown, hB12⟩ := hrel
                have hown13 := hown
                obtain ⟨A7, c7, rfl, hc7, hc7m, hR7, hl7⟩ := own_form hown
                have hM3 : M ≤ 9000000 := by have := HG.out; omega
                clear hown9
                by_cases h4 : M % 4 = 0
                · have hb4 : (((M : Int) % 4) != 0) = false := by
                    have : (M : Int) % 4 = 0 := by omega
                    simp [this]
                  have hend : sgnsTo W G ++ List.replicate r 61 = enc xs := by
                    rw [← HRE.out, padTo, HSL.out, show r = (4 - G % 4) % 4 by omega]
                  rw [hend] at hR7 hl7
                  have hl8 : (enc xs).length = M := by simpa using hl7
                  have hcv := conv_str (P := Tryd.prog) (src := 22) (dst := 9) (e := 5) Tryd.underlying22 Tryd.underlying5 Tryd.underlying9 (n := M) (c := c7) (show Rb wr A7 (enc xs) from hR7) hl8
                  have HL8 := Lib.hid hl8
                  clear hl8 hl7
                  go_wp2_with fail
                  go_ret
                  exact ⟨rfl, hB.trans (hB12.mono hB.size)⟩
                · have hb4 : (((M : Int) % 4) != 0) = true := by
                    have : ¬ (M : Int) % 4 = 0 := by omega
                    simp [this]
                  have hs12 := hB12.size
                  go_wp2_with (at_builtin; refine wpList_app rfl (.tmp 68) (.tmp 69) _ _ rfl TU8 (hown13.alloc (.cells #[bv 61] 5)) rfl (Src_rv (news := [bv 61]) Tryd.underlying22 rfl (Rv_new wr _ _ _ rfl) (by simp [Value.oneCell', bv]) (by omega)) rfl (by omega) (by simp; omega) ?_; intro v2 w2 hown2 hgr2 hat2; have hB2 := below_app (hB12.alloc hs12 (.cells #[bv 61] 5)) (hown13.alloc _) hgr2 (by simp; omega) (Nat.le_refl _); have hown14 := hown2; obtain ⟨A8, c8, rfl, hc8, hc8m, hR8, hl8⟩ := own_form hown2)
                  go_roundw
                  case rel =>
                    refine ⟨r + 1, M + 1, by omega, by omega, by omega, ?_, hB2⟩
                    rw [List.replicate_succ', ← List.append_assoc, List.map_append]
                    exact hown14
                  case measure => simp [lenOf]; omega
        · have hb6 : (((N : Int) % 6) != 0) = true := by
            have : ¬ (N : Int) % 6 = 0 := by omega
            simp [this]
          have hs1 := hB.size
          have hN2 : N ≤ 9000000 := by omega
          have HN6 := Lib.hid hN
          clear hN
          go_wp2_with (at_builtin; refine wpList_app rfl (.tmp 36) (.tmp 37) _ _ rfl TI64 (hown.alloc (.cells #[iv 0] 3)) rfl (Src_rv (news := [iv 0]) Tryd.underlying33 rfl (Rv_new wr _ _ _ rfl) (by simp [Value.oneCell', iv]) (by omega)) rfl (by omega) (by simp; omega) ?_; intro v2 w2 hown2 hgr2 hat2; have hB2 := below_app (hB.alloc hs1 (.cells #[iv 0] 3)) (hown.alloc _) hgr2 (by simp; omega) (Nat.le_refl _); have hown7 := hown2; obtain ⟨A4, c4, rfl, hc4, hc4m, hR4, hl4⟩ := own_form hown2)
          have hN := HN6.out
          go_roundw
          case rel =>
            refine ⟨r + 1, N + 1, by omega, by omega, ?_, hB2⟩
            exact iv_snoc hown7 rfl (by rw [List.replicate_succ', List.append_assoc])
          case measure => simp [lenOf]; omega
end Go.Proofs.YtdnlelmajepleaaDoor
