/- The document's bytes of signs: the walk of Decode, bit by bit. -/
import Derived.Test.YtdnlelmajepleaaDoorG1
import Derived.Test.YtdnlelmajepleaaDoorA7
namespace Go.Proofs.YtdnlelmajepleaaDoor
open Go.RowKit

theorem and1i (n k : Nat) (h : n < 64) : bits .and .i64 ((n : Int) / 2 ^ k) 1 = ((n / 2 ^ k % 2 : Nat) : Int) := by
  have hl : n / 2 ^ k ≤ n := Nat.div_le_self _ _
  rw [show ((n : Int) / 2 ^ k) = ((n / 2 ^ k : Nat) : Int) by simp]
  generalize n / 2 ^ k = m at *
  have key : ∀ m : Fin 64, bits .and .i64 ((m.1 : Nat) : Int) 1 = ((m.1 % 2 : Nat) : Int) := by decide +kernel
  exact key ⟨m, by omega⟩

set_option maxRecDepth 100000 in
set_option maxHeartbeats 2000000 in
theorem refD_any (l : List UInt8) (w : World) (hb : l.length ≤ 1000000) :
    Calls Tryd.prog 7 #[.string (bs l)] w (DecOut l w) := by
  have hpu : ∀ W, Sem.run Tryd.prog (pure #[] : Sem (Array Value)) W = .ok #[] W := fun _ => rfl
  have hst : ∀ a W, Sem.run Tryd.prog (storeCells a []) W = .ok () W := fun _ _ => rfl
  have hown0 := World.ownsRow_made (base := w.heap.size) (e := 3) (size := 1) w #[] 0 (Nat.le_refl _) (by unfold maxLen; omega) rfl
  go_enter Tryd.func7, Tryd.ntmps7
  go_wp2_with fail
  go_loopw [4, 5] (fun v i wr => ∃ q d : Nat, i = .int .i64 q ∧ q ≤ l.length ∧ d ≤ 6 * q ∧ wr.ownsRow w.heap.size 3 1 v d ((dbits (l.take q)).map iv) ∧ Below w.heap.size w wr) (fun _ i _ => l.length - (intOf i).toNat)
  case atStart => exact ⟨0, 0, rfl, by omega, by omega, hown0, (Below.refl _ _).alloc (Nat.le_refl _) _⟩
  case round =>
    obtain ⟨q, d, rfl, hq, hd, hown, hB⟩ := hrel
    obtain ⟨wo, rfl⟩ : ∃ wo : World, wo = wr := ⟨_, rfl⟩
    by_cases hlt : q < l.length
    · obtain ⟨c, hc⟩ : ∃ c, l[q]? = some c := ⟨_, List.getElem?_eq_getElem hlt⟩
      have hi := str_index (P := Tryd.prog) Tryd.underlying9 hc .i64
      have HC := Lib.hid hc
      have hown1 := hown
      clear hc hown0
      go_wp2_with fail
      go_loopw [4, 6] (fun v i wr => ∃ n e : Nat, i = .int .i64 n ∧ n ≤ 64 ∧ e ≤ 6 * q + 6 ∧ (n ≤ svn c → e ≤ 6 * q) ∧ wr.ownsRow w.heap.size 3 1 v e ((dbits (l.take q) ++ if sok c = true ∧ svn c < n then nbits 6 (svn c) else []).map iv) ∧ Below w.heap.size w wr) (fun _ i _ => 64 - (intOf i).toNat)
      case atStart => exact ⟨0, d, rfl, by omega, by omega, fun _ => hd, by simpa using hown1, hB⟩
      case round =>
        obtain ⟨n, e, rfl, hn, he, hes, hown, hB1⟩ := hrel
        by_cases hn64 : n < 64
        · have hTl : n < (⟨#[65, 66, 67, 68, 69, 70, 71, 72, 73, 74, 75, 76, 77, 78, 79, 80, 81, 82, 83, 84, 85, 86, 87, 88, 89, 90, 97, 98, 99, 100, 101, 102, 103, 104, 105, 106, 107, 108, 109, 110, 111, 112, 113, 114, 115, 116, 117, 118, 119, 120, 121, 122, 48, 49, 50, 51, 52, 53, 54, 55, 56, 57, 43, 47]⟩ : ByteArray).size := hn64
          obtain ⟨cb, hcb⟩ : ∃ cb, (⟨#[65, 66, 67, 68, 69, 70, 71, 72, 73, 74, 75, 76, 77, 78, 79, 80, 81, 82, 83, 84, 85, 86, 87, 88, 89, 90, 97, 98, 99, 100, 101, 102, 103, 104, 105, 106, 107, 108, 109, 110, 111, 112, 113, 114, 115, 116, 117, 118, 119, 120, 121, 122, 48, 49, 50, 51, 52, 53, 54, 55, 56, 57, 43, 47]⟩ : ByteArray)[n] = cb := ⟨_, rfl⟩
          have hcs : sgs.getD n 0 = cb := by rw [← hcb]; exact (sgs_get n hn64).symm
          have hiff := sgs_iff hn64 c
          rw [hcs] at hiff
          have HIFF := Lib.hid hiff
          have hown2 := hown
          clear hiff hcs
          rcases Bool.eq_false_or_eq_true ((cb.toNat : Int) == (c.toNat : Int)) with hbb | hbb
          · have hec : cb = c := by rw [u8_beq, beq_iff_eq] at hbb; exact hbb
            have hsv := HIFF.out.1 hec
            have hno : ¬ (sok c = true ∧ svn c < n) := by omega
            rw [if_neg hno, List.append_nil] at hown2
            have HSV := Lib.hid hsv
            clear hno hsv hec hown
            go_wp2_with fail
            go_quiet (fail)
            go_wp2_with fail
            have hown3 : (wr.drewN nq).ownsRow w.heap.size 3 1 u4 e ((dbits (l.take q)).map iv) := hown2
            have hB3 : Below w.heap.size w (wr.drewN nq) := hB1.trans (Dn.below (Dn.of _ _) _ |>.mono hB1.size)
            obtain ⟨w5, hw5⟩ : ∃ w5, wr.drewN nq = w5 := ⟨_, rfl⟩
            rw [hw5] at hown3 hB3 ⊢
            have he6 : e ≤ 6 * q := hes (by have := HSV.out.2; omega)
            have HES := Lib.hid hes
            clear hes
            go_loopw [4, 7] (fun v i wr => ∃ r : Nat, i = .int .i64 ((r : Int) - 1) ∧ r ≤ 6 ∧ wr.ownsRow w.heap.size 3 1 v (e + (6 - r)) ((dbits (l.take q) ++ (nbits 6 n).take (6 - r)).map iv) ∧ Below w.heap.size w wr) (fun _ i _ => (intOf i + 1).toNat)
            case atStart => exact ⟨6, rfl, by omega, by simpa using hown3, hB3⟩
            case round =>
              obtain ⟨r, rfl, hr, hown, hB⟩ := hrel
              rcases r with _ | k
              · go_wp2_with fail
                go_roundw
                case rel => exact ⟨n + 1, e + 6, by go_num, by omega, by omega, fun h => by have := HSV.out.2; omega, by
                  rw [if_pos ⟨HSV.out.1, by have := HSV.out.2; omega⟩, HSV.out.2]
                  have h6 : (nbits 6 n).take (6 - 0) = nbits 6 n := List.take_of_length_le (by rw [nbits_length]; omega)
                  rw [h6] at hown
                  exact hown, hB⟩
                case measure => simp [intOf]; omega
              · have ek : (((k + 1 : Nat) : Int) - 1) = (k : Int) := by omega
                rw [ek]
                have ha := and1i n k hn64
                have hlt6 : 6 - (k + 1) < 6 := by omega
                have hg := nbits_get (N := n) hlt6
                rw [show 6 - 1 - (6 - (k + 1)) = k by omega] at hg
                obtain ⟨t, ht⟩ : ∃ t, n / 2 ^ k % 2 = t := ⟨_, rfl⟩
                rw [ht] at ha hg
                have htl : t < 2 := by omega
                have HG := Lib.hid hg
                have hs1 := hB.size
                clear hg ht
                go_wp2_with (at_builtin; refine wpList_app rfl (.tmp 33) (.tmp 38) _ _ rfl TI64 (hown.alloc (.cells #[iv t] 3)) rfl (Src_rv (news := [iv t]) Tryd.underlying33 rfl (Rv_new wr _ _ _ rfl) (by simp [Value.oneCell', iv]) (by omega)) rfl (by omega) (by simp; omega) ?_; intro v2 w2 hown2 hgr2 hat2; have hB2 := below_app (hB.alloc hs1 (.cells #[iv t] 3)) (hown.alloc _) hgr2 (by simp; omega) (Nat.le_refl _))
                go_roundw
                case rel =>
                  refine ⟨k, by go_num, by omega, ?_, hB2⟩
                  have e2 : 6 - k = 6 - (k + 1) + 1 := by omega
                  rw [e2, take_succ_of HG.out, ← List.append_assoc, ← Nat.add_assoc]
                  exact iv_snoc hown2 rfl rfl
                case measure => simp [intOf]
          · have hec : cb ≠ c := by
              intro e
              rw [e] at hbb
              simp at hbb
            have hsv : ¬ (sok c = true ∧ svn c = n) := fun h => hec (HIFF.out.2 h)
            have hnx : (if sok c = true ∧ svn c < n + 1 then nbits 6 (svn c) else []) = if sok c = true ∧ svn c < n then nbits 6 (svn c) else [] := by
              by_cases h1 : sok c = true ∧ svn c < n
              · rw [if_pos h1, if_pos ⟨h1.1, by omega⟩]
              · rw [if_neg h1, if_neg (fun h => by
                  rcases (by omega : svn c < n ∨ svn c = n) with h2 | h2
                  · exact h1 ⟨h.1, h2⟩
                  · exact hsv ⟨h.1, h2⟩)]
            have HNX := Lib.hid hnx
            clear hnx hsv hec hown
            go_wp2_with fail
            go_quiet (fail)
            go_wp2_with fail
            go_roundw
            case rel => exact ⟨n + 1, e, by go_num, by omega, he, fun h => hes (by omega), by rw [HNX.out]; exact hown2, hB1.trans (Dn.below (Dn.of _ _) _ |>.mono hB1.size)⟩
            case measure => simp [intOf]; omega
        · obtain rfl : n = 64 := by omega
          have hend : dbits (l.take q) ++ (if sok c = true ∧ svn c < 64 then nbits 6 (svn c) else []) = dbits (l.take (q + 1)) := by
            rw [take_succ_of HC.out, dbits_snoc]
            congr 1
            by_cases h : sok c = true
            · rw [if_pos ⟨h, svn_lt c⟩, if_pos h]
            · rw [if_neg (fun k => h k.1), if_neg h]
          rw [hend] at hown
          clear hend
          go_wp2_with fail
          go_roundw
          case rel => exact ⟨q + 1, e, by go_num, by omega, by omega, hown, hB1⟩
          case measure => simp [intOf]; omega
    · obtain rfl : q = l.length := by omega
      rw [List.take_length] at hown
      obtain ⟨A3, c3, rfl, hc3, hc3m, hR3, hl3⟩ := own_form hown
      have hl4 : (dbits l).length = d := by simpa using hl3
      have hWb := dbits_lt l
      have hD : bytesTo (dbits l) (d / 8) = refD l := by rw [refD, hl4]
      have HWB := Lib.hid hWb
      have HWL := Lib.hid hl4
      have HD := Lib.hid hD
      have hd2 : d ≤ 6000000 := by omega
      clear hWb hl4 hD hl3 hown hown0 hlt hq
      generalize dbits l = W at *
      have hown8 := World.ownsRow_made (base := wo.heap.size) (e := 5) (size := 1) wo #[] 0 (Nat.le_refl _) (by unfold maxLen; omega) rfl
      have hB8 : Below wo.heap.size wo (wo.alloc (.cells #[] 5)) := (Below.refl _ _).alloc (Nat.le_refl _) _
      go_wp2_with fail
      go_loopw [8, 9] (fun v i wr => ∃ k p : Nat, i = .int .i64 p ∧ p ≤ 8 * k ∧ 8 * k ≤ p ∧ p ≤ d ∧ wr.ownsRow wo.heap.size 5 1 v k ((bytesTo W k).map bv) ∧ Below wo.heap.size wo wr) (fun _ i _ => d - (intOf i).toNat)
      case atStart => exact ⟨0, 0, rfl, by omega, by omega, by omega, hown8, hB8⟩
      case round =>
        obtain ⟨k, p, rfl, hp1, hp2, hpN, hown, hB10⟩ := hrel
        obtain ⟨w10, rfl⟩ : ∃ w10 : World, w10 = wr := ⟨_, rfl⟩
        have hown9 := hown
        obtain ⟨A6, c6, rfl, hc6, hc6m, hR6, hl6⟩ := own_form hown
        by_cases hlt : p + 8 ≤ d
        · have hdl : ((W.drop p).take 8).length = 8 := by simp [HWL.out]; omega
          have HDL := Lib.hid hdl
          clear hdl
          go_wp2_with fail
          go_loopw [10, 11] (fun v i wr => ∃ m : Nat, i = .int .i64 m ∧ m ≤ 8 ∧ v = .int .i64 (num ((W.drop p).take m)) ∧ Dn w10 wr) (fun _ i _ => 8 - (intOf i).toNat)
          case atStart => exact ⟨0, rfl, by omega, rfl, Dn.refl _⟩
          case round =>
            obtain ⟨m, rfl, hm, rfl, hdn⟩ := hrel
            have hnum : num ((W.drop p).take m) < 256 := by
              have h1 := num_lt (l := (W.drop p).take m) (fun b hb => HWB.out b (List.mem_of_mem_drop (List.mem_of_mem_take hb)))
              have h2 : ((W.drop p).take m).length ≤ 8 := by simp; omega
              have h3 : 2 ^ ((W.drop p).take m).length ≤ 2 ^ 8 := Nat.pow_le_pow_right (by omega) h2
              omega
            by_cases hm6 : m < 8
            · obtain ⟨b3, o3, x, rfl, hx, hcx⟩ := ((hR3.below hB10).below (hdn.below _)).one (k := p + m) (by simp [HWL.out]; omega)
              obtain ⟨g, hg, rfl⟩ : ∃ g, W[p + m]? = some g ∧ x = iv g := by
                have := hx.out
                simp only [List.getElem?_map, Option.map_eq_some_iff] at this
                obtain ⟨g, h1, h2⟩ := this
                exact ⟨g, h1, h2.symm⟩
              have hg2 := HWB.out g (List.mem_of_getElem? hg)
              have hstep : num ((W.drop p).take (m + 1)) = 2 * num ((W.drop p).take m) + g := by
                rw [take_succ_of (x := g) (by rw [List.getElem?_drop]; exact hg), num_snoc]
              have HST := Lib.hid hstep
              unfold iv at hcx
              clear hstep hg hx
              generalize num ((W.drop p).take m) = M at *
              go_wp2_with fail
              go_roundw
              case rel => exact ⟨m + 1, by go_num, by omega, by rw [HST.out]; simp, by first | exact hdn | exact hdn.drewN _ | exact hdn.drew⟩
              case measure => simp [intOf]; omega
            · obtain rfl : m = 8 := by omega
              have hsn := bytesTo_succ W k
              rw [show 8 * k = p by omega] at hsn
              obtain ⟨cb, hcb, hcn⟩ : ∃ cb : UInt8, UInt8.ofNat (num ((W.drop p).take 8)) = cb ∧ num ((W.drop p).take 8) = cb.toNat := ⟨_, rfl, by simp; omega⟩
              rw [hcb] at hsn
              rw [hcn]
              have HSN := Lib.hid hsn
              clear hsn hcb hcn hnum
              have hc0 := u8_lt cb
              have hown11 : wr.ownsRow wo.heap.size 5 1 (.slice A6 k c6) k ((bytesTo W k).map bv) := own_below hown9 (hdn.below _)
              have hB11 : Below wo.heap.size wo wr := hB10.trans ((hdn.below _).mono hB10.size)
              have hs11 := hB11.size
              go_wp2_with (at_builtin; refine wpList_app rfl (.tmp 61) (.tmp 64) _ _ rfl TU8 (hown11.alloc (.cells #[bv cb] 5)) rfl (Src_rv (news := [bv cb]) Tryd.underlying22 rfl (Rv_new wr _ _ _ rfl) (by simp [Value.oneCell', bv]) (by omega)) rfl (by omega) (by simp; omega) ?_; intro v2 w2 hown2 hgr2 hat2; have hB2 := below_app (hB11.alloc hs11 (.cells #[bv cb] 5)) (hown11.alloc _) hgr2 (by simp; omega) (Nat.le_refl _))
              go_roundw
              case rel =>
                refine ⟨k + 1, p + 8, by go_num, by omega, by omega, by omega, ?_, hB2⟩
                rw [HSN.out, List.map_append]
                exact hown2
              case measure => simp [intOf]; omega
        · have hu : bytesTo W k = refD l := by rw [show k = d / 8 by omega]; exact HD.out
          rw [hu] at hR6 hl6
          have hRB : Rb w10 A6 (refD l) := hR6
          have hl7 : (refD l).length = k := by simpa using hl6
          have HL7 := Lib.hid hl7
          have hk : k ≤ l.length := by omega
          have hB11 := hB.trans (hB10.mono hB.size)
          clear hl7 hl6 hu hR6 hown hown9 hown8 hB8
          go_wp2_with fail
          refine (refE_any A6 (refD l) k c6 _ HL7.out hRB hc6 (by omega)).mono ?_
          rintro e w7 ⟨rfl, hb7⟩
          have hB12 := hB11.trans (hb7.mono hB11.size)
          have hRB7 := hRB.below hb7
          by_cases hE : enc (refD l) = l
          · have hbb : (enc (refD l) == l) = true := beq_iff_eq.2 hE
            have HE := Lib.hid hE
            clear hE
            go_wp2_with fail
            go_ret2
            exact ⟨.inl ⟨_, _, _, _, rfl, HL7.out, hc6, hk, hRB7, HE.out⟩, hB12⟩
          · have hbb : (enc (refD l) == l) = false := beq_eq_false_iff_ne.2 hE
            have HE := Lib.hid hE
            clear hE
            go_wp2_with fail
            go_ret2
            exact ⟨.inr ⟨rfl, fun a h => HE.out (by rw [← h, refD_enc])⟩, hB12⟩
end Go.Proofs.YtdnlelmajepleaaDoor
