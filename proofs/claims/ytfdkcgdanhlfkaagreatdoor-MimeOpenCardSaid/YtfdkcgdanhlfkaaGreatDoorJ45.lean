/- The part of a mail whose body is told as base64. -/
import Derived.Test.YtfdkcgdanhlfkaaGreatDoorJ27
import Derived.Test.YtfdkcgdanhlfkaaGreatDoorJ36
import Derived.Test.YtfdkcgdanhlfkaaGreatDoorJ44
namespace Go.Proofs.YtfdkcgdanhlfkaaGreatDoor
set_option linter.unusedVariables false
set_option linter.unusedSimpArgs false
open Go.RowKit
section
open Tk

set_option maxHeartbeats 800000 in
theorem small_any (l : List UInt8) (w : World) (hl : l.length ≤ 140737488351232) :
    Calls Tryz.prog 71 #[.string (bs l)] w fun e w' => e = .returned (.string (bs (l.map small))) ∧ Below w.heap.size w w' := by
  obtain ⟨c, W, hcv, hown, hB, _⟩ := conv_bs (P := Tryz.prog) (src := 9) (dst := 22) Tryz.underlying9 Tryz.underlying22 Tryz.underlying5 w l (by unfold maxLen; omega)
  obtain ⟨B, hBB⟩ : ∃ B, w.heap.size = B := ⟨_, rfl⟩
  rw [hBB] at hcv hown hB ⊢
  obtain ⟨r, hrow⟩ := RowM.of hown
  obtain ⟨K, hK⟩ : ∃ K, l.length = K := ⟨_, rfl⟩
  have HK := Lib.hid hK
  have HBB := Lib.hid hBB
  rw [hK] at hcv hl
  clear hown hBB hK
  go_enter Tryz.func71, Tryz.ntmps71
  go_wp2_with fail
  go_loopw [10] (fun i wr => ∃ q : Nat, i = .int .i64 q ∧ q ≤ K ∧ Hid (RowM wr B 5 ((lowAt l q).map bv ++ r)) ∧ Below B w wr) (fun i _ => K - (intOf i).toNat)
  case atStart => exact ⟨0, rfl, by omega, Lib.hid hrow, hB⟩
  case round =>
    clear hrow hB hcv
    obtain ⟨q, rfl, hq, hrow, hB⟩ := hrel
    by_cases hlt : q < K
    · have hlt2 : q < l.length := by rw [HK.out]; exact hlt
      obtain ⟨x, hx⟩ : ∃ x, l[q]? = some x := ⟨_, List.getElem?_eq_getElem hlt2⟩
      have hlen : q < (lowAt l q).length := by rw [lowAt_len]; exact hlt2
      have hcell : wr.cell? ⟨B, q, none⟩ = some (.int .u8 (x.toNat : Int)) := hrow.out.cell (by rw [List.getElem?_append_left (by simpa using hlen), List.getElem?_map, lowAt_at hx]; rfl)
      have hfr : wr.frozen? ⟨B, q, none⟩ = false := hrow.out.frozen (by rw [List.length_append, List.length_map]; omega)
      by_cases h : 65 ≤ x.toNat ∧ x.toNat ≤ 90
      · obtain ⟨h1, h2⟩ := h
        have k1 : (65 : Int) ≤ (x.toNat : Int) := by omega
        have k2 : (x.toNat : Int) ≤ 90 := by omega
        have hsm : (small x).toNat = x.toNat + 32 := by rw [small_nat, if_pos ⟨h1, h2⟩]
        have hset := hrow.out.set q (bv (small x))
        rw [row_set_map (lowAt_set hx) hlen] at hset
        have hbv : bv (small x) = .int .u8 ((x.toNat : Int) + 97 - 65) := by unfold bv; rw [hsm]; congr 1; omega
        rw [hbv] at hset
        have HSET := Lib.hid hset
        clear hset hbv hsm hx hlen hlt2 h1 h2 hrow
        go_wp2_with fail
        go_roundw
        case rel => exact ⟨q + 1, by go_num, by omega, HSET, hB.setCell (Nat.le_refl _) _⟩
        case measure => simp [intOf]; omega
      · have hsm : small x = x := by unfold small; rw [if_neg h]
        have hst := hrow.out
        rw [lowAt_same hx hsm] at hst
        have HST := Lib.hid hst
        have k : ¬ (65 : Int) ≤ (x.toNat : Int) ∨ ((65 : Int) ≤ (x.toNat : Int) ∧ ¬ (x.toNat : Int) ≤ 90) := by omega
        clear hst hsm h hx hlen hlt2 hrow
        rcases k with k1 | ⟨k1, k2⟩
        all_goals
          go_wp2_with fail
          go_roundw
          case rel => exact ⟨q + 1, by go_num, by omega, HST, hB⟩
          case measure => simp [intOf]; omega
    · have hqK : q = l.length := by rw [HK.out]; omega
      have hrow2 := hrow.out
      rw [hqK, lowAt_end] at hrow2
      have hRb : Rb wr (some ⟨B, 0, none⟩) (l.map small) := fun _ => ⟨B, 0, rfl, fun j v hj => by
        rw [Nat.zero_add]
        exact hrow2.cell (by rw [List.getElem?_append_left (by have := lt_of_get hj; simpa using this)]; exact hj)⟩
      have hcs := fun c => conv_str (P := Tryz.prog) (src := 22) (dst := 9) (c := c) (n := K) Tryz.underlying22 Tryz.underlying5 Tryz.underlying9 hRb (by rw [List.length_map]; exact HK.out)
      clear hRb hrow hrow2 hqK
      go_wp2_with fail
      go_ret
      exact ⟨rfl, hB⟩
end
theorem get_some {nm v : List UInt8} {fs : List (List UInt8 × List UInt8)} {e : Ending} (hv : (Fd.valsN nm fs).head? = some v) (h : Fd.GetOut nm fs e) : e = .returned (.tuple #[.string (bs v), .bool true]) := by
  unfold Fd.GetOut at h
  rw [hv] at h
  exact h
theorem Rb_set {w : World} {A : Option Addr} {l : List UInt8} {p : Addr} (h : Rb w A l) (v : Value) (hne : ∀ b o, A = some ⟨b, o, none⟩ → b ≠ p.block) : Rb (w.setCell p v) A l := fun hp => by
  obtain ⟨b, o, e, hc⟩ := h hp
  refine ⟨b, o, e, fun j u hj => ?_⟩
  rw [World.cell?_of_block (w := w) (Below.heap_setCell w p v b (hne b o e))]
  exact hc j u hj
/-- bytes lie in no block that holds none -/
theorem Rb_not {w : World} {g : Nat} {t : TypeId} {cs : List Value} {A : Option Addr} {l : List UInt8} (hr : Row w g t cs) (h : Rb w A l) (h0 : 0 < l.length) (hc : ∀ v ∈ cs, ∀ x : UInt8, v ≠ bv x) : ∀ b o, A = some ⟨b, o, none⟩ → b ≠ g := by
  rintro b o rfl rfl
  obtain ⟨b', o', e, hcl⟩ := h (by simpa using h0)
  cases e
  have h1 := hcl 0 (bv l[0]) (by simp [List.getElem?_eq_getElem h0])
  rw [Nat.add_zero] at h1
  have h2 : cs[o]? = some (bv l[0]) := by
    by_cases ho : o < cs.length
    · have h3 := hr.cell (j := o) (List.getElem?_eq_getElem ho)
      rw [h3] at h1
      rw [List.getElem?_eq_getElem ho]
      exact h1
    · have h3 : w.heap[b]? = some (.cells cs.toArray t) := hr
      simp only [World.cell?, h3] at h1
      simp at h1
      exact h1
  exact hc _ (List.mem_of_getElem? h2) _ rfl

set_option maxRecDepth 100000 in
set_option maxHeartbeats 2000000 in
theorem leafB_any (A A2 : Option Addr) (fs : List (List UInt8 × List UInt8)) (l : List UInt8) (n c n2 c2 : Nat) (w : World) (hn : fs.length = n) (hA : Fd.Rf w A fs) (hn2 : l.length = n2) (hA2 : Rb w A2 l) (h2c : n2 ≤ c2)
    (hT : Lib.Utf8Tabs 2 3 w) (hC : w.cell? ⟨0, 1, none⟩ = some (.string (bs [98, 97, 115, 101, 54, 52]))) (hb : n ≤ 1000000) (hb2 : n2 ≤ 1000000) (hv : (Fd.valsN cteN fs).head? = some [32, 66, 97, 115, 101, 54, 52]) (hlb : Ar.nob l = [90, 109, 56, 61]) :
    Calls Tryz.prog 40 #[.agg #[.slice A n c, .slice A2 n2 c2]] w fun e w' => (∃ A' c', e = .returned (.tuple #[.int .i64 1, .slice A' 2 c', .int .i64 0]) ∧ 2 ≤ c' ∧ Rb w' A' [102, 111]) ∧ Below w.heap.size w w' := by
  have HN := Lib.hid hn
  have HN2 := Lib.hid hn2
  have HV := Lib.hid hv
  have HLB := Lib.hid hlb
  clear hn hn2 hv hlb
  have hB0 : Below w.heap.size w (w.alloc (.cells #[.slice A n c, .slice A2 n2 c2] 38)) := (Below.refl _ _).alloc (Nat.le_refl _) _
  have c00 : (w.alloc (.cells #[.slice A n c, .slice A2 n2 c2] 38)).cell? ⟨w.heap.size, 0, none⟩ = some (.slice A n c) := by simp
  have c01 : (w.alloc (.cells #[.slice A n c, .slice A2 n2 c2] 38)).cell? ⟨w.heap.size, 1, none⟩ = some (.slice A2 n2 c2) := by simp
  go_enter Tryz.func40, Tryz.ntmps40
  go_wp2_with fail
  generalize (w.alloc (.cells #[.slice A n c, .slice A2 n2 c2] 38)) = W0 at *
  have hg := Fd.get_any A A2 fs [67, 111, 110, 116, 101, 110, 116, 45, 84, 114, 97, 110, 115, 102, 101, 114, 45, 69, 110, 99, 111, 100, 105, 110, 103] n c n2 c2 W0 HN.out (hA.below hB0) (tabs_below hT hB0) (by simp) hb
  refine hg.mono ?_
  rintro e w1 ⟨hgo, hb1⟩
  obtain rfl := get_some HV.out hgo
  clear hgo hg
  have hB1 := hB0.trans (hb1.mono hB0.size)
  have c11 := (hb1.cell (p := ⟨w.heap.size, 1, none⟩) (cell_lt c01)).trans c01
  go_wp2_with fail
  have htr : trimB [32, 66, 97, 115, 101, 54, 52] = [66, 97, 115, 101, 54, 52] := by decide
  have hti := trim_any [32, 66, 97, 115, 101, 54, 52] w1 (by simp)
  rw [htr] at hti
  refine hti.mono ?_
  rintro e w2 ⟨rfl, hb2'⟩
  have hB2 := hB1.trans (hb2'.mono hB1.size)
  have c21 := (hb2'.cell (p := ⟨w.heap.size, 1, none⟩) (cell_lt c11)).trans c11
  go_wp2_with fail
  have hsm := small_any [66, 97, 115, 101, 54, 52] w2 (by simp)
  rw [show ([66, 97, 115, 101, 54, 52] : List UInt8).map small = [98, 97, 115, 101, 54, 52] by decide] at hsm
  refine hsm.mono ?_
  rintro e w3 ⟨rfl, hb3⟩
  have hB3 := hB2.trans (hb3.mono hB2.size)
  have c31 := (hb3.cell (p := ⟨w.heap.size, 1, none⟩) (cell_lt c21)).trans c21
  have hC3 := (hB3.cell (p := ⟨0, 1, none⟩) (cell_lt hC)).trans hC
  clear htr hti hsm
  go_wp2_with fail
  refine (Ar.read_any A2 l n2 c2 w3 (tabs_below hT hB3) HN2.out (hA2.below hB3) h2c (by omega)).mono ?_
  rintro e w4 ⟨h | ⟨rfl, hno⟩, hb4⟩
  · obtain ⟨A4, m, c4, a, rfl, hm, hmc, _, hR4, hen⟩ := h
    rw [HLB.out] at hen
    obtain rfl : a = [102, 111] := Ar.enc_inj _ _ (hen.trans Ar.zm8.symm)
    obtain rfl : 2 = m := hm
    go_wp2_with fail
    go_ret3
    exact ⟨⟨A4, c4, rfl, hmc, hR4⟩, hB3.trans (hb4.mono hB3.size)⟩
  · exact absurd (by rw [HLB.out]; exact Ar.zm8) (hno [102, 111])
end Go.Proofs.YtfdkcgdanhlfkaaGreatDoor
