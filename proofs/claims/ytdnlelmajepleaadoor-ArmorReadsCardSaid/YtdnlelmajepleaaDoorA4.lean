/- Signs as bytes: armor.Decode. -/
import Derived.Test.YtdnlelmajepleaaDoorA3
import Derived.Test.YtdnlelmajepleaaDoorAp
namespace Go.Proofs.YtdnlelmajepleaaDoor
open Go.RowKit

theorem TU8 : ElT Tryd.prog 22 5 1 1 := ElT.mk' (z := .int .u8 0) Tryd.underlying22 (by omega) (by omega) rfl infoU8

/-- what Decode answers -/
def DecOut (l : List UInt8) (w : World) (e : Ending) (w' : World) : Prop :=
  ((∃ A n c a, e = .returned (.tuple #[.slice A n c, .int .i64 0]) ∧ a.length = n ∧ n ≤ c ∧ n ≤ l.length ∧ Rb w' A a ∧ enc a = l) ∨
    (e = .returned (.tuple #[.slice none 0 0, .int .i64 3]) ∧ ∀ a, enc a ≠ l)) ∧ Below w.heap.size w w'

theorem dec_group {l a : List UInt8} {k q : Nat} (e : enc a = l) (hq : q = 4 * k) (h : q < l.length) :
    1 ≤ (chk a 3 k).length ∧ (chk a 3 k).length ≤ 3 ∧ enc (chk a 3 k) = (l.drop q).take 4 ∧ (q + 4 < l.length → (chk a 3 k).length = 3) := by
  subst hq
  have hl := enc_length a
  rw [e] at hl
  have hlen : (chk a 3 k).length = min 3 (a.length - k * 3) := by simp [chk]
  have h1 : 1 ≤ (chk a 3 k).length := by omega
  have h3 : (chk a 3 k).length ≤ 3 := by omega
  refine ⟨h1, h3, ?_, fun h4 => by omega⟩
  rw [enc_one _ h1 h3, ← enc_group a k (by omega), e]

theorem take_add4 {l : List UInt8} {q : Nat} : l.take (q + 4) = l.take q ++ (l.drop q).take 4 := by rw [List.take_add]

set_option maxRecDepth 100000 in
set_option maxHeartbeats 2000000 in
theorem dec_any (l : List UInt8) (w : World) (hl : l.length ≤ 100000000) :
    Calls Tryd.prog 6 #[.string (bs l)] w (DecOut l w) := by
  go_enter Tryd.func6, Tryd.ntmps6
  by_cases h4 : l.length % 4 = 0
  · have hb : (((l.length : Int) % 4) != 0) = false := by
      have : (l.length : Int) % 4 = 0 := by omega
      simp [this]
    have H4 := Lib.hid h4
    clear h4
    go_wp2_with fail
    go_loopw [4, 5] (fun v i wr => ∃ (k q : Nat) (os : List UInt8), i = .int .i64 q ∧ q ≤ 4 * k ∧ 4 * k ≤ q ∧ q ≤ l.length ∧ wr.ownsRow w.heap.size 5 1 v os.length (os.map bv) ∧ Below w.heap.size w wr ∧ enc os = l.take q ∧ (q < l.length → os.length = 3 * k) ∧ os.length ≤ 3 * k) (fun _ i _ => l.length - (intOf i).toNat)
    case atStart => exact ⟨0, 0, [], rfl, by omega, by omega, by omega, World.ownsRow_nil _ _ _ _, Below.refl _ _, rfl, fun _ => rfl, by simp⟩
    case round =>
      obtain ⟨k, q, os, rfl, hq1, hq2, hql, hown, hB, henc, hos, hos2⟩ := hrel
      have HE := Lib.hid henc
      have HO := Lib.hid hos
      clear henc hos
      obtain ⟨wo, rfl⟩ : ∃ wo : World, wo = wr := ⟨_, rfl⟩
      by_cases hlt : q < l.length
      · have hq4 : q + 4 ≤ l.length := by have := H4.out; omega
        have hg : ((l.drop q).take 4).length = 4 := by simp; omega
        have hos := HO.out hlt
        go_wp2_with fail
        refine (part_any _ _ hg).mono ?_
        rintro e w1 ⟨A, n, c, ok, ys, rfl, hn, hnc, hc, hrb, hyes, hno, hb1⟩
        have HN := Lib.hid hn
        have HNO := Lib.hid hno
        have HY := Lib.hid hyes
        clear hn hno hyes hg hos
        rcases ok with _ | _
        · go_wp2
          go_ret2
          refine ⟨.inr ⟨rfl, fun a ha => ?_⟩, hB.trans (hb1.mono hB.size)⟩
          obtain ⟨d1, d2, d3, _⟩ := dec_group (k := k) ha (by omega) hlt
          exact HNO.out (by trivial) _ d1 d2 d3
        · obtain ⟨hn1, hey⟩ := HY.out rfl
          have HEY := Lib.hid hey
          clear hey
          by_cases hbad : n < 3 ∧ q + 4 < l.length
          · obtain ⟨hb3, hb4⟩ := hbad
            go_wp2
            go_ret2
            refine ⟨.inr ⟨rfl, fun a ha => ?_⟩, hB.trans (hb1.mono hB.size)⟩
            obtain ⟨d1, d2, d3, d4⟩ := dec_group (k := k) ha (by omega) hlt
            have h3 := d4 hb4
            have hy3 : ys.length ≤ 3 := by rw [HN.out]; omega
            have e2 : enc3 ys = enc3 (chk a 3 k) := by rw [← enc_one _ (by rw [HN.out]; omega) hy3, ← enc_one _ d1 d2, d3, HEY.out]
            have e3 := enc3_inj (by rw [HN.out]; omega) hy3 d1 d2 e2
            have := HN.out
            rw [e3, h3] at this
            omega
          · have hown1 := own_below hown hb1
            have hos3 := hos2
            by_cases hn3 : n < 3
            · have hq4' : ¬ q + 4 < l.length := fun h => hbad ⟨hn3, h⟩
              clear hbad
              go_wp2_with (at_builtin; refine wpList_app rfl _ _ _ _ rfl TU8 hown1 rfl (Src_rb Tryd.underlying22 HN.out hrb) rfl (by omega) (by have := hB.size; have := hb1.size; omega) ?_; intro v2 w2 hown2 hgr2 _)
              have hl2 : os.length + n = (os ++ ys).length := by rw [List.length_append, HN.out]
              have hB2 : Below w.heap.size w w2 := below_app (hB.trans (hb1.mono hB.size)) hown1 hgr2 (by have := hB.size; have := hb1.size; omega) (Nat.le_refl _)
              have he2 : enc (os ++ ys) = l.take (q + 4) := by
                rw [enc_append _ _ (by have := HO.out hlt; omega), HE.out, HEY.out]
                exact take_add4.symm
              have hown3 : w2.ownsRow w.heap.size 5 1 v2 (os ++ ys).length ((os ++ ys).map bv) := by rw [← hl2, List.map_append]; exact hown2
              have hlos : (os ++ ys).length ≤ 3 * (k + 1) := by have := HO.out hlt; omega
              have hl3 : q + 4 < l.length → (os ++ ys).length = 3 * (k + 1) := fun h => absurd h hq4'
              go_roundw
              case rel => exact ⟨k + 1, q + 4, os ++ ys, by go_num, by omega, by omega, by omega, hown3, hB2, he2, hl3, hlos⟩
              case measure => simp [intOf]; omega
            · clear hbad
              go_wp2_with (at_builtin; refine wpList_app rfl _ _ _ _ rfl TU8 hown1 rfl (Src_rb Tryd.underlying22 HN.out hrb) rfl (by omega) (by have := hB.size; have := hb1.size; omega) ?_; intro v2 w2 hown2 hgr2 _)
              have hl2 : os.length + n = (os ++ ys).length := by rw [List.length_append, HN.out]
              have hB2 : Below w.heap.size w w2 := below_app (hB.trans (hb1.mono hB.size)) hown1 hgr2 (by have := hB.size; have := hb1.size; omega) (Nat.le_refl _)
              have he2 : enc (os ++ ys) = l.take (q + 4) := by
                rw [enc_append _ _ (by have := HO.out hlt; omega), HE.out, HEY.out]
                exact take_add4.symm
              have hown3 : w2.ownsRow w.heap.size 5 1 v2 (os ++ ys).length ((os ++ ys).map bv) := by rw [← hl2, List.map_append]; exact hown2
              have hlos : (os ++ ys).length ≤ 3 * (k + 1) := by have := HO.out hlt; omega
              have hl3 : q + 4 < l.length → (os ++ ys).length = 3 * (k + 1) := fun h => by have := HO.out hlt; omega
              go_roundw
              case rel => exact ⟨k + 1, q + 4, os ++ ys, by go_num, by omega, by omega, by omega, hown3, hB2, he2, hl3, hlos⟩
              case measure => simp [intOf]; omega
      · have hq : q = l.length := by omega
        obtain ⟨Av, cv, rfl, hvc, _, hvr, _⟩ := own_slice hown
        have hee : enc os = l := by rw [HE.out, hq, List.take_length]
        have hll : os.length ≤ l.length := by omega
        have HEE := Lib.hid hee
        clear hee hq
        go_wp2
        go_ret2
        exact ⟨.inl ⟨_, _, _, os, rfl, rfl, hvc, hll, hvr, HEE.out⟩, hB⟩
  · have hb : (((l.length : Int) % 4) != 0) = true := by
      have : (l.length : Int) % 4 ≠ 0 := by omega
      simpa using this
    have H4 := Lib.hid h4
    clear h4
    go_wp2
    go_ret2
    refine ⟨.inr ⟨rfl, fun a ha => ?_⟩, Below.refl _ _⟩
    have := enc_length a
    rw [ha] at this
    exact H4.out (by omega)
end Go.Proofs.YtdnlelmajepleaaDoor
