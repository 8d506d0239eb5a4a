/- Signs as bytes: armor's part and Decode. -/
import Derived.Test.YtdnlelmajepleaaDoorA1
import Derived.Test.YtdnlelmajepleaaDoorA2
namespace Go.Proofs.YtdnlelmajepleaaDoor
open Go.RowKit

theorem or_six {g v : Nat} (h : g < 16777216) (hv : v < 64) : Value.int .u32 (bits .or .u32 ((g : Int) * 64) (v : Int)) = .int .u32 ((g * 64 + v : Nat) : Int) := by
  have e1 : (g : Int) * 64 = ((g * 64 : Nat) : Int) := by omega
  rw [e1, u32_or_nat _ _ (by omega) (by omega), nat_join 6 _ _ (by omega) (by omega)]

/-- what part answers: the bytes and whether these are the group's -/
def PartOut (l : List UInt8) (w : World) (e : Ending) (w' : World) : Prop :=
  ∃ A n c ok ys, e = .returned (.tuple #[.slice A n c, .bool ok]) ∧ ys.length = n ∧ n ≤ c ∧ c ≤ 3 ∧ Rb w' A ys ∧
    (ok = true → 1 ≤ n ∧ enc ys = l) ∧ (ok = false → ∀ zs, 1 ≤ zs.length → zs.length ≤ 3 → enc zs ≠ l) ∧ Below w.heap.size w w'

set_option maxRecDepth 100000 in
set_option maxHeartbeats 2000000 in
theorem part_any (l : List UInt8) (w : World) (hs : l.length = 4) :
    Calls Tryd.prog 13 #[.string (bs l)] w (PartOut l w) := by
  have HS := Lib.hid hs
  clear hs
  go_enter Tryd.func13, Tryd.ntmps13
  go_upto_block 0 with fail
  go_cut [4] (fun s4 wx => s4 = .int .i64 (psize l) ∧ wx = w)
  case first =>
    go_wp2_with fail
    go_loop [4] (fun i => ∃ k : Nat, k ≤ 3 ∧ i = .int .i64 k ∧ ∀ i, k < i → i ≤ 3 → l[i]? = some 61) (fun i => (intOf i).toNat)
    case atStart => exact ⟨3, by omega, rfl, fun i h1 h2 => by omega⟩
    case round =>
      obtain ⟨k, hk, rfl, hrel⟩ := hrel
      have HR := Lib.hid hrel
      clear hrel
      by_cases h0 : 0 < k
      · obtain ⟨x, hx⟩ : ∃ x, l[k]? = some x := ⟨_, List.getElem?_eq_getElem (by rw [HS.out]; omega)⟩
        have hi := str_index (P := Tryd.prog) Tryd.underlying9 hx .i64
        have HX := Lib.hid hx
        clear hx
        by_cases h61 : x = 61
        · have hb : ((x.toNat : Int) == 61) = true := by subst h61; rfl
          go_wp2
          go_round
          case rel =>
            refine ⟨k - 1, by omega, by go_num, fun i h1 h2 => ?_⟩
            by_cases e : i = k
            · rw [e, HX.out, h61]
            · exact HR.out i (by omega) h2
          case measure => simp [intOf]; omega
        · have hb : ((x.toNat : Int) == 61) = false := by
            have : (x.toNat : Int) ≠ ((61 : UInt8).toNat : Int) := fun e => h61 (u8_eq.1 e)
            simpa using this
          go_wp2
          go_meet
          exact ⟨by rw [psize_eq hk HR.out (.inr (by rw [HX.out]; simpa using h61))], rfl⟩
      · obtain rfl : k = 0 := by omega
        go_wp2
        go_meet
        exact ⟨by rw [psize_eq hk HR.out (.inl rfl)]; rfl, rfl⟩
  case rest =>
    obtain ⟨rfl, rfl⟩ := hcut
    have hp := psize_le l
    go_wp2_with fail
    go_loop [5, 20] (fun n i => ∃ k : Nat, k ≤ 4 ∧ i = .int .i64 k ∧ n = .int .u32 (vnum l k) ∧ ∀ i, i < k → i ≤ psize l → sok (l[i]?.getD 0) = true) (fun _ i => 4 - (intOf i).toNat)
    case atStart => exact ⟨0, by omega, rfl, rfl, fun i h1 h2 => by omega⟩
    case round =>
      obtain ⟨k, hk, rfl, rfl, hrel⟩ := hrel
      have HR := Lib.hid hrel
      clear hrel
      by_cases h4 : k < 4
      · obtain ⟨x, hx⟩ : ∃ x, l[k]? = some x := ⟨_, List.getElem?_eq_getElem (by rw [HS.out]; omega)⟩
        have hi := str_index (P := Tryd.prog) Tryd.underlying9 hx .i64
        have HX := Lib.hid hx
        clear hx
        have hg : vnum l k < 16777216 := by
          have := vnum_lt l k
          rcases (by omega : k = 0 ∨ k = 1 ∨ k = 2 ∨ k = 3) with rfl | rfl | rfl | rfl <;> omega
        have hv := svn_lt x
        have hval : Calls Tryd.prog 19 #[.int .u8 x.toNat] wc fun e w' => e = .returned (.tuple #[.int .u32 (svn x : Int), .bool (sok x)]) ∧ wc = w' := by
          have h := value_any x.toNat (u8_ge x) (u8_lt x) wc
          have hb := sval_bd x.toNat
          have e1 : (sval x.toNat).1 = (svn x : Int) := by unfold svn; omega
          rw [e1] at h
          exact h
        have HV := Lib.hid hval
        clear hval
        by_cases hok : sok x = true
        · go_wp2_with fail
          refine HV.out.mono ?_
          rintro e w' ⟨rfl, rfl⟩
          rw [hok]
          go_wp2
          go_round
          case rel =>
            refine ⟨k + 1, by omega, by go_num, by rw [or_six hg hv, vnum, HX.out]; rfl, fun i h1 h2 => ?_⟩
            by_cases e : i = k
            · rw [e, HX.out]; exact hok
            · exact HR.out i (by omega) h2
          case measure => simp [intOf]; omega
        · have hok' : sok x = false := by simpa using hok
          by_cases hkp : k ≤ psize l
          · go_wp2_with fail
            refine HV.out.mono ?_
            rintro e w' ⟨rfl, rfl⟩
            rw [hok']
            go_wp2
            go_ret2
            refine ⟨none, 0, 0, false, [], rfl, rfl, by omega, by omega, Rb.nil _ _, by simp, fun _ zs h1 h3 e => ?_, Below.refl _ _⟩
            rw [enc_one zs h1 h3] at e
            have := (part_back zs h1 h3).2.1 k (by rw [← (part_back zs h1 h3).1, e]; exact hkp) h4
            rw [e, HX.out] at this
            exact hok this
          · go_wp2_with fail
            refine HV.out.mono ?_
            rintro e w' ⟨rfl, rfl⟩
            rw [hok']
            go_wp2
            go_round
            case rel =>
              refine ⟨k + 1, by omega, by go_num, by rw [or_six hg hv, vnum, HX.out]; rfl, fun i h1 h2 => ?_⟩
              exact HR.out i (by omega) h2
            case measure => simp [intOf]; omega
      · obtain rfl : k = 4 := by omega
        have hcs : #[Value.int .u8 ((vnum l 4 : Int) / 65536 % 256), .int .u8 ((vnum l 4 : Int) / 256 % 256), .int .u8 ((vnum l 4 : Int) % 256)] =
            (([UInt8.ofNat (vnum l 4 / 65536), UInt8.ofNat (vnum l 4 / 256), UInt8.ofNat (vnum l 4)] : List UInt8).map bv).toArray := by
          simp [bv]
        have hRb := Rb_new wc _ 5 _ hcs (psize l)
        have hlen := pbytes_length l
        rw [show List.take (psize l) _ = pbytes l from rfl] at hRb
        have HL := Lib.hid hlen
        have HC := Lib.hid hcs
        clear hlen hcs
        by_cases h0 : 0 < psize l
        · go_wp2_with fail
          refine (enc_any _ (pbytes l) _ _ _ HL.out hRb hp (by omega)).mono ?_
          rintro e w1 ⟨rfl, hb1⟩
          have hpl := HL.out
          go_wp2
          go_ret2
          refine ⟨_, _, _, _, pbytes l, rfl, HL.out, hp, by omega, hRb.below hb1, ?_, ?_, ?_⟩
          · intro h
            exact ⟨h0, by simpa using h⟩
          · intro h zs h1 h3 e
            rw [enc_one zs h1 h3] at e
            have hz := (part_back zs h1 h3).2.2
            rw [e] at hz
            rw [hz, enc_one zs h1 h3, e] at h
            simp at h
          · exact (((Below.refl _ wc).alloc (Nat.le_refl _) _).trans (hb1.mono (by simp)))
        · go_wp2_with fail
          go_ret2
          refine ⟨_, _, _, _, pbytes l, rfl, HL.out, hp, by omega, hRb, ?_, ?_, (Below.refl _ wc).alloc (Nat.le_refl _) _⟩
          · intro h
            simp at h
          · intro h zs h1 h3 e
            rw [enc_one zs h1 h3] at e
            have hz := (part_back zs h1 h3).1
            rw [e] at hz
            omega
end Go.Proofs.YtdnlelmajepleaaDoor
