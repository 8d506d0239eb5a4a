/- Signs as bytes: armor's part and Decode. · Signs as bytes: armor.Decode. · The statements of layer 6 that need no more than Encode and Decode: speaks, ArmorParts. -/
import Derived.Test.YtfdkcgdanhlfkaaGreatDoorJ39
import Derived.Test.YtfdkcgdanhlfkaaGreatDoorJ41
import Derived.Test.YtfdkcgdanhlfkaaGreatDoorJ05
namespace Go.Proofs.YtfdkcgdanhlfkaaGreatDoor
namespace Ar
set_option linter.unusedVariables false
set_option linter.unusedSimpArgs false
open Go.RowKit

theorem or_six {g v : Nat} (h : g < 16777216) (hv : v < 64) : Value.int .u32 (bits .or .u32 ((g : Int) * 64) (v : Int)) = .int .u32 ((g * 64 + v : Nat) : Int) := by
  have e1 : (g : Int) * 64 = ((g * 64 : Nat) : Int) := by omega
  rw [e1, u32_or_nat _ _ (by omega) (by omega), nat_join 6 _ _ (by omega) (by omega)]

/-- what part answers: the bytes and whether these are the group's -/
def PartOut (l : List UInt8) (w : World) (e : Ending) (w' : World) : Prop :=
  ∃ A n c ok ys, e = .returned (.tuple #[.slice A n c, .bool ok]) ∧ ys.length = n ∧ n ≤ c ∧ c ≤ 3 ∧ Rb w' A ys ∧
    (ok = true → 1 ≤ n ∧ enc ys = l) ∧ (ok = false → ∀ zs, 1 ≤ zs.length → zs.length ≤ 3 → enc zs ≠ l) ∧ Below w.heap.size w w'

set_option maxRecDepth 100000 in
set_option maxHeartbeats 2000000 in
theorem part_any (l : List UInt8) (w : World) (hs : l.length = 4) :
    Calls Tryz.prog 131 #[.string (bs l)] w (PartOut l w) := by
  have HS := Lib.hid hs
  clear hs
  go_enter Tryz.func131, Tryz.ntmps131
  go_upto_block 0 with fail
  go_cut [4] (fun s4 wx => s4 = .int .i64 (psize l) ∧ wx = w)
  case first =>
    go_wp2_with fail
    go_loop [4] (fun i => ∃ k : Nat, k ≤ 3 ∧ i = .int .i64 k ∧ ∀ i, k < i → i ≤ 3 → l[i]? = some 61) (fun i => (intOf i).toNat)
    case atStart => exact ⟨3, by omega, rfl, fun i h1 h2 => by omega⟩
    case round =>
      obtain ⟨k, hk, rfl, hrel⟩ := hrel
      have HR := Lib.hid hrel
      clear hrel
      by_cases h0 : 0 < k
      · obtain ⟨x, hx⟩ : ∃ x, l[k]? = some x := ⟨_, List.getElem?_eq_getElem (by rw [HS.out]; omega)⟩
        have hi := str_index (P := Tryz.prog) Tryz.underlying9 hx .i64
        have HX := Lib.hid hx
        clear hx
        by_cases h61 : x = 61
        · have hb : ((x.toNat : Int) == 61) = true := by subst h61; rfl
          go_wp2
          go_round
          case rel =>
            refine ⟨k - 1, by omega, by go_num, fun i h1 h2 => ?_⟩
            by_cases e : i = k
            · rw [e, HX.out, h61]
            · exact HR.out i (by omega) h2
          case measure => simp [intOf]; omega
        · have hb : ((x.toNat : Int) == 61) = false := by
            have : (x.toNat : Int) ≠ ((61 : UInt8).toNat : Int) := fun e => h61 (u8_eq.1 e)
            simpa using this
          go_wp2
          go_meet
          exact ⟨by rw [psize_eq hk HR.out (.inr (by rw [HX.out]; simpa using h61))], rfl⟩
      · obtain rfl : k = 0 := by omega
        go_wp2
        go_meet
        exact ⟨by rw [psize_eq hk HR.out (.inl rfl)]; rfl, rfl⟩
  case rest =>
    obtain ⟨rfl, rfl⟩ := hcut
    have hp := psize_le l
    go_wp2_with fail
    go_loop [5, 20] (fun n i => ∃ k : Nat, k ≤ 4 ∧ i = .int .i64 k ∧ n = .int .u32 (vnum l k) ∧ ∀ i, i < k → i ≤ psize l → sok (l[i]?.getD 0) = true) (fun _ i => 4 - (intOf i).toNat)
    case atStart => exact ⟨0, by omega, rfl, rfl, fun i h1 h2 => by omega⟩
    case round =>
      obtain ⟨k, hk, rfl, rfl, hrel⟩ := hrel
      have HR := Lib.hid hrel
      clear hrel
      by_cases h4 : k < 4
      · obtain ⟨x, hx⟩ : ∃ x, l[k]? = some x := ⟨_, List.getElem?_eq_getElem (by rw [HS.out]; omega)⟩
        have hi := str_index (P := Tryz.prog) Tryz.underlying9 hx .i64
        have HX := Lib.hid hx
        clear hx
        have hg : vnum l k < 16777216 := by
          have := vnum_lt l k
          rcases (by omega : k = 0 ∨ k = 1 ∨ k = 2 ∨ k = 3) with rfl | rfl | rfl | rfl <;> omega
        have hv := svn_lt x
        have hval : Calls Tryz.prog 151 #[.int .u8 x.toNat] wc fun e w' => e = .returned (.tuple #[.int .u32 (svn x : Int), .bool (sok x)]) ∧ wc = w' := by
          have h := value_any x.toNat (u8_ge x) (u8_lt x) wc
          have hb := sval_bd x.toNat
          have e1 : (sval x.toNat).1 = (svn x : Int) := by unfold svn; omega
          rw [e1] at h
          exact h
        have HV := Lib.hid hval
        clear hval
        by_cases hok : sok x = true
        · go_wp2_with fail
          refine HV.out.mono ?_
          rintro e w' ⟨rfl, rfl⟩
          rw [hok]
          go_wp2
          go_round
          case rel =>
            refine ⟨k + 1, by omega, by go_num, by rw [or_six hg hv, vnum, HX.out]; rfl, fun i h1 h2 => ?_⟩
            by_cases e : i = k
            · rw [e, HX.out]; exact hok
            · exact HR.out i (by omega) h2
          case measure => simp [intOf]; omega
        · have hok' : sok x = false := by simpa using hok
          by_cases hkp : k ≤ psize l
          · go_wp2_with fail
            refine HV.out.mono ?_
            rintro e w' ⟨rfl, rfl⟩
            rw [hok']
            go_wp2
            go_ret2
            refine ⟨none, 0, 0, false, [], rfl, rfl, by omega, by omega, Rb.nil _ _, by simp, fun _ zs h1 h3 e => ?_, Below.refl _ _⟩
            rw [enc_one zs h1 h3] at e
            have := (part_back zs h1 h3).2.1 k (by rw [← (part_back zs h1 h3).1, e]; exact hkp) h4
            rw [e, HX.out] at this
            exact hok this
          · go_wp2_with fail
            refine HV.out.mono ?_
            rintro e w' ⟨rfl, rfl⟩
            rw [hok']
            go_wp2
            go_round
            case rel =>
              refine ⟨k + 1, by omega, by go_num, by rw [or_six hg hv, vnum, HX.out]; rfl, fun i h1 h2 => ?_⟩
              exact HR.out i (by omega) h2
            case measure => simp [intOf]; omega
      · obtain rfl : k = 4 := by omega
        have hcs : #[Value.int .u8 ((vnum l 4 : Int) / 65536 % 256), .int .u8 ((vnum l 4 : Int) / 256 % 256), .int .u8 ((vnum l 4 : Int) % 256)] =
            (([UInt8.ofNat (vnum l 4 / 65536), UInt8.ofNat (vnum l 4 / 256), UInt8.ofNat (vnum l 4)] : List UInt8).map bv).toArray := by
          simp [bv]
        have hRb := Rb_new wc _ 5 _ hcs (psize l)
        have hlen := pbytes_length l
        rw [show List.take (psize l) _ = pbytes l from rfl] at hRb
        have HL := Lib.hid hlen
        have HC := Lib.hid hcs
        clear hlen hcs
        by_cases h0 : 0 < psize l
        · go_wp2_with fail
          refine (enc_any _ (pbytes l) _ _ _ HL.out hRb hp (by omega)).mono ?_
          rintro e w1 ⟨rfl, hb1⟩
          have hpl := HL.out
          go_wp2
          go_ret2
          refine ⟨_, _, _, _, pbytes l, rfl, HL.out, hp, by omega, hRb.below hb1, ?_, ?_, ?_⟩
          · intro h
            exact ⟨h0, by simpa using h⟩
          · intro h zs h1 h3 e
            rw [enc_one zs h1 h3] at e
            have hz := (part_back zs h1 h3).2.2
            rw [e] at hz
            rw [hz, enc_one zs h1 h3, e] at h
            simp at h
          · exact (((Below.refl _ wc).alloc (Nat.le_refl _) _).trans (hb1.mono (by simp)))
        · go_wp2_with fail
          go_ret2
          refine ⟨_, _, _, _, pbytes l, rfl, HL.out, hp, by omega, hRb, ?_, ?_, (Below.refl _ wc).alloc (Nat.le_refl _) _⟩
          · intro h
            simp at h
          · intro h zs h1 h3 e
            rw [enc_one zs h1 h3] at e
            have hz := (part_back zs h1 h3).1
            rw [e] at hz
            omega
end Ar
end Go.Proofs.YtfdkcgdanhlfkaaGreatDoor

namespace Go.Proofs.YtfdkcgdanhlfkaaGreatDoor
namespace Ar
set_option linter.unusedVariables false
set_option linter.unusedSimpArgs false
open Go.RowKit


/-- what Decode answers -/
def DecOut (l : List UInt8) (w : World) (e : Ending) (w' : World) : Prop :=
  ((∃ A n c a, e = .returned (.tuple #[.slice A n c, .int .i64 0]) ∧ a.length = n ∧ n ≤ c ∧ n ≤ l.length ∧ Rb w' A a ∧ enc a = l) ∨
    (e = .returned (.tuple #[.slice none 0 0, .int .i64 3]) ∧ ∀ a, enc a ≠ l)) ∧ Below w.heap.size w w'

theorem dec_group {l a : List UInt8} {k q : Nat} (e : enc a = l) (hq : q = 4 * k) (h : q < l.length) :
    1 ≤ (chk a 3 k).length ∧ (chk a 3 k).length ≤ 3 ∧ enc (chk a 3 k) = (l.drop q).take 4 ∧ (q + 4 < l.length → (chk a 3 k).length = 3) := by
  subst hq
  have hl := enc_length a
  rw [e] at hl
  have hlen : (chk a 3 k).length = min 3 (a.length - k * 3) := by simp [chk]
  have h1 : 1 ≤ (chk a 3 k).length := by omega
  have h3 : (chk a 3 k).length ≤ 3 := by omega
  refine ⟨h1, h3, ?_, fun h4 => by omega⟩
  rw [enc_one _ h1 h3, ← enc_group a k (by omega), e]

theorem take_add4 {l : List UInt8} {q : Nat} : l.take (q + 4) = l.take q ++ (l.drop q).take 4 := by rw [List.take_add]

set_option maxRecDepth 100000 in
set_option maxHeartbeats 2000000 in
theorem dec_any (l : List UInt8) (w : World) (hl : l.length ≤ 100000000) :
    Calls Tryz.prog 102 #[.string (bs l)] w (DecOut l w) := by
  go_enter Tryz.func102, Tryz.ntmps102
  by_cases h4 : l.length % 4 = 0
  · have hb : (((l.length : Int) % 4) != 0) = false := by
      have : (l.length : Int) % 4 = 0 := by omega
      simp [this]
    have H4 := Lib.hid h4
    clear h4
    go_wp2_with fail
    go_loopw [4, 5] (fun v i wr => ∃ (k q : Nat) (os : List UInt8), i = .int .i64 q ∧ q ≤ 4 * k ∧ 4 * k ≤ q ∧ q ≤ l.length ∧ wr.ownsRow w.heap.size 5 1 v os.length (os.map bv) ∧ Below w.heap.size w wr ∧ enc os = l.take q ∧ (q < l.length → os.length = 3 * k) ∧ os.length ≤ 3 * k) (fun _ i _ => l.length - (intOf i).toNat)
    case atStart => exact ⟨0, 0, [], rfl, by omega, by omega, by omega, World.ownsRow_nil _ _ _ _, Below.refl _ _, rfl, fun _ => rfl, by simp⟩
    case round =>
      obtain ⟨k, q, os, rfl, hq1, hq2, hql, hown, hB, henc, hos, hos2⟩ := hrel
      have HE := Lib.hid henc
      have HO := Lib.hid hos
      clear henc hos
      obtain ⟨wo, rfl⟩ : ∃ wo : World, wo = wr := ⟨_, rfl⟩
      by_cases hlt : q < l.length
      · have hq4 : q + 4 ≤ l.length := by have := H4.out; omega
        have hg : ((l.drop q).take 4).length = 4 := by simp; omega
        have hos := HO.out hlt
        go_wp2_with fail
        refine (part_any _ _ hg).mono ?_
        rintro e w1 ⟨A, n, c, ok, ys, rfl, hn, hnc, hc, hrb, hyes, hno, hb1⟩
        have HN := Lib.hid hn
        have HNO := Lib.hid hno
        have HY := Lib.hid hyes
        clear hn hno hyes hg hos
        rcases ok with _ | _
        · go_wp2
          go_ret2
          refine ⟨.inr ⟨rfl, fun a ha => ?_⟩, hB.trans (hb1.mono hB.size)⟩
          obtain ⟨d1, d2, d3, _⟩ := dec_group (k := k) ha (by omega) hlt
          exact HNO.out (by trivial) _ d1 d2 d3
        · obtain ⟨hn1, hey⟩ := HY.out rfl
          have HEY := Lib.hid hey
          clear hey
          by_cases hbad : n < 3 ∧ q + 4 < l.length
          · obtain ⟨hb3, hb4⟩ := hbad
            go_wp2
            go_ret2
            refine ⟨.inr ⟨rfl, fun a ha => ?_⟩, hB.trans (hb1.mono hB.size)⟩
            obtain ⟨d1, d2, d3, d4⟩ := dec_group (k := k) ha (by omega) hlt
            have h3 := d4 hb4
            have hy3 : ys.length ≤ 3 := by rw [HN.out]; omega
            have e2 : enc3 ys = enc3 (chk a 3 k) := by rw [← enc_one _ (by rw [HN.out]; omega) hy3, ← enc_one _ d1 d2, d3, HEY.out]
            have e3 := enc3_inj (by rw [HN.out]; omega) hy3 d1 d2 e2
            have := HN.out
            rw [e3, h3] at this
            omega
          · have hown1 := own_below hown hb1
            have hos3 := hos2
            by_cases hn3 : n < 3
            · have hq4' : ¬ q + 4 < l.length := fun h => hbad ⟨hn3, h⟩
              clear hbad
              go_wp2_with (at_builtin; refine wpList_app rfl _ _ _ _ rfl TU8 hown1 rfl (Src_rb Tryz.underlying22 HN.out hrb) rfl (by omega) (by have := hB.size; have := hb1.size; omega) ?_; intro v2 w2 hown2 hgr2 _)
              have hl2 : os.length + n = (os ++ ys).length := by rw [List.length_append, HN.out]
              have hB2 : Below w.heap.size w w2 := below_app (hB.trans (hb1.mono hB.size)) hown1 hgr2 (by have := hB.size; have := hb1.size; omega) (Nat.le_refl _)
              have he2 : enc (os ++ ys) = l.take (q + 4) := by
                rw [enc_append _ _ (by have := HO.out hlt; omega), HE.out, HEY.out]
                exact take_add4.symm
              have hown3 : w2.ownsRow w.heap.size 5 1 v2 (os ++ ys).length ((os ++ ys).map bv) := by rw [← hl2, List.map_append]; exact hown2
              have hlos : (os ++ ys).length ≤ 3 * (k + 1) := by have := HO.out hlt; omega
              have hl3 : q + 4 < l.length → (os ++ ys).length = 3 * (k + 1) := fun h => absurd h hq4'
              go_roundw
              case rel => exact ⟨k + 1, q + 4, os ++ ys, by go_num, by omega, by omega, by omega, hown3, hB2, he2, hl3, hlos⟩
              case measure => simp [intOf]; omega
            · clear hbad
              go_wp2_with (at_builtin; refine wpList_app rfl _ _ _ _ rfl TU8 hown1 rfl (Src_rb Tryz.underlying22 HN.out hrb) rfl (by omega) (by have := hB.size; have := hb1.size; omega) ?_; intro v2 w2 hown2 hgr2 _)
              have hl2 : os.length + n = (os ++ ys).length := by rw [List.length_append, HN.out]
              have hB2 : Below w.heap.size w w2 := below_app (hB.trans (hb1.mono hB.size)) hown1 hgr2 (by have := hB.size; have := hb1.size; omega) (Nat.le_refl _)
              have he2 : enc (os ++ ys) = l.take (q + 4) := by
                rw [enc_append _ _ (by have := HO.out hlt; omega), HE.out, HEY.out]
                exact take_add4.symm
              have hown3 : w2.ownsRow w.heap.size 5 1 v2 (os ++ ys).length ((os ++ ys).map bv) := by rw [← hl2, List.map_append]; exact hown2
              have hlos : (os ++ ys).length ≤ 3 * (k + 1) := by have := HO.out hlt; omega
              have hl3 : q + 4 < l.length → (os ++ ys).length = 3 * (k + 1) := fun h => by have := HO.out hlt; omega
              go_roundw
              case rel => exact ⟨k + 1, q + 4, os ++ ys, by go_num, by omega, by omega, by omega, hown3, hB2, he2, hl3, hlos⟩
              case measure => simp [intOf]; omega
      · have hq : q = l.length := by omega
        obtain ⟨Av, cv, rfl, hvc, _, hvr, _⟩ := own_slice hown
        have hee : enc os = l := by rw [HE.out, hq, List.take_length]
        have hll : os.length ≤ l.length := by omega
        have HEE := Lib.hid hee
        clear hee hq
        go_wp2
        go_ret2
        exact ⟨.inl ⟨_, _, _, os, rfl, rfl, hvc, hll, hvr, HEE.out⟩, hB⟩
  · have hb : (((l.length : Int) % 4) != 0) = true := by
      have : (l.length : Int) % 4 ≠ 0 := by omega
      simpa using this
    have H4 := Lib.hid h4
    clear h4
    go_wp2
    go_ret2
    refine ⟨.inr ⟨rfl, fun a ha => ?_⟩, Below.refl _ _⟩
    have := enc_length a
    rw [ha] at this
    exact H4.out (by omega)
end Ar
end Go.Proofs.YtfdkcgdanhlfkaaGreatDoor

namespace Go.Proofs.YtfdkcgdanhlfkaaGreatDoor
namespace Ar
set_option linter.unusedVariables false
set_option linter.unusedSimpArgs false
open Go.RowKit

end Ar
end Go.Proofs.YtfdkcgdanhlfkaaGreatDoor
