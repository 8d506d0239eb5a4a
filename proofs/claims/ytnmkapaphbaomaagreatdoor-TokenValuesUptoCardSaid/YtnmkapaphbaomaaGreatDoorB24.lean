/- TokenBack's walk. -/
import Derived.Test.YtnmkapaphbaomaaGreatDoorB23
namespace Go.Proofs.YtnmkapaphbaomaaGreatDoor
set_option linter.unusedVariables false
set_option linter.unusedSimpArgs false
open Go.RowKit

theorem parW_len (p : List UInt8 × List UInt8) : (parW p).length ≤ p.1.length + 2 * p.2.length + 5 := by
  have := valW_len p.2
  unfold parW
  simp
  omega
theorem writeB_len {kind : List UInt8} {a : Nat} : ∀ {ms : List (List UInt8 × List UInt8)}, (∀ p ∈ ms, p.1.length ≤ a ∧ p.2.length ≤ a) → (writeB kind ms).length ≤ kind.length + ms.length * (3 * a + 5) := by
  have key : ∀ ms : List (List UInt8 × List UInt8), (∀ p ∈ ms, p.1.length ≤ a ∧ p.2.length ≤ a) → (ms.flatMap parW).length ≤ ms.length * (3 * a + 5) := by
    intro ms
    induction ms with
    | nil => simp
    | cons p ms ih =>
      intro h
      have h1 := ih fun x hx => h x (by simp [hx])
      have h2 := parW_len p
      obtain ⟨h3, h4⟩ := h p (by simp)
      rw [List.flatMap_cons, List.length_append, List.length_cons, Nat.succ_mul]
      omega
  intro ms h
  have := key ms h
  unfold writeB
  rw [List.length_append]
  omega
theorem note_tests (c : UInt8) : ((c.toNat : Int) == 40) = true ∨ (((c.toNat : Int) == 40) = false ∧ ((c.toNat : Int) == 41) = true) ∨ (((c.toNat : Int) == 40) = false ∧ ((c.toNat : Int) == 41) = false ∧ ((c.toNat : Int) == 92) = true) ∨
    (((c.toNat : Int) == 40) = false ∧ ((c.toNat : Int) == 41) = false ∧ ((c.toNat : Int) == 92) = false ∧ (c ≠ 40 ∧ c ≠ 41 ∧ c ≠ 92)) := by
  have e1 : ((c.toNat : Int) == 40) = (c == 40) := u8_test c 40 rfl
  have e2 : ((c.toNat : Int) == 41) = (c == 41) := u8_test c 41 rfl
  have e3 : ((c.toNat : Int) == 92) = (c == 92) := u8_test c 92 rfl
  rw [e1, e2, e3]
  by_cases h1 : c = 40
  · exact .inl (by simp [h1])
  · by_cases h2 : c = 41
    · exact .inr (.inl ⟨by simp [h1], by simp [h2]⟩)
    · by_cases h3 : c = 92
      · exact .inr (.inr (.inl ⟨by simp [h1], by simp [h2], by simp [h3]⟩))
      · exact .inr (.inr (.inr ⟨by simp [h1], by simp [h2], by simp [h3], h1, h2, h3⟩))

set_option maxRecDepth 100000 in
set_option maxHeartbeats 4000000 in
theorem tokenBack_any (kind note : List UInt8) (A : Option Addr) (fs : List (List UInt8 × List UInt8)) (n c : Nat) (w : World) (hn : fs.length = n) (hA : Rv w A (pcells fs)) (hw : Mx w)
    (hb : n ≤ 9223372036854775807) (hk : kind.length ≤ 9223372036854775807) (hl : note.length ≤ 9223372036854775807) (hp : ∀ p ∈ fs, p.1.length ≤ 140737488351232 ∧ p.2.length ≤ 140737488351232) :
    Calls Tryz.prog 4 #[.string (bs kind), .slice A n c, .string (bs note)] w fun e w' => e = .returned (.bool true) ∧ Below w.heap.size w w' := by
  have HN := Lib.hid hn
  have HP := Lib.hid hp
  clear hn hp
  go_enter Tryz.func4, Tryz.ntmps4
  go_wp2_with fail
  refine (speaks_any _ hw).mono ?_
  rintro e w1 ⟨rfl, hB1⟩
  have hA1 := hA.below hB1
  clear hA
  rcases (by omega : 200 < kind.length ∨ (¬ 200 < kind.length ∧ 20 < n) ∨ (¬ 200 < kind.length ∧ ¬ 20 < n ∧ 50 < note.length) ∨ (¬ 200 < kind.length ∧ ¬ 20 < n ∧ ¬ 50 < note.length)) with h1 | ⟨h1, h2⟩ | ⟨h1, h2, h3⟩ | ⟨h1, h2, h3⟩
  · go_wp2_with fail
    go_ret
    exact ⟨rfl, hB1⟩
  · go_wp2_with fail
    go_ret
    exact ⟨rfl, hB1⟩
  · go_wp2_with fail
    go_ret
    exact ⟨rfl, hB1⟩
  have hri := rright_any kind A fs n c w1 (by omega) HN.out hA1 (by omega) HP.out
  rcases Bool.eq_false_or_eq_true (rightB kind fs) with hr | hr
  rotate_left
  · rw [hr] at hri
    clear hA1 hr
    go_wp2_with fail
    refine hri.mono ?_
    rintro e w2 ⟨rfl, hb2⟩
    go_wp2_with fail
    go_ret
    exact ⟨rfl, hB1.trans (hb2.mono hB1.size)⟩
  rw [hr] at hri
  have HR := Lib.hid hr
  clear hr
  go_wp2_with fail
  refine hri.mono ?_
  rintro e w2 ⟨rfl, hb2⟩
  have hA2 := hA1.below hb2
  have hB2 := hB1.trans (hb2.mono hB1.size)
  have hw2 := hw.below hB2
  clear hri hA1 hB1 hb2 hw
  go_wp2_with fail
  go_loopw [7] (fun i wr => ∃ k : Nat, i = .int .i64 k ∧ k ≤ note.length ∧ Hid (noteOk (note.take k)) ∧ wr = w2) (fun i _ => note.length - (intOf i).toNat)
  case atStart => exact ⟨0, rfl, by omega, Lib.hid (by simp [noteOk]), rfl⟩
  case round =>
    obtain ⟨k, rfl, hk1, ha, rfl⟩ := hrel
    by_cases hlt : k < note.length
    · obtain ⟨x, hx⟩ : ∃ x, note[k]? = some x := ⟨_, List.getElem?_eq_getElem hlt⟩
      have hi := str_index (P := Tryz.prog) Tryz.underlying9 hx .i64
      rcases note_tests x with g1 | ⟨g1, g2⟩ | ⟨g1, g2, g3⟩ | ⟨g1, g2, g3, g4⟩
      · clear hx ha
        go_wp2_with fail
        go_ret
        exact ⟨rfl, hB2⟩
      · clear hx ha
        go_wp2_with fail
        go_ret
        exact ⟨rfl, hB2⟩
      · clear hx ha
        go_wp2_with fail
        go_ret
        exact ⟨rfl, hB2⟩
      · have HT : Hid (noteOk (note.take (k + 1))) := Lib.hid (takeAll hx ha.out g4)
        clear hx ha g4
        go_wp2_with fail
        go_roundw
        case rel => exact ⟨k + 1, by go_num, by omega, HT, by first | rfl | trivial⟩
        case measure => simp [intOf]; omega
    · obtain rfl : k = note.length := by omega
      have HNO : Hid (noteOk note) := Lib.hid (by have := ha.out; rwa [List.take_length] at this)
      clear ha hlt hk1
      obtain ⟨wo, rfl⟩ : ∃ wo : World, wo = wr := ⟨_, rfl⟩
      go_wp2_with fail
      go_loopw [9, 62] (fun _ i wr => ∃ k : Nat, i = .int .i64 k ∧ k ≤ n ∧ Hid (∀ p ∈ fs.take k, p.1.length ≤ 200 ∧ p.2.length ≤ 200) ∧ Below w.heap.size w wr ∧ Below wo.heap.size wo wr) (fun _ i _ => n - (intOf i).toNat)
      case atStart => exact ⟨0, rfl, by omega, Lib.hid (by simp), hB2, Below.refl _ _⟩
      case round =>
        obtain ⟨k, rfl, hkn, ha, hB, hBo⟩ := hrel
        have hs := hB.size
        have hso := hBo.size
        by_cases hlt : k < n
        · obtain ⟨b, o, p, rfl, hp, h0, h1'⟩ := Rp_one (hA2.below hBo) (k := k) (by rw [HN.out]; exact hlt)
          obtain ⟨l1, l2⟩ := HP.out p (List.mem_of_getElem? hp.out)
          have HT := Lib.hid (fun hx => takeAll (P := fun p : List UInt8 × List UInt8 => p.1.length ≤ 200 ∧ p.2.length ≤ 200) hp.out ha.out hx)
          obtain ⟨na, va⟩ := p
          simp only at l1 l2 h0 h1' HT
          clear hp ha hA2
          rcases (by omega : 200 < na.length ∨ (¬ 200 < na.length ∧ 200 < va.length) ∨ (¬ 200 < na.length ∧ ¬ 200 < va.length)) with q1 | ⟨q1, q2⟩ | ⟨q1, q2⟩
          · go_wp2_with fail
            go_ret
            exact ⟨rfl, hB.alloc hs _⟩
          · go_wp2_with fail
            go_ret
            exact ⟨rfl, hB.alloc hs _⟩
          · have HTT := Lib.hid (HT.out ⟨by omega, by omega⟩)
            clear HT
            go_wp2_with fail
            go_roundw
            case rel => exact ⟨k + 1, by go_num, by omega, HTT, hB.alloc hs _, hBo.alloc hso _⟩
            case measure => simp [intOf]; omega
        · obtain rfl : k = n := by omega
          have hAr := hA2.below hBo
          have ha2 : ∀ p ∈ fs, p.1.length ≤ 200 ∧ p.2.length ≤ 200 := by
            have := ha.out
            rwa [List.take_of_length_le (by rw [HN.out]; omega)] at this
          have hwl : (writeB kind fs).length ≤ kind.length + fs.length * (3 * 200 + 5) := writeB_len ha2
          rw [HN.out] at hwl
          have hwl2 : (writeB kind fs).length ≤ 20000 := by omega
          have hwr := hw2.below hBo
          have hwa := write_any kind fs A k c wr hwr (by omega) HN.out (by omega) (fun p hp => ⟨by have := (ha2 p hp).1; omega, by have := (ha2 p hp).2; omega⟩) hAr
          have hr1 := write_read HR.out
          have hr2 := noted_read HR.out HNO.out
          obtain ⟨s, hsw⟩ : ∃ s, writeB kind fs = s := ⟨_, rfl⟩
          unfold WrOut at hwa
          rw [HR.out, hsw] at hwa
          rw [hsw] at hr1 hr2 hwl2
          clear hA2 hlt ha hw2 HP ha2 hwl hB2 hsw
          go_wp2_with fail
          refine hwa.mono ?_
          rintro e w3 ⟨(⟨_, rfl⟩ | ⟨h, _⟩), hb3⟩
          rotate_left
          · cases h
          have hB3 := hB.trans (hb3.mono hs)
          have hA3 := hAr.below hb3
          have hw3 := hwr.below hb3
          obtain ⟨t, ht⟩ : ∃ t, ([32, 40] ++ note ++ [41] ++ s ++ [9, 40] ++ note ++ [40] ++ note ++ [41, 41] : List UInt8) = t := ⟨_, rfl⟩
          have htl : t.length ≤ 30000 := by rw [← ht]; simp; omega
          have hte : (⟨#[32, 40]⟩ ++ bs note ++ ⟨#[41]⟩ ++ bs s ++ ⟨#[9, 40]⟩ ++ bs note ++ ⟨#[40]⟩ ++ bs note ++ ⟨#[41, 41]⟩ : ByteArray) = bs t := by
            rw [show (⟨#[32, 40]⟩ : ByteArray) = bs [32, 40] from rfl, show (⟨#[41]⟩ : ByteArray) = bs [41] from rfl, show (⟨#[9, 40]⟩ : ByteArray) = bs [9, 40] from rfl, show (⟨#[40]⟩ : ByteArray) = bs [40] from rfl, show (⟨#[41, 41]⟩ : ByteArray) = bs [41, 41] from rfl, bs_add, bs_add, bs_add, bs_add, bs_add, bs_add, bs_add, bs_add, ht]
          rw [ht] at hr2
          have HTE := Lib.hid hte
          have HR1 := Lib.hid hr1
          have HR2 := Lib.hid hr2
          have hs3 := hB3.size
          clear hr1 hr2 hte ht hAr hwr hwa hb3 hB hBo hs hso
          go_wp2_with fail
          rw [HTE.out]
          have hal : Below w3.heap.size w3 (w3.alloc (.cells #[.string (bs s), .string (bs t)] 9)) := (Below.refl _ w3).alloc (Nat.le_refl _) _
          have c0 : (w3.alloc (.cells #[.string (bs s), .string (bs t)] 9)).cell? ⟨w3.heap.size, 0, none⟩ = some (.string (bs s)) := by simp
          have c1 : (w3.alloc (.cells #[.string (bs s), .string (bs t)] 9)).cell? ⟨w3.heap.size, 1, none⟩ = some (.string (bs t)) := by simp
          have jl : w3.heap.size < (w3.alloc (.cells #[.string (bs s), .string (bs t)] 9)).heap.size := by simp
          obtain ⟨g, hg⟩ : ∃ g, w3.heap.size = g := ⟨_, rfl⟩
          obtain ⟨wA, hwA⟩ : ∃ wA, w3.alloc (.cells #[.string (bs s), .string (bs t)] 9) = wA := ⟨_, rfl⟩
          rw [hwA] at hal c0 c1 jl ⊢
          have hBA : Below w.heap.size w wA := hB3.trans (hal.mono hs3)
          have hwA3 := hw3.below hal
          have hAA := hA3.below hal
          rw [hg] at c0 c1 jl ⊢
          have HC : Hid (∀ W, Below wA.heap.size wA W → W.cell? ⟨g, 0, none⟩ = some (.string (bs s)) ∧ W.cell? ⟨g, 1, none⟩ = some (.string (bs t))) := Lib.hid fun W h => ⟨(h.cell (p := ⟨g, 0, none⟩) jl).trans c0, (h.cell (p := ⟨g, 1, none⟩) jl).trans c1⟩
          clear hal hwA hg hw3 hA3 hB3 hs3 c0 c1 jl
          go_loopw [13, 14, 15, 16, 100] (fun _ _ _ _ i wr => (i = .int .i64 0 ∨ i = .int .i64 1 ∨ i = .int .i64 2) ∧ Below w.heap.size w wr ∧ Below wA.heap.size wA wr) (fun _ _ _ _ i _ => 2 - (intOf i).toNat)
          case atStart => exact ⟨.inl rfl, hBA, Below.refl _ _⟩
          case round =>
            obtain ⟨hi, hB, hBo⟩ := hrel
            obtain ⟨c0, c1⟩ := HC.out _ hBo
            have hs := hB.size
            have hso := hBo.size
            have hwr := hwA3.below hBo
            have hAr := hAA.below hBo
            rcases hi with rfl | rfl | rfl
            · have hpa := params_any s wr hwr (by omega)
              unfold PrmOut at hpa
              rw [HR1.out] at hpa
              clear hwr hAA hBA HC
              go_wp2_with fail
              refine hpa.mono ?_
              rintro e w4 ⟨⟨v, rfl, hown⟩, hb4⟩
              rw [HN.out] at hown
              obtain ⟨A4, c4, rfl, _, _, hR4, _⟩ := own_form hown
              have hB4 := hB.trans (hb4.mono hs)
              have hBo4 := hBo.trans (hb4.mono hso)
              have hsp := samep_any A4 A fs k c4 c w4 HN.out hR4 (hAr.below hb4) (by omega)
              clear hown hpa hR4 hAr hb4 c0 c1
              go_wp2_with fail
              refine hsp.mono ?_
              rintro e w5 ⟨rfl, hd5⟩
              go_wp2_with fail
              go_roundw
              case rel => exact ⟨.inr (.inl rfl), hB4.trans ((hd5.below _).mono hB4.size), hBo4.trans ((hd5.below _).mono hBo4.size)⟩
              case measure => simp [intOf]
            · have hpa := params_any t wr hwr (by omega)
              unfold PrmOut at hpa
              rw [HR2.out] at hpa
              clear hwr hAA hBA HC
              go_wp2_with fail
              refine hpa.mono ?_
              rintro e w4 ⟨⟨v, rfl, hown⟩, hb4⟩
              rw [HN.out] at hown
              obtain ⟨A4, c4, rfl, _, _, hR4, _⟩ := own_form hown
              have hB4 := hB.trans (hb4.mono hs)
              have hBo4 := hBo.trans (hb4.mono hso)
              have hsp := samep_any A4 A fs k c4 c w4 HN.out hR4 (hAr.below hb4) (by omega)
              clear hown hpa hR4 hAr hb4 c0 c1
              go_wp2_with fail
              refine hsp.mono ?_
              rintro e w5 ⟨rfl, hd5⟩
              go_wp2_with fail
              go_roundw
              case rel => exact ⟨.inr (.inr rfl), hB4.trans ((hd5.below _).mono hB4.size), hBo4.trans ((hd5.below _).mono hBo4.size)⟩
              case measure => simp [intOf]
            · go_wp2_with fail
              go_ret
              exact ⟨rfl, hB⟩
end Go.Proofs.YtnmkapaphbaomaaGreatDoor
