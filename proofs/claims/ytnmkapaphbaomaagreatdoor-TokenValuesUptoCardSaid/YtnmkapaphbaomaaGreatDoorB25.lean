/- TokenValues' walk. -/
import Derived.Test.YtnmkapaphbaomaaGreatDoorB24
namespace Go.Proofs.YtnmkapaphbaomaaGreatDoor
set_option linter.unusedVariables false
set_option linter.unusedSimpArgs false
open Go.RowKit

theorem sgc_tests (c : UInt8) (h : sgc c = true) : ((c.toNat : Int) == 9) = true ∨ (((c.toNat : Int) == 9) = false ∧ ¬ (c.toNat : Int) < 32 ∧ ¬ (126 : Int) < (c.toNat : Int)) := by
  have key : ∀ n : Fin 256, sgc (UInt8.ofNat n.1) = true → ((n.1 : Int) == 9) = true ∨ (((n.1 : Int) == 9) = false ∧ ¬ (n.1 : Int) < 32 ∧ ¬ (126 : Int) < (n.1 : Int)) := by decide +kernel
  have := key ⟨c.toNat, c.toNat_lt⟩
  simp only [UInt8.ofNat_toNat] at this
  exact this h
theorem bareP_nil : bareP [] = .ok [] := by kernel_rfl

set_option maxRecDepth 100000 in
set_option maxHeartbeats 4000000 in
theorem tokenValues_any (kind s : List UInt8) (A : Option Addr) (fs : List (List UInt8 × List UInt8)) (n c : Nat) (w : World) (hn : fs.length = n) (hA : Rv w A (pcells fs)) (hw : Mx w)
    (hb : n ≤ 9223372036854775807) (hk : kind.length ≤ 9223372036854775807) (hl : s.length ≤ 9223372036854775807) (hp : ∀ p ∈ fs, p.1.length ≤ 1048576 ∧ p.2.length ≤ 1048576) :
    Calls Tryz.prog 5 #[.string (bs kind), .slice A n c, .string (bs s)] w fun e w' => e = .returned (.bool true) ∧ Below w.heap.size w w' := by
  have HN := Lib.hid hn
  have HP := Lib.hid hp
  clear hn hp
  go_enter Tryz.func5, Tryz.ntmps5
  go_wp2_with fail
  refine (speaks_any _ hw).mono ?_
  rintro e w1 ⟨rfl, hB1⟩
  have hA1 := hA.below hB1
  clear hA
  rcases (by omega : 200 < kind.length ∨ (¬ 200 < kind.length ∧ 20 < n) ∨ (¬ 200 < kind.length ∧ ¬ 20 < n ∧ 500 < s.length) ∨ (¬ 200 < kind.length ∧ ¬ 20 < n ∧ ¬ 500 < s.length)) with h1 | ⟨h1, h2⟩ | ⟨h1, h2, h3⟩ | ⟨h1, h2, h3⟩
  · go_wp2_with fail
    go_ret
    exact ⟨rfl, hB1⟩
  · go_wp2_with fail
    go_ret
    exact ⟨rfl, hB1⟩
  · go_wp2_with fail
    go_ret
    exact ⟨rfl, hB1⟩
  have hwl : (writeB kind fs).length ≤ kind.length + fs.length * (3 * 1048576 + 5) := writeB_len HP.out
  rw [HN.out] at hwl
  have hwl2 : (writeB kind fs).length ≤ 100000000 := by omega
  have hwa : Calls Tryz.prog 10 #[.string (bs kind), .slice A n c] w1 fun e w' => (∃ (t : List UInt8) (er : Nat), e = .returned (.tuple #[.string (bs t), .int .i64 er]) ∧ Hid (∀ x ∈ t, sgc x = true) ∧ t.length ≤ 100000000 ∧ (er = 0 ∧ Hid (bareP t = .ok t) ∨ er = 3)) ∧ Below w1.heap.size w1 w' := by
    refine (write_any kind fs A n c w1 (hw.below hB1) (by omega) HN.out (by omega) (fun p hp => ⟨by have := (HP.out p hp).1; omega, by have := (HP.out p hp).2; omega⟩) hA1).mono ?_
    rintro e w' ⟨ho, hb'⟩
    refine ⟨?_, hb'⟩
    rcases ho with ⟨hr, rfl⟩ | ⟨hr, rfl⟩
    · exact ⟨_, 0, rfl, Lib.hid (List.all_eq_true.1 (write_signs hr)), hwl2, .inl ⟨rfl, Lib.hid (write_bare hr)⟩⟩
    · exact ⟨[], 3, rfl, Lib.hid (by simp), by simp, .inr rfl⟩
  clear hA1 hwl hwl2 HP
  go_wp2_with fail
  refine hwa.mono ?_
  rintro e w2 ⟨⟨t, er, rfl, hsg, htl, her⟩, hb2⟩
  have hB2 := hB1.trans (hb2.mono hB1.size)
  have hw2 := hw.below hB2
  clear hwa hB1 hb2 hw
  go_wp2_with fail
  go_loopw [9] (fun i wr => ∃ k : Nat, i = .int .i64 k ∧ k ≤ t.length ∧ wr = w2) (fun i _ => t.length - (intOf i).toNat)
  case atStart => exact ⟨0, rfl, by omega, rfl⟩
  case round =>
    obtain ⟨k, rfl, hk1, rfl⟩ := hrel
    by_cases hlt : k < t.length
    · obtain ⟨x, hx⟩ : ∃ x, t[k]? = some x := ⟨_, List.getElem?_eq_getElem hlt⟩
      have hi := str_index (P := Tryz.prog) Tryz.underlying9 hx .i64
      have hxs := hsg.out x (List.mem_of_getElem? hx)
      clear hx her
      rcases sgc_tests x hxs with g1 | ⟨g1, g2, g3⟩
      all_goals
        have g9 : ((x.toNat : Int) != 9) = !((x.toNat : Int) == 9) := rfl
        rw [g1] at g9
        simp only [Bool.not_true, Bool.not_false] at g9
        clear hxs
        go_wp2_with fail
        go_roundw
        case rel => exact ⟨k + 1, by go_num, by omega, by first | rfl | trivial⟩
        case measure => simp [intOf]; omega
    · obtain rfl : k = t.length := by omega
      clear hsg hlt hk1
      rcases her with ⟨rfl, hbt⟩ | rfl
      · have hc0 := fun W => bare_any t W (by omega)
        rw [hbt.out] at hc0
        clear hbt
        go_wp2_with fail
        refine (hc0 _).mono ?_
        rintro e w4 ⟨ho, hb4⟩
        obtain rfl : e = .returned (.tuple #[.string (bs t), .int .i64 0]) := ho
        have hB4 := hB2.trans (hb4.mono hB2.size)
        clear hc0 hb4
        cases hbs : bareP s with
        | error k2 =>
          have hk2 : ((k2 : Int) != 0) = true := by have := bareP_err _ _ _ (Nat.le_refl _) hbs; rw [bne_iff_ne]; omega
          have hc1 := fun W => bare_any s W (by omega)
          rw [hbs] at hc1
          have hc2 := fun W => bare_any [] W (by simp)
          rw [bareP_nil] at hc2
          clear hbs
          go_wp2_with fail
          refine (hc1 _).mono ?_
          rintro e w5 ⟨ho, hb5⟩
          obtain rfl : e = .returned (.tuple #[.string (bs []), .int .i64 (k2 : Int)]) := ho
          have hB5 := hB4.trans (hb5.mono hB4.size)
          go_wp2_with fail
          refine (hc2 _).mono ?_
          rintro e w6 ⟨ho, hb6⟩
          obtain rfl : e = .returned (.tuple #[.string (bs []), .int .i64 0]) := ho
          go_wp2_with fail
          go_ret
          exact ⟨rfl, hB5.trans (hb6.mono hB5.size)⟩
        | ok o =>
          have hba := bare_again _ _ _ (Nat.le_refl _) hbs
          have hol := bareP_len _ _ _ (Nat.le_refl _) hbs
          have hc1 := fun W => bare_any s W (by omega)
          rw [hbs] at hc1
          have hc2 := fun W => bare_any o W (by omega)
          rw [hba] at hc2
          clear hbs hba
          go_wp2_with fail
          refine (hc1 _).mono ?_
          rintro e w5 ⟨ho, hb5⟩
          obtain rfl : e = .returned (.tuple #[.string (bs o), .int .i64 0]) := ho
          have hB5 := hB4.trans (hb5.mono hB4.size)
          go_wp2_with fail
          refine (hc2 _).mono ?_
          rintro e w6 ⟨ho, hb6⟩
          obtain rfl : e = .returned (.tuple #[.string (bs o), .int .i64 0]) := ho
          go_wp2_with fail
          go_ret
          exact ⟨ret_bool (by simp), hB5.trans (hb6.mono hB5.size)⟩
      · skip
        cases hbs : bareP s with
        | error k2 =>
          have hk2 : ((k2 : Int) != 0) = true := by have := bareP_err _ _ _ (Nat.le_refl _) hbs; rw [bne_iff_ne]; omega
          have hc1 := fun W => bare_any s W (by omega)
          rw [hbs] at hc1
          have hc2 := fun W => bare_any [] W (by simp)
          rw [bareP_nil] at hc2
          clear hbs
          go_wp2_with fail
          refine (hc1 _).mono ?_
          rintro e w5 ⟨ho, hb5⟩
          obtain rfl : e = .returned (.tuple #[.string (bs []), .int .i64 (k2 : Int)]) := ho
          have hB5 := hB2.trans (hb5.mono hB2.size)
          go_wp2_with fail
          refine (hc2 _).mono ?_
          rintro e w6 ⟨ho, hb6⟩
          obtain rfl : e = .returned (.tuple #[.string (bs []), .int .i64 0]) := ho
          go_wp2_with fail
          go_ret
          exact ⟨rfl, hB5.trans (hb6.mono hB5.size)⟩
        | ok o =>
          have hba := bare_again _ _ _ (Nat.le_refl _) hbs
          have hol := bareP_len _ _ _ (Nat.le_refl _) hbs
          have hc1 := fun W => bare_any s W (by omega)
          rw [hbs] at hc1
          have hc2 := fun W => bare_any o W (by omega)
          rw [hba] at hc2
          clear hbs hba
          go_wp2_with fail
          refine (hc1 _).mono ?_
          rintro e w5 ⟨ho, hb5⟩
          obtain rfl : e = .returned (.tuple #[.string (bs o), .int .i64 0]) := ho
          have hB5 := hB2.trans (hb5.mono hB2.size)
          go_wp2_with fail
          refine (hc2 _).mono ?_
          rintro e w6 ⟨ho, hb6⟩
          obtain rfl : e = .returned (.tuple #[.string (bs o), .int .i64 0]) := ho
          go_wp2_with fail
          go_ret
          exact ⟨ret_bool (by simp), hB5.trans (hb6.mono hB5.size)⟩
end Go.Proofs.YtnmkapaphbaomaaGreatDoor
