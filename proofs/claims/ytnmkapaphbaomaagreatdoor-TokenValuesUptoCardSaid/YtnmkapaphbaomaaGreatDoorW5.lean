/- (*strings.byteStringReplacer).Replace over that table; (*strings.Replacer).Replace. -/
import Derived.Test.YtnmkapaphbaomaaGreatDoorW4
import Derived.Test.YtnmkapaphbaomaaGreatDoorP25
import Derived.Laws.CopyOwn
import Derived.Test.YtnmkapaphbaomaaGreatDoorR1
import Derived.Test.YtnmkapaphbaomaaGreatDoorE1
import Derived.Deep.RegionLaw
namespace Go.Proofs.YtnmkapaphbaomaaGreatDoor
set_option linter.unusedVariables false
set_option linter.unusedSimpArgs false
open Go.RowKit

def spc (c : UInt8) : Bool := c == 34 || c == 92
theorem esc_app (a b : List UInt8) : esc (a ++ b) = esc a ++ esc b := by unfold esc; rw [List.flatMap_append]
theorem esc_one (c : UInt8) : esc [c] = if spc c then [92, c] else [c] := by
  unfold esc spc
  by_cases h : c = 34 ∨ c = 92
  · have : (c == 34 || c == 92) = true := by rcases h with h | h <;> simp [h]
    simp [h, this]
  · have h2 := not_or.1 h
    have : (c == 34 || c == 92) = false := by simp [h2.1, h2.2]
    simp [h, this]
theorem esc_count : ∀ v : List UInt8, (esc v).length = v.length + v.count 34 + v.count 92
  | [] => rfl
  | c :: v => by
    have ih := esc_count v
    have e : esc (c :: v) = esc [c] ++ esc v := esc_app [c] v
    rw [e, List.length_append, ih, esc_one, List.count_cons, List.count_cons, List.length_cons]
    unfold spc
    by_cases h1 : c = 34
    · subst h1
      simp
      omega
    · by_cases h2 : c = 92
      · subst h2
        simp
        omega
      · simp [h1, h2]
        omega
theorem esc_none : ∀ v : List UInt8, v.any spc = false → esc v = v
  | [], _ => rfl
  | c :: v, h => by
    rw [List.any_cons, Bool.or_eq_false_iff] at h
    have e : esc (c :: v) = esc [c] ++ esc v := esc_app [c] v
    rw [e, esc_one, h.1, esc_none v h.2]
    rfl
theorem any_count (v : List UInt8) : v.any spc = (decide (v.count 34 ≠ 0) || decide (v.count 92 ≠ 0)) := by
  rw [Bool.eq_iff_iff, List.any_eq_true]
  simp only [Bool.or_eq_true, decide_eq_true_eq]
  constructor
  · rintro ⟨c, hc, h⟩
    unfold spc at h
    rw [Bool.or_eq_true, beq_iff_eq, beq_iff_eq] at h
    rcases h with rfl | rfl
    · exact .inl (by have := List.count_pos_iff.2 hc; omega)
    · exact .inr (by have := List.count_pos_iff.2 hc; omega)
  · rintro (h | h)
    · exact ⟨34, List.count_pos_iff.1 (by omega), rfl⟩
    · exact ⟨92, List.count_pos_iff.1 (by omega), rfl⟩
/-- what the table has for a sign -/
theorem Built.look {N b : Nat} {w : World} (h : Built N w b) (c : UInt8) : (spc c = true ∧ ∃ x c1, w.cell? ⟨b, c.toNat, none⟩ = some (.slice (some ⟨x, 0, none⟩) 2 c1) ∧ Rb w (some ⟨x, 0, none⟩) [92, c]) ∨ (spc c = false ∧ w.cell? ⟨b, c.toNat, none⟩ = some (.slice none 0 0)) := by
  obtain ⟨L, x, c1, y, c2, z, c3, ht, hr, hx, hy, _⟩ := h
  by_cases h1 : c = 34
  · subst h1
    exact .inl ⟨rfl, x, c1, hr.cell (app_at ht.1 ht.2.1), hx⟩
  · by_cases h2 : c = 92
    · subst h2
      exact .inl ⟨rfl, y, c2, hr.cell (app_at ht.1 ht.2.2.1), hy⟩
    · refine .inr ⟨by unfold spc; simp [h1, h2], hr.cell (app_at ht.1 (ht.2.2.2 c.toNat c.toNat_lt ?_ ?_))⟩
      · intro e
        exact h1 (UInt8.toNat_inj.1 e)
      · intro e
        exact h2 (UInt8.toNat_inj.1 e)
theorem u8_cell {c : UInt8} : (c.toNat : Int) < 256 := by have := c.toNat_lt; omega

theorem esc_take (v : List UInt8) (q : Nat) : (esc (v.take q)).length ≤ (esc v).length := by
  have h : esc v = esc (v.take q) ++ esc (v.drop q) := by rw [← esc_app, List.take_append_drop]
  rw [h, List.length_append]
  omega
theorem esc_two : ∀ v : List UInt8, (esc v).length ≤ 2 * v.length
  | [] => Nat.le_refl _
  | c :: v => by
    have e : esc (c :: v) = esc [c] ++ esc v := esc_app [c] v
    have ih := esc_two v
    have h1 : (esc [c]).length ≤ 2 := by rw [esc_one]; split <;> simp
    rw [e, List.length_append, List.length_cons]
    omega
theorem app_mid {α : Type} (A Z : List α) (z : α) : (A ++ z :: Z)[A.length]? = some z := by simp
theorem splice_two {α : Type} (A Z : List α) (x y : α) (h : 2 ≤ Z.length) : splice (A ++ Z) A.length [x, y] = (A ++ [x, y]) ++ Z.drop 2 := by
  unfold splice
  rw [List.take_left, List.append_assoc]
  congr 2
  rw [show A.length + [x, y].length = A.length + 2 from rfl, List.drop_append, List.drop_eq_nil_of_le (by omega : A.length ≤ A.length + 2)]
  simp
/-- the made row so far: what is written, and the rest -/
def BufAt (w : World) (g : Nat) (K : Nat) (a : List UInt8) : Prop := ∃ Z : List Value, Row w g 5 (a.map bv ++ Z) ∧ a.length + Z.length = K

set_option maxRecDepth 100000 in
set_option maxHeartbeats 4000000 in
theorem brep_any (N b : Nat) (v : List UInt8) (w : World) (hbu : Built N w b) (hv : v.length ≤ 2000000) :
    Calls Tryz.prog 153 #[.pointer (some ⟨b, 0, none⟩), .string (bs v)] w fun e w' => e = .returned (.string (bs (esc v))) ∧ Below w.heap.size w w' := by
  have hlook := fun (W : World) (hW : Below w.heap.size w W) (c : UInt8) => (hbu.below hW).look c
  obtain ⟨z, c3, hz0, hz1⟩ : ∃ z c3, w.cell? ⟨b, 256, none⟩ = some (.slice (some ⟨z, 0, none⟩) 2 c3) ∧ Rv w (some ⟨z, 0, none⟩) [sv [34], sv [92]] := by
    obtain ⟨L, x, c1, y, c2, z, c3, ht, hr, hx, hy, hz, _⟩ := hbu
    exact ⟨z, c3, hr.cell (app_last ht.1), hz⟩
  obtain ⟨bz, oz, hze, hzc⟩ := hz1 (by simp)
  cases hze
  have y0 : w.cell? ⟨z, 0, none⟩ = some (.string (bs [34])) := hzc 0 _ rfl
  have y1 : w.cell? ⟨z, 1, none⟩ = some (.string (bs [92])) := hzc 1 _ rfl
  have hcnt := esc_count v
  have hany := any_count v
  have hc34 := List.count_le_length (a := (34 : UInt8)) (l := v)
  have hc92 := List.count_le_length (a := (92 : UInt8)) (l := v)
  have HCNT := Lib.hid hcnt
  have HANY := Lib.hid hany
  have HLK := Lib.hid hlook
  clear hz1 hzc hcnt hany hlook
  go_enter Tryz.func153, Tryz.ntmps153
  go_upto_if 26 with fail
  generalize hB16 : decide ((16 : Int) ≤ (v.length : Int)) = B16
  have HB16 := Lib.hid hB16
  clear hB16
  go_cut [5, 6] (fun s5 s6 wx => s5 = .int .i64 ((esc v).length : Int) ∧ s6 = .bool (v.any spc) ∧ Dn w wx)
  case first =>
    cases B16
    rotate_left
    · obtain ⟨n34, h34⟩ : ∃ n, v.count 34 = n := ⟨_, rfl⟩
      obtain ⟨n92, h92⟩ : ∃ n, v.count 92 = n := ⟨_, rfl⟩
      have hcnt34 : ∀ W, Calls Tryz.prog 93 #[.string (bs v), .string (bs [34])] W fun e w' => e = .returned (.int .i64 (n34 : Int)) ∧ w' = W := fun W => by
        have h := Tryz.strings_Count_one (bs v) 34 W
        rw [bs_toList] at h
        rw [← h34]
        exact h
      have hcnt92 : ∀ W, Calls Tryz.prog 93 #[.string (bs v), .string (bs [92])] W fun e w' => e = .returned (.int .i64 (n92 : Int)) ∧ w' = W := fun W => by
        have h := Tryz.strings_Count_one (bs v) 92 W
        rw [bs_toList] at h
        rw [← h92]
        exact h
      have hlen : ((esc v).length : Int) = (v.length : Int) + n34 + n92 := by rw [HCNT.out, h34, h92]; omega
      have hand : v.any spc = (decide (n34 ≠ 0) || decide (n92 ≠ 0)) := by rw [HANY.out, h34, h92]
      have HLEN := Lib.hid hlen
      have HAND := Lib.hid hand
      rw [h34] at hc34
      rw [h92] at hc92
      clear hlen hand h34 h92
      go_wp2_with fail
      go_loopw [5, 6, 32] (fun s5 s6 i wr => ((i = .int .i64 0 ∧ s5 = .int .i64 (v.length : Int) ∧ s6 = .bool false) ∨ (i = .int .i64 1 ∧ s5 = .int .i64 ((v.length : Int) + n34) ∧ s6 = .bool (decide (n34 ≠ 0))) ∨ (i = .int .i64 2 ∧ s5 = .int .i64 ((v.length : Int) + n34 + n92) ∧ s6 = .bool (decide (n34 ≠ 0) || decide (n92 ≠ 0)))) ∧ Dn w wr) (fun _ _ i _ => 2 - (intOf i).toNat)
      case atStart => exact ⟨.inl ⟨rfl, rfl, rfl⟩, Dn.refl _⟩
      case round =>
        obtain ⟨⟨rfl, rfl, rfl⟩ | ⟨rfl, rfl, rfl⟩ | ⟨rfl, rfl, rfl⟩, hd⟩ := hrel
        all_goals have hBd := hd.below w.heap.size
        · have yy := (hBd.cell (cell_lt y0)).trans y0
          have hix : ∀ W, (Instr.index 9 (.string (bs [34])) (.int .i64 0)).run Tryz.prog W = .ok (.int .u8 34) W := fun W => str_index (P := Tryz.prog) Tryz.underlying9 (l := [34]) (k := 0) (x := 34) rfl .i64 W
          obtain ⟨x, c1, hk, _⟩ : ∃ x c1, wr.cell? ⟨b, 34, none⟩ = some (.slice (some ⟨x, 0, none⟩) 2 c1) ∧ True := by
            rcases HLK.out wr hBd 34 with ⟨_, x, c1, h1, _⟩ | ⟨h1, _⟩
            · exact ⟨x, c1, h1, trivial⟩
            · exact absurd h1 (by decide)
          by_cases hn0 : n34 = 0
          · have hne : ((n34 : Int) != 0) = false := by rw [hn0]; rfl
            go_wp2_with fail
            refine (hcnt34 _).mono ?_
            rintro e w2 ⟨rfl, rfl⟩
            go_wp2_with fail
            go_roundw
            case rel => exact ⟨.inr (.inl ⟨by go_num, by go_num, by simp [hn0]⟩), hd⟩
            case measure => simp [intOf]
          · have hne : ((n34 : Int) != 0) = true := by rw [bne_iff_ne]; omega
            go_wp2_with fail
            refine (hcnt34 _).mono ?_
            rintro e w2 ⟨rfl, rfl⟩
            go_wp2_with fail
            go_quiet (fail)
            go_wp2_with fail
            go_roundw
            case rel => exact ⟨.inr (.inl ⟨by go_num, by go_num, by simp [hn0]⟩), by first | exact hd.drewN _ | exact hd.drew | exact hd⟩
            case measure => simp [intOf]

        · have yy := (hBd.cell (cell_lt y1)).trans y1
          have hix : ∀ W, (Instr.index 9 (.string (bs [92])) (.int .i64 0)).run Tryz.prog W = .ok (.int .u8 92) W := fun W => str_index (P := Tryz.prog) Tryz.underlying9 (l := [92]) (k := 0) (x := 92) rfl .i64 W
          obtain ⟨x, c1, hk, _⟩ : ∃ x c1, wr.cell? ⟨b, 92, none⟩ = some (.slice (some ⟨x, 0, none⟩) 2 c1) ∧ True := by
            rcases HLK.out wr hBd 92 with ⟨_, x, c1, h1, _⟩ | ⟨h1, _⟩
            · exact ⟨x, c1, h1, trivial⟩
            · exact absurd h1 (by decide)
          by_cases hn0 : n92 = 0
          · have hne : ((n92 : Int) != 0) = false := by rw [hn0]; rfl
            go_wp2_with fail
            refine (hcnt92 _).mono ?_
            rintro e w2 ⟨rfl, rfl⟩
            go_wp2_with fail
            go_roundw
            case rel => exact ⟨.inr (.inr ⟨by go_num, by go_num, by simp [hn0]⟩), hd⟩
            case measure => simp [intOf]
          · have hne : ((n92 : Int) != 0) = true := by rw [bne_iff_ne]; omega
            go_wp2_with fail
            refine (hcnt92 _).mono ?_
            rintro e w2 ⟨rfl, rfl⟩
            go_wp2_with fail
            go_quiet (fail)
            go_wp2_with fail
            go_roundw
            case rel => exact ⟨.inr (.inr ⟨by go_num, by go_num, by simp [hn0]⟩), by first | exact hd.drewN _ | exact hd.drew | exact hd⟩
            case measure => simp [intOf]

        · go_wp2_with fail
          go_meet
          exact ⟨by rw [HLEN.out], by rw [HAND.out], hd⟩
    · clear y0 y1
      go_wp2_with fail
      go_loopw [5, 6, 10] (fun s5 s6 i wr => ∃ q E : Nat, q ≤ v.length ∧ Hid (E = (esc (v.take q)).length + (v.length - q)) ∧ E ≤ v.length + q ∧ i = .int .i64 (q : Int) ∧ s5 = .int .i64 (E : Int) ∧ s6 = .bool ((v.take q).any spc) ∧ Dn w wr) (fun _ _ i _ => v.length - (intOf i).toNat)
      case atStart => exact ⟨0, v.length, Nat.zero_le _, Lib.hid (by simp [esc]), by omega, rfl, rfl, rfl, Dn.refl _⟩
      case round =>
        obtain ⟨q, E, hq, hE, hE2, rfl, rfl, rfl, hd⟩ := hrel
        have hBd := hd.below w.heap.size
        by_cases hql : q < v.length
        · obtain ⟨c, hc⟩ : ∃ c, v[q]? = some c := ⟨_, List.getElem?_eq_getElem hql⟩
          have hix : ∀ W, (Instr.index 9 (.string (bs v)) (.int .i64 (q : Int))).run Tryz.prog W = .ok (.int .u8 (c.toNat : Int)) W := fun W => str_index (P := Tryz.prog) Tryz.underlying9 hc .i64 W
          have htk := Lib.hid (take_succ_of hc)
          have hc8 : (c.toNat : Int) < 256 := u8_cell
          rcases HLK.out wr hBd c with ⟨hs, x, c1, hk, _⟩ | ⟨hs, hk⟩
          · have hne : ∀ W, (binOp .neq 58 (.slice (some ⟨x, 0, none⟩) 2 c1) (.slice none 0 0)).run Tryz.prog W = .ok (.bool true) W := fun W => run_neq_slice_nil (P := Tryz.prog) W _ _ (some ⟨x, 0, none⟩) 2 c1 Tryz.underlying58
            have HE : Hid (E + 1 = (esc (v.take (q + 1))).length + (v.length - (q + 1))) := Lib.hid (by rw [htk.out, esc_app, esc_one, hs, List.length_append, hE.out]; simp; omega)
            have HS : Hid ((v.take (q + 1)).any spc = true) := Lib.hid (by rw [htk.out, List.any_append]; simp [hs])
            clear hs hE htk
            go_wp2_with fail
            go_roundw
            case rel => exact ⟨q + 1, E + 1, by omega, HE, by omega, by go_num, by go_num, by rw [HS.out], by first | exact hd.drewN _ | exact hd.drew | exact hd⟩
            case measure => simp [intOf]; omega
          · have HE : Hid (E = (esc (v.take (q + 1))).length + (v.length - (q + 1))) := Lib.hid (by rw [htk.out, esc_app, esc_one, hs, List.length_append, hE.out]; simp; omega)
            have HS : Hid ((v.take (q + 1)).any spc = (v.take q).any spc) := Lib.hid (by rw [htk.out, List.any_append]; simp [hs])
            clear hs hE htk
            have hne : ∀ W, (binOp .neq 58 (.slice none 0 0) (.slice none 0 0)).run Tryz.prog W = .ok (.bool false) W := fun W => run_neq_slice_nil (P := Tryz.prog) W _ _ none 0 0 Tryz.underlying58
            go_wp2_with fail
            go_roundw
            case rel => exact ⟨q + 1, E, by omega, HE, by omega, by go_num, by go_num, by rw [HS.out], hd⟩
            case measure => simp [intOf]; omega
        · have hqe : q = v.length := by omega
          go_wp2_with fail
          go_meet
          subst hqe
          rw [List.take_length] at hE ⊢
          exact ⟨by rw [hE.out]; simp, rfl, hd⟩
  case rest =>
    obtain ⟨rfl, rfl, hd⟩ := hcut
    clear y0 y1 hz0 hc34 hc92
    have hBd := hd.below w.heap.size
    by_cases hsp : v.any spc = true
    · obtain ⟨K, hK⟩ : ∃ K, (esc v).length = K := ⟨_, rfl⟩
      have hK2 : K ≤ 2 * v.length := by rw [← hK]; exact esc_two v
      rw [hK, hsp]
      have HK := Lib.hid hK
      clear hK hsp
      obtain ⟨X, hX, hmk⟩ := makeN (P := Tryz.prog) (t := 58) (e := 5) Tryz.underlying58 (TU8.ex.choose_spec.choose_spec.1) (TU8.ex.choose_spec.choose_spec.2.1) (TU8.ex.choose_spec.choose_spec.2.2.1) (TU8.ex.choose_spec.choose_spec.2.2.2.1) .i64 .i64 K (by omega) (by omega)
      have hBn : Below w.heap.size w (wc.alloc (.cells X 5)) := hBd.alloc hBd.size _
      have hbuf : BufAt (wc.alloc (.cells X 5)) wc.heap.size K (esc (v.take 0)) := ⟨X.toList, Row.new wc X _, by simp [esc, hX]⟩
      have hnb : w.heap.size ≤ wc.heap.size := hBd.size
      have HBUF := Lib.hid hbuf
      clear hbuf
      go_wp2_with fail
      have hst0 : (0 : Nat) ≤ 2 * 0 := by omega
      go_loopw [13, 14] (fun s13 s14 wr => ∃ q k : Nat, q ≤ v.length ∧ Hid (k = (esc (v.take q)).length) ∧ k ≤ 2 * q ∧ s14 = .int .i64 (q : Int) ∧ s13 = .int .i64 (k : Int) ∧ Hid (BufAt wr wc.heap.size K (esc (v.take q))) ∧ Below w.heap.size w wr) (fun _ i _ => v.length - (intOf i).toNat)
      case atStart => exact ⟨0, 0, Nat.zero_le _, Lib.hid (by simp [esc]), by omega, rfl, rfl, HBUF, hBn⟩
      case round =>
        obtain ⟨q, k, hq, hk, hk2, rfl, rfl, hbuf, hB⟩ := hrel
        clear HBUF hBn
        by_cases hql : q < v.length
        · obtain ⟨c, hc⟩ : ∃ c, v[q]? = some c := ⟨_, List.getElem?_eq_getElem hql⟩
          have hix : ∀ W, (Instr.index 9 (.string (bs v)) (.int .i64 (q : Int))).run Tryz.prog W = .ok (.int .u8 (c.toNat : Int)) W := fun W => str_index (P := Tryz.prog) Tryz.underlying9 hc .i64 W
          have htk := take_succ_of hc
          have hle := esc_take v (q + 1)
          rw [htk, esc_app, List.length_append, esc_one] at hle
          have hc8 : (c.toNat : Int) < 256 := u8_cell
          obtain ⟨Z, hrow, hz⟩ := hbuf.out
          rcases HLK.out wr hB c with ⟨hs, x, c1, hk1, hrb⟩ | ⟨hs, hk1⟩
          · have hne : ∀ W, (binOp .neq 58 (.slice (some ⟨x, 0, none⟩) 2 c1) (.slice none 0 0)).run Tryz.prog W = .ok (.bool true) W := fun W => run_neq_slice_nil (P := Tryz.prog) W _ _ (some ⟨x, 0, none⟩) 2 c1 Tryz.underlying58
            rw [hs] at hle
            have hkK : k + 2 ≤ K := by rw [← HK.out, hk.out]; simpa using hle
            have hZ : 2 ≤ Z.length := by rw [← hk.out] at hz; omega
            have hnew : ∀ W, Hid (W.heap[wc.heap.size]? = some (.cells (splice ((esc (v.take q)).map bv ++ Z) k [bv 92, bv c]).toArray 5 (0, 0))) → Hid (BufAt W wc.heap.size K (esc (v.take (q + 1)))) := fun W h => by
              have e : (esc (v.take q)).map bv = (esc (v.take q)).map bv := rfl
              have hl : ((esc (v.take q)).map bv).length = k := by rw [List.length_map, hk.out]
              have h1 := h.out
              rw [← hl, splice_two _ _ _ _ hZ] at h1
              refine Lib.hid ⟨Z.drop 2, ?_, ?_⟩
              · unfold Row
                rw [htk, esc_app, esc_one, hs]
                simpa using h1
              · rw [htk, esc_app, esc_one, hs]
                simp
                omega
            have hsrc : ∀ j y, [bv 92, bv c][j]? = some y → wr.drew.cell? ((⟨x, 0, none⟩ : Addr).add j) = some y := fun j y hj => by
              obtain ⟨bx, ox, hxe, hxc⟩ := hrb (by simp)
              cases hxe
              have hplain : (⟨x, 0, none⟩ : Addr).add j = ⟨x, 0 + j, none⟩ := by unfold Addr.add; split <;> simp_all
              rw [hplain]
              exact hxc j y (by simpa using hj)
            have hfit : k + [bv 92, bv c].length ≤ ((esc (v.take q)).map bv ++ Z).length := by rw [List.length_append, List.length_map, ← hk.out]; simp; omega
            have hone : ∀ y ∈ [bv 92, bv c], y.oneCell' = true := by simp [bv, Value.oneCell']
            have hg : wr.drew.heap[wc.heap.size]? = some (.cells ((esc (v.take q)).map bv ++ Z).toArray 5 (0, 0)) := hrow
            have hK' : Hid (k + 2 = (esc (v.take (q + 1))).length) := Lib.hid (by rw [htk, esc_app, esc_one, hs, List.length_append, ← hk.out]; simp)
            have HG := Lib.hid hg
            have HS := Lib.hid hsrc
            have HF := Lib.hid hfit
            have HO := Lib.hid hone
            have hmin : [bv 92, bv c].length = Nat.min 2 (K - k) := by
              have h2 : 2 ≤ K - k := by omega
              exact (Nat.min_eq_left h2).symm
            have hkK1 : k ≤ K := by omega
            have hBdr : Below w.heap.size w wr.drew := hB.trans ((Dn.of wr 1).below _)
            have hkK2 : ¬ K = k := by omega
            have HM := Lib.hid hmin
            clear hle htk hs hz hrow hg hsrc hfit hone hmin hrb hk
            go_wp2_with fail
            go_region_law (refine step_copy_splice rfl (.tmp 105) (.tmp 111) 58 58 rfl 5 Tryz.underlying58 (by rfl) (some ⟨wc.heap.size, k, none⟩) (some ⟨x, 0, none⟩) (K - k) (K - k) 2 c1 (by simp [Act.eval, Act.put]) (by simp [Act.eval, Act.put]) wc.heap.size k ((esc (v.take q)).map bv ++ Z) 5 HG.out [bv 92, bv c] HM.out (fun _ => ⟨rfl, ⟨x, 0, none⟩, rfl, HS.out⟩) HF.out HO.out w.heap.size w hBdr hBd.size ?_; intro w4 hg4 hb4)
            have HN4 := hnew w4 hg4
            clear hg4
            go_wp2_with fail
            go_roundw
            case rel => exact ⟨q + 1, k + 2, by omega, hK', by omega, by go_num, by go_num, HN4, hb4⟩
            case measure => simp [intOf]; omega
          · have hne : ∀ W, (binOp .neq 58 (.slice none 0 0) (.slice none 0 0)).run Tryz.prog W = .ok (.bool false) W := fun W => run_neq_slice_nil (P := Tryz.prog) W _ _ none 0 0 Tryz.underlying58
            rw [hs] at hle
            have hkK : k + 1 ≤ K := by rw [← HK.out, hk.out]; simpa using hle
            have hZ : 1 ≤ Z.length := by rw [← hk.out] at hz; omega
            obtain ⟨z0, Z', rfl⟩ : ∃ z0 Z', Z = z0 :: Z' := by
              rcases Z with _ | ⟨z0, Z'⟩
              · simp at hZ
              · exact ⟨z0, Z', rfl⟩
            have hl : ((esc (v.take q)).map bv).length = k := by rw [List.length_map, hk.out]
            have hcell : wr.cell? ⟨wc.heap.size, k, none⟩ = some z0 := hrow.cell (by rw [← hl]; exact app_mid _ _ _)
            have hfro := hrow.frozen k
            have hset := hrow.set k (bv c)
            rw [← hl, set_at] at hset
            have hnew : BufAt (wr.setCell ⟨wc.heap.size, k, none⟩ (.int .u8 (c.toNat : Int))) wc.heap.size K (esc (v.take (q + 1))) := by
              refine ⟨Z', ?_, ?_⟩
              · rw [htk, esc_app, esc_one, hs, List.map_append]
                rw [hl] at hset
                exact hset
              · rw [htk, esc_app, esc_one, hs, List.length_append, ← hz]
                simp
                omega
            have HN := Lib.hid hnew
            have hK' : Hid (k + 1 = (esc (v.take (q + 1))).length) := Lib.hid (by rw [htk, esc_app, esc_one, hs, List.length_append, ← hk.out]; simp)
            have hkK1 : k < K := by omega
            clear hle htk hs hz hrow hset hnew hk hl
            go_wp2_with fail
            go_roundw
            case rel => exact ⟨q + 1, k + 1, by omega, hK', by omega, by go_num, by go_num, HN, hB.setCell hBd.size _⟩
            case measure => simp [intOf]; omega
        · have hqe : q = v.length := by omega
          obtain ⟨Z, hrow, hz⟩ := hbuf.out
          have hkq := hk.out
          subst hqe
          rw [List.take_length] at hrow hz hkq
          have hZ0 : Z = [] := List.eq_nil_of_length_eq_zero (by rw [HK.out] at hz; omega)
          subst hZ0
          rw [List.append_nil] at hrow
          have hRb : Rb wr (some ⟨wc.heap.size, 0, none⟩) (esc v) := fun _ => ⟨_, _, rfl, fun j y hj => by rw [Nat.zero_add]; exact hrow.cell hj⟩
          have hcv : (convert 58 9 (.slice (some ⟨wc.heap.size, 0, none⟩) K K)).run Tryz.prog wr = .ok (.string (bs (esc v))) wr := conv_str (P := Tryz.prog) (src := 58) (dst := 9) (e := 5) Tryz.underlying58 Tryz.underlying5 Tryz.underlying9 (n := K) (c := K) hRb HK.out
          clear hkq hrow hRb hk hz hbuf
          go_wp2_with fail
          go_ret
          exact ⟨rfl, hB⟩
    · have hn : v.any spc = false := by simpa using hsp
      rw [hn]
      have HN := Lib.hid (esc_none v hn)
      clear hsp hn
      go_wp2_with fail
      go_ret
      exact ⟨by rw [HN.out]; rfl, hBd⟩
end Go.Proofs.YtnmkapaphbaomaaGreatDoor
