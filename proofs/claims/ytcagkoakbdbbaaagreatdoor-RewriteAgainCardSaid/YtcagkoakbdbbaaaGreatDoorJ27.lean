/- Whether two names are one: field's own test. -/
import Derived.Test.YtcagkoakbdbbaaaGreatDoorJ25
import Derived.Test.YtcagkoakbdbbaaaGreatDoorJ26
import Derived.Deep.RegionHeld3
import Derived.Deep.RegionHeldLaw
namespace Go.Proofs.YtcagkoakbdbbaaaGreatDoor
set_option linter.unusedVariables false
set_option linter.unusedSimpArgs false
open Go.RowKit Go.Shelf

/-- a small letter, as a rune -/
def lowF (x : Int) : Int := if 65 ≤ x ∧ x ≤ 90 then x + 32 else x
theorem lowF_one (c : UInt8) : Lib.mapD lowF [c] = if c.toNat < 128 then [small c] else [239, 191, 189] := by
  have key : ∀ n : Fin 256, Lib.mapD lowF [UInt8.ofNat n.1] = if n.1 < 128 then [small (UInt8.ofNat n.1)] else [239, 191, 189] := by decide +kernel
  have := key ⟨c.toNat, c.toNat_lt⟩
  simpa using this
set_option maxHeartbeats 400000 in
theorem lower1_any (x : Nat) (w : World) (hx : x ≤ 1114111) :
    Calls Tryz.prog 94 #[.int .i32 (x : Int)] w fun e w' => e = .returned (.int .i32 (lowF x)) ∧ Below w.heap.size w w' := by
  unfold lowF
  rcases (by omega : (65 ≤ x ∧ x ≤ 90) ∨ x < 65 ∨ (65 ≤ x ∧ 90 < x)) with ⟨h1, h2⟩ | h1 | ⟨h1, h2⟩
  · rw [if_pos ⟨by omega, by omega⟩]
    go_enter Tryz.func94, Tryz.ntmps94
    go_wp2_with fail
    go_ret
    exact ⟨ret_int (by go_num), Below.refl _ _⟩
  all_goals
    rw [if_neg (by omega)]
    go_enter Tryz.func94, Tryz.ntmps94
    go_wp2_with fail
    go_ret
    exact ⟨ret_int (by go_num), Below.refl _ _⟩
theorem eg_lower : ∀ args w, (callFunc 94 args).run Tryz.prog w = .ok (.enter 94 args) w := enters_of Tryz.func94 (by kernel_rfl) rfl
set_option maxHeartbeats 400000 in
theorem lower_any (l : List UInt8) (w : World) (hT : Lib.Utf8Tabs 3 4 w) (hl : l.length ≤ 1000000000) :
    Calls Tryz.prog 73 #[.string (bs l)] w fun e w' => e = .returned (.string (bs (Lib.mapD lowF l))) ∧ Below w.heap.size w w' := by
  have h := Tryz.strings_Map_grows 94 #[] eg_lower lowF (bs l) w (by rw [bs_size]; omega) (fun W x hx _ => lower1_any x W hx) (fun x hx => by unfold lowF; split <;> omega) hT
  rw [bs_toList] at h
  have h2 : Calls Tryz.prog 93 #[.func (.func 94) #[] #[], .string (bs l)] w fun e w' => e = .returned (.string (bs (Lib.mapD lowF l))) ∧ Below w.heap.size w w' := h
  clear h
  generalize Lib.mapD lowF l = m at *
  go_enter Tryz.func73, Tryz.ntmps73
  go_wp2_with fail
  refine h2.mono ?_
  rintro e w' ⟨rfl, hb⟩
  go_wp2_with fail
  go_ret
  exact ⟨rfl, hb⟩

theorem small_128 (c : UInt8) : (small c).toNat < 128 ↔ c.toNat < 128 := by
  rw [small_nat]
  split <;> omega
theorem sameN_step {x y : UInt8} : small x = small y ↔ (x = y ∨ (Lib.mapD lowF [x] = Lib.mapD lowF [y] ∧ x.toNat < 128)) := by
  rw [lowF_one, lowF_one]
  have hx := small_128 x
  have hy := small_128 y
  constructor
  · intro e
    by_cases h : x.toNat < 128
    · have h2 : y.toNat < 128 := by rw [← hy, ← e, hx]; exact h
      rw [if_pos h, if_pos h2, e]
      exact .inr ⟨rfl, h⟩
    · left
      have h2 : ¬ y.toNat < 128 := by rw [← hy, ← e, hx]; exact h
      have e1 := small_nat x
      have e2 := small_nat y
      rw [if_neg (by omega)] at e1 e2
      exact UInt8.toNat_inj.1 (by rw [← e1, ← e2, e])
  · rintro (rfl | ⟨e, h⟩)
    · rfl
    · rw [if_pos h] at e
      by_cases h2 : y.toNat < 128
      · rw [if_pos h2] at e
        simpa using e
      · rw [if_neg h2] at e
        simp at e

set_option maxRecDepth 100000 in
set_option maxHeartbeats 2000000 in
theorem fsame_any (a b : List UInt8) (w : World) (hT : Lib.Utf8Tabs 3 4 w) (ha : a.length ≤ 1000000000) (hb : b.length ≤ 1000000000) :
    Calls Tryz.prog 43 #[.string (bs a), .string (bs b)] w fun e w' => e = .returned (.bool (sameN a b)) ∧ Below w.heap.size w w' := by
  by_cases hl : a.length = b.length
  · obtain ⟨n, hn⟩ : ∃ n, a.length = n := ⟨_, rfl⟩
    have hm : b.length = n := by omega
    rw [hn] at ha
    go_enter Tryz.func43, Tryz.ntmps43
    go_wp2_with fail
    go_loopw [13] (fun i wr => ∃ q : Nat, i = .int .i64 q ∧ q ≤ n ∧ Hid ((a.take q).map small = (b.take q).map small) ∧ Below w.heap.size w wr) (fun i _ => n - (intOf i).toNat)
    case atStart => exact ⟨0, rfl, by omega, Lib.hid (by simp), Below.refl _ _⟩
    case round =>
      obtain ⟨q, rfl, hq, he, hB⟩ := hrel
      by_cases hlt : q < n
      · obtain ⟨x, hx⟩ : ∃ c, a[q]? = some c := ⟨_, List.getElem?_eq_getElem (by omega)⟩
        obtain ⟨y, hy⟩ : ∃ c, b[q]? = some c := ⟨_, List.getElem?_eq_getElem (by omega)⟩
        have hi := str_index (P := Tryz.prog) Tryz.underlying9 hx .i64
        have hj := str_index (P := Tryz.prog) Tryz.underlying9 hy .i64
        have hxa : (a.drop q).take 1 = [x] := by rw [List.drop_eq_getElem_cons (by omega)]; rw [List.getElem?_eq_getElem (by omega)] at hx; simp [Option.some.inj hx]
        have hyb : (b.drop q).take 1 = [y] := by rw [List.drop_eq_getElem_cons (by omega)]; rw [List.getElem?_eq_getElem (by omega)] at hy; simp [Option.some.inj hy]
        have hst := @sameN_step x y
        have hlx : ∀ W, Below w.heap.size w W → Calls Tryz.prog 73 #[.string (bs [x])] W fun e w' => e = .returned (.string (bs (Lib.mapD lowF [x]))) ∧ Below w.heap.size w w' := fun W hb => (lower_any [x] W (tabs_below hT hb) (by simp)).mono fun e w' h => ⟨h.1, hb.trans (h.2.mono hb.size)⟩
        have hly : ∀ W, Below w.heap.size w W → Calls Tryz.prog 73 #[.string (bs [y])] W fun e w' => e = .returned (.string (bs (Lib.mapD lowF [y]))) ∧ Below w.heap.size w w' := fun W hb => (lower_any [y] W (tabs_below hT hb) (by simp)).mono fun e w' h => ⟨h.1, hb.trans (h.2.mono hb.size)⟩
        have hok : small x = small y → Hid ((a.take (q + 1)).map small = (b.take (q + 1)).map small) := fun h => Lib.hid (by rw [take_succ_of hx, take_succ_of hy, List.map_append, List.map_append, he.out]; simp [h])
        have hno : small x ≠ small y → Hid (sameN a b = false) := fun h => Lib.hid (sameN_no hx hy h)
        clear hx hy he
        have f0 : (0 : Int) ≤ (q : Int) := by omega
        have f1 : (0 : Int) ≤ (q : Int) + 1 := by omega
        have f2 : (q : Int) ≤ (q : Int) + 1 := by omega
        have f3 : (q : Int) + 1 ≤ (n : Int) := by omega
        have f4 : IntKind.i64.wrap ((q : Int) + 1) = (q : Int) + 1 := by rw [IntKind.wrap_i64]; omega
        generalize Lib.mapD lowF [x] = mx at *
        generalize Lib.mapD lowF [y] = my at *
        by_cases h1 : x = y
        · have hbb : ((x.toNat : Int) != (y.toNat : Int)) = false := by rw [bne_eq_false_iff_eq, h1]
          have hok := hok (by rw [h1])
          clear hlx hly hst hno h1
          go_wp2_with fail
          go_quiet (fail)
          go_wp2_with fail
          go_roundw
          case rel => exact ⟨q + 1, by go_num, by omega, hok, hB.trans (Dn.below (Dn.of _ _) _ |>.mono hB.size)⟩
          case measure => simp [intOf]; omega
        · have hbb : ((x.toNat : Int) != (y.toNat : Int)) = true := by rw [bne_iff_ne]; exact fun h => h1 (u8_eq.1 h)
          by_cases h2 : mx = my
          · have h2b : (mx == my) = true := by simp [h2]
            by_cases h3 : x.toNat < 128
            · have hok := hok (hst.2 (.inr ⟨h2, h3⟩))
              have h3i : ¬ (128 : Int) ≤ (x.toNat : Int) := by omega
              have h3b : decide ((128 : Int) ≤ (x.toNat : Int)) = false := decide_eq_false h3i
              clear hst hno h1 h2 h3
              go_wp2_with fail
              go_region_held3 (fun w' => Below w.heap.size w w') (first | assumption | exact Below.drew (by assumption))
                (first
                | (go_at_call 73; (try simp only [hxa]); refine (hlx _ (by assumption)).mono ?_; rintro e w2 ⟨rfl, hB2⟩)
                | (go_at_call 73; (try simp only [hyb]); refine (hly _ (by assumption)).mono ?_; rintro e w3 ⟨rfl, hB3⟩))
              all_goals
                go_wp2_with fail
                go_roundw
                case rel => exact ⟨q + 1, by go_num, by omega, hok, by first | assumption | exact Below.drew (by assumption)⟩
                case measure => simp [intOf]; omega
            · have hno := hno (fun h => by rcases hst.1 h with h | h; exact h1 h; exact h3 h.2)
              have h3i : (128 : Int) ≤ (x.toNat : Int) := by omega
              clear hst hok h1 h2 h3
              go_wp2_with fail
              go_region_held3 (fun w' => Below w.heap.size w w') (first | assumption | exact Below.drew (by assumption))
                (first
                | (go_at_call 73; (try simp only [hxa]); refine (hlx _ (by assumption)).mono ?_; rintro e w2 ⟨rfl, hB2⟩)
                | (go_at_call 73; (try simp only [hyb]); refine (hly _ (by assumption)).mono ?_; rintro e w3 ⟨rfl, hB3⟩))
              all_goals
                go_wp2_with fail
                go_ret
                exact ⟨ret_bool hno.out.symm, by first | assumption | exact Below.drew (by assumption)⟩
          · have h2b : (mx == my) = false := by simp [h2]
            have hno := hno (fun h => by rcases hst.1 h with h | h; exact h1 h; exact h2 h.1)
            clear hst hok h1 h2
            go_wp2_with fail
            first
            | (go_region_held_law (fun w' => Below w.heap.size w w') (first | assumption | exact Below.drew (by assumption))
              (first
              | (go_at_call 73; (try simp only [hxa]); refine (hlx _ (by assumption)).mono ?_; rintro e w2 ⟨rfl, hB2⟩)
              | (go_at_call 73; (try simp only [hyb]); refine (hly _ (by assumption)).mono ?_; rintro e w3 ⟨rfl, hB3⟩)))
            | fail
            all_goals
              go_wp2_with fail
              go_ret
              exact ⟨ret_bool hno.out.symm, by first | assumption | exact Below.drew (by assumption)⟩
      · obtain rfl : q = n := by omega
        have hall : sameN a b = true := by
          have := he.out
          rw [take_all a (by omega), take_all b (by omega)] at this
          unfold sameN
          rw [decide_eq_true_iff]
          exact this
        have HR := Lib.hid hall
        clear hall
        go_wp2_with fail
        go_ret
        exact ⟨ret_bool HR.out.symm, hB⟩
  · have hno := Lib.hid (sameN_len hl)
    have hbb : ((a.length : Int) != (b.length : Int)) = true := by rw [bne_iff_ne]; omega
    go_enter Tryz.func43, Tryz.ntmps43
    go_wp2_with fail
    go_ret
    exact ⟨ret_bool hno.out.symm, Below.refl _ _⟩
end Go.Proofs.YtcagkoakbdbbaaaGreatDoor
