/- Whether two names are one: field's own test. · The program's armored: it tells something of any mail. -/
import Derived.Test.YtcagkoakbdbbaaaGreatDoorJ17
import Derived.Test.YtcagkoakbdbbaaaGreatDoorJ18
import Derived.Deep.RegionHeld3
import Derived.Deep.RegionHeldLaw
namespace Go.Proofs.YtcagkoakbdbbaaaGreatDoor
set_option linter.unusedVariables false
set_option linter.unusedSimpArgs false
open Go.RowKit Go.Shelf

/-- a small letter, as a rune -/
def lowF (x : Int) : Int := if 65 ≤ x ∧ x ≤ 90 then x + 32 else x
theorem lowF_one (c : UInt8) : Lib.mapD lowF [c] = if c.toNat < 128 then [small c] else [239, 191, 189] := by
  have key : ∀ n : Fin 256, Lib.mapD lowF [UInt8.ofNat n.1] = if n.1 < 128 then [small (UInt8.ofNat n.1)] else [239, 191, 189] := by decide +kernel
  have := key ⟨c.toNat, c.toNat_lt⟩
  simpa using this
set_option maxHeartbeats 400000 in
theorem lower1_any (x : Nat) (w : World) (hx : x ≤ 1114111) :
    Calls Tryz.prog 94 #[.int .i32 (x : Int)] w fun e w' => e = .returned (.int .i32 (lowF x)) ∧ Below w.heap.size w w' := by
  unfold lowF
  rcases (by omega : (65 ≤ x ∧ x ≤ 90) ∨ x < 65 ∨ (65 ≤ x ∧ 90 < x)) with ⟨h1, h2⟩ | h1 | ⟨h1, h2⟩
  · rw [if_pos ⟨by omega, by omega⟩]
    go_enter Tryz.func94, Tryz.ntmps94
    go_wp2_with fail
    go_ret
    exact ⟨ret_int (by go_num), Below.refl _ _⟩
  all_goals
    rw [if_neg (by omega)]
    go_enter Tryz.func94, Tryz.ntmps94
    go_wp2_with fail
    go_ret
    exact ⟨ret_int (by go_num), Below.refl _ _⟩
theorem eg_lower : ∀ args w, (callFunc 94 args).run Tryz.prog w = .ok (.enter 94 args) w := enters_of Tryz.func94 (by kernel_rfl) rfl
set_option maxHeartbeats 400000 in
theorem lower_any (l : List UInt8) (w : World) (hT : Lib.Utf8Tabs 3 4 w) (hl : l.length ≤ 1000000000) :
    Calls Tryz.prog 73 #[.string (bs l)] w fun e w' => e = .returned (.string (bs (Lib.mapD lowF l))) ∧ Below w.heap.size w w' := by
  have h := Tryz.strings_Map_grows 94 #[] eg_lower lowF (bs l) w (by rw [bs_size]; omega) (fun W x hx _ => lower1_any x W hx) (fun x hx => by unfold lowF; split <;> omega) hT
  rw [bs_toList] at h
  have h2 : Calls Tryz.prog 93 #[.func (.func 94) #[] #[], .string (bs l)] w fun e w' => e = .returned (.string (bs (Lib.mapD lowF l))) ∧ Below w.heap.size w w' := h
  clear h
  generalize Lib.mapD lowF l = m at *
  go_enter Tryz.func73, Tryz.ntmps73
  go_wp2_with fail
  refine h2.mono ?_
  rintro e w' ⟨rfl, hb⟩
  go_wp2_with fail
  go_ret
  exact ⟨rfl, hb⟩

theorem small_128 (c : UInt8) : (small c).toNat < 128 ↔ c.toNat < 128 := by
  rw [small_nat]
  split <;> omega
theorem sameN_step {x y : UInt8} : small x = small y ↔ (x = y ∨ (Lib.mapD lowF [x] = Lib.mapD lowF [y] ∧ x.toNat < 128)) := by
  rw [lowF_one, lowF_one]
  have hx := small_128 x
  have hy := small_128 y
  constructor
  · intro e
    by_cases h : x.toNat < 128
    · have h2 : y.toNat < 128 := by rw [← hy, ← e, hx]; exact h
      rw [if_pos h, if_pos h2, e]
      exact .inr ⟨rfl, h⟩
    · left
      have h2 : ¬ y.toNat < 128 := by rw [← hy, ← e, hx]; exact h
      have e1 := small_nat x
      have e2 := small_nat y
      rw [if_neg (by omega)] at e1 e2
      exact UInt8.toNat_inj.1 (by rw [← e1, ← e2, e])
  · rintro (rfl | ⟨e, h⟩)
    · rfl
    · rw [if_pos h] at e
      by_cases h2 : y.toNat < 128
      · rw [if_pos h2] at e
        simpa using e
      · rw [if_neg h2] at e
        simp at e

set_option maxRecDepth 100000 in
set_option maxHeartbeats 2000000 in
theorem fsame_any (a b : List UInt8) (w : World) (hT : Lib.Utf8Tabs 3 4 w) (ha : a.length ≤ 1000000000) (hb : b.length ≤ 1000000000) :
    Calls Tryz.prog 43 #[.string (bs a), .string (bs b)] w fun e w' => e = .returned (.bool (sameN a b)) ∧ Below w.heap.size w w' := by
  by_cases hl : a.length = b.length
  · obtain ⟨n, hn⟩ : ∃ n, a.length = n := ⟨_, rfl⟩
    have hm : b.length = n := by omega
    rw [hn] at ha
    go_enter Tryz.func43, Tryz.ntmps43
    go_wp2_with fail
    go_loopw [13] (fun i wr => ∃ q : Nat, i = .int .i64 q ∧ q ≤ n ∧ Hid ((a.take q).map small = (b.take q).map small) ∧ Below w.heap.size w wr) (fun i _ => n - (intOf i).toNat)
    case atStart => exact ⟨0, rfl, by omega, Lib.hid (by simp), Below.refl _ _⟩
    case round =>
      obtain ⟨q, rfl, hq, he, hB⟩ := hrel
      by_cases hlt : q < n
      · obtain ⟨x, hx⟩ : ∃ c, a[q]? = some c := ⟨_, List.getElem?_eq_getElem (by omega)⟩
        obtain ⟨y, hy⟩ : ∃ c, b[q]? = some c := ⟨_, List.getElem?_eq_getElem (by omega)⟩
        have hi := str_index (P := Tryz.prog) Tryz.underlying9 hx .i64
        have hj := str_index (P := Tryz.prog) Tryz.underlying9 hy .i64
        have hxa : (a.drop q).take 1 = [x] := by rw [List.drop_eq_getElem_cons (by omega)]; rw [List.getElem?_eq_getElem (by omega)] at hx; simp [Option.some.inj hx]
        have hyb : (b.drop q).take 1 = [y] := by rw [List.drop_eq_getElem_cons (by omega)]; rw [List.getElem?_eq_getElem (by omega)] at hy; simp [Option.some.inj hy]
        have hst := @sameN_step x y
        have hlx : ∀ W, Below w.heap.size w W → Calls Tryz.prog 73 #[.string (bs [x])] W fun e w' => e = .returned (.string (bs (Lib.mapD lowF [x]))) ∧ Below w.heap.size w w' := fun W hb => (lower_any [x] W (tabs_below hT hb) (by simp)).mono fun e w' h => ⟨h.1, hb.trans (h.2.mono hb.size)⟩
        have hly : ∀ W, Below w.heap.size w W → Calls Tryz.prog 73 #[.string (bs [y])] W fun e w' => e = .returned (.string (bs (Lib.mapD lowF [y]))) ∧ Below w.heap.size w w' := fun W hb => (lower_any [y] W (tabs_below hT hb) (by simp)).mono fun e w' h => ⟨h.1, hb.trans (h.2.mono hb.size)⟩
        have hok : small x = small y → Hid ((a.take (q + 1)).map small = (b.take (q + 1)).map small) := fun h => Lib.hid (by rw [take_succ_of hx, take_succ_of hy, List.map_append, List.map_append, he.out]; simp [h])
        have hno : small x ≠ small y → Hid (sameN a b = false) := fun h => Lib.hid (sameN_no hx hy h)
        clear hx hy he
        have f0 : (0 : Int) ≤ (q : Int) := by omega
        have f1 : (0 : Int) ≤ (q : Int) + 1 := by omega
        have f2 : (q : Int) ≤ (q : Int) + 1 := by omega
        have f3 : (q : Int) + 1 ≤ (n : Int) := by omega
        have f4 : IntKind.i64.wrap ((q : Int) + 1) = (q : Int) + 1 := by rw [IntKind.wrap_i64]; omega
        generalize Lib.mapD lowF [x] = mx at *
        generalize Lib.mapD lowF [y] = my at *
        by_cases h1 : x = y
        · have hbb : ((x.toNat : Int) != (y.toNat : Int)) = false := by rw [bne_eq_false_iff_eq, h1]
          have hok := hok (by rw [h1])
          clear hlx hly hst hno h1
          go_wp2_with fail
          go_quiet (fail)
          go_wp2_with fail
          go_roundw
          case rel => exact ⟨q + 1, by go_num, by omega, hok, hB.trans (Dn.below (Dn.of _ _) _ |>.mono hB.size)⟩
          case measure => simp [intOf]; omega
        · have hbb : ((x.toNat : Int) != (y.toNat : Int)) = true := by rw [bne_iff_ne]; exact fun h => h1 (u8_eq.1 h)
          by_cases h2 : mx = my
          · have h2b : (mx == my) = true := by simp [h2]
            by_cases h3 : x.toNat < 128
            · have hok := hok (hst.2 (.inr ⟨h2, h3⟩))
              have h3i : ¬ (128 : Int) ≤ (x.toNat : Int) := by omega
              have h3b : decide ((128 : Int) ≤ (x.toNat : Int)) = false := decide_eq_false h3i
              clear hst hno h1 h2 h3
              go_wp2_with fail
              go_region_held3 (fun w' => Below w.heap.size w w') (first | assumption | exact Below.drew (by assumption))
                (first
                | (go_at_call 73; (try simp only [hxa]); refine (hlx _ (by assumption)).mono ?_; rintro e w2 ⟨rfl, hB2⟩)
                | (go_at_call 73; (try simp only [hyb]); refine (hly _ (by assumption)).mono ?_; rintro e w3 ⟨rfl, hB3⟩))
              all_goals
                go_wp2_with fail
                go_roundw
                case rel => exact ⟨q + 1, by go_num, by omega, hok, by first | assumption | exact Below.drew (by assumption)⟩
                case measure => simp [intOf]; omega
            · have hno := hno (fun h => by rcases hst.1 h with h | h; exact h1 h; exact h3 h.2)
              have h3i : (128 : Int) ≤ (x.toNat : Int) := by omega
              clear hst hok h1 h2 h3
              go_wp2_with fail
              go_region_held3 (fun w' => Below w.heap.size w w') (first | assumption | exact Below.drew (by assumption))
                (first
                | (go_at_call 73; (try simp only [hxa]); refine (hlx _ (by assumption)).mono ?_; rintro e w2 ⟨rfl, hB2⟩)
                | (go_at_call 73; (try simp only [hyb]); refine (hly _ (by assumption)).mono ?_; rintro e w3 ⟨rfl, hB3⟩))
              all_goals
                go_wp2_with fail
                go_ret
                exact ⟨ret_bool hno.out.symm, by first | assumption | exact Below.drew (by assumption)⟩
          · have h2b : (mx == my) = false := by simp [h2]
            have hno := hno (fun h => by rcases hst.1 h with h | h; exact h1 h; exact h2 h.1)
            clear hst hok h1 h2
            go_wp2_with fail
            first
            | (go_region_held_law (fun w' => Below w.heap.size w w') (first | assumption | exact Below.drew (by assumption))
              (first
              | (go_at_call 73; (try simp only [hxa]); refine (hlx _ (by assumption)).mono ?_; rintro e w2 ⟨rfl, hB2⟩)
              | (go_at_call 73; (try simp only [hyb]); refine (hly _ (by assumption)).mono ?_; rintro e w3 ⟨rfl, hB3⟩)))
            | fail
            all_goals
              go_wp2_with fail
              go_ret
              exact ⟨ret_bool hno.out.symm, by first | assumption | exact Below.drew (by assumption)⟩
      · obtain rfl : q = n := by omega
        have hall : sameN a b = true := by
          have := he.out
          rw [take_all a (by omega), take_all b (by omega)] at this
          unfold sameN
          rw [decide_eq_true_iff]
          exact this
        have HR := Lib.hid hall
        clear hall
        go_wp2_with fail
        go_ret
        exact ⟨ret_bool HR.out.symm, hB⟩
  · have hno := Lib.hid (sameN_len hl)
    have hbb : ((a.length : Int) != (b.length : Int)) = true := by rw [bne_iff_ne]; omega
    go_enter Tryz.func43, Tryz.ntmps43
    go_wp2_with fail
    go_ret
    exact ⟨ret_bool hno.out.symm, Below.refl _ _⟩
end Go.Proofs.YtcagkoakbdbbaaaGreatDoor

namespace Go.Proofs.YtcagkoakbdbbaaaGreatDoor
set_option linter.unusedVariables false
set_option linter.unusedSimpArgs false
open Go.RowKit

/-- the code field's name -/
def cteC : List UInt8 := [67, 111, 110, 116, 101, 110, 116, 45, 84, 114, 97, 110, 115, 102, 101, 114, 45, 69, 110, 99, 111, 100, 105, 110, 103]
theorem nameL_lt {f : List UInt8} (h : nameL f ≠ []) : (nameL f).length + 1 ≤ f.length := by
  unfold nameL at *
  cases hc : cutAt 58 (textL ((fl f).headD [])) with
  | none => rw [hc] at h; exact absurd rfl h
  | some p =>
    have h1 := (cutAt_some (a := p.1) (b := p.2) (by rw [hc])).1
    have h2 := congrArg List.length h1
    rw [List.length_append, List.length_cons] at h2
    have h3 := textL_len ((fl f).headD [])
    have h4 : ((fl f).headD []).length ≤ f.length := by
      cases hf : fl f with
      | nil => simp
      | cons a r =>
        have h5 := congrArg List.length (fl_flat f)
        rw [hf, List.flatten_cons, List.length_append] at h5
        simp
        omega
    show p.1.length + 1 ≤ f.length
    omega
theorem same_ne {a b : List UInt8} (h : sameN a b = true) (hb : b ≠ []) : a ≠ [] := by
  rintro rfl
  unfold sameN at h
  rw [decide_eq_true_eq] at h
  have := congrArg List.length h
  simp at this
  exact hb (List.eq_nil_of_length_eq_zero this.symm)

set_option maxRecDepth 100000 in
set_option maxHeartbeats 2000000 in
theorem armored_any (Af Ae Ab : Option Addr) (fs : List (List UInt8)) (B n cf ce cb m k : Nat) (w : World) (hT : Lib.Utf8Tabs 3 4 w) (hF : FR w B (.slice Af n cf) fs) (hn : n ≤ 1000000) (hl : ∀ f ∈ fs, f.length ≤ 1000000) :
    Calls Tryz.prog 44 #[.agg #[.slice Af n cf, .slice Ae m ce, .slice Ab k cb]] w fun e w' => (∃ q, e = .returned (.bool q)) ∧ Below w.heap.size w w' := by
  have hb0 : Below w.heap.size w (w.alloc (.cells #[.slice Af n cf, .slice Ae m ce, .slice Ab k cb] 49)) := (Below.refl _ _).alloc (Nat.le_refl _) _
  have r0 := (Row.new w #[.slice Af n cf, .slice Ae m ce, .slice Ab k cb] 49).cell (j := 0) rfl
  have HLL := Lib.hid hl
  clear hl
  obtain ⟨vs, ho, he⟩ := hF
  obtain ⟨_, _, e9, hnc, _, _, _⟩ := own_form ho
  cases e9
  have HE := Lib.hid he
  have hvl : vs.length = fs.length := by have := ho.1; omega
  obtain ⟨nf, hnf⟩ : ∃ nf, fs.length = nf := ⟨_, rfl⟩
  have HNF := Lib.hid hnf
  rw [hnf] at ho hn hnc hvl r0 hb0 ⊢
  clear hnf he
  go_enter Tryz.func44, Tryz.ntmps44
  go_wp2_with fail
  go_loopw [8] (fun s8 wr => ∃ i : Nat, s8 = .int .i64 i ∧ i ≤ nf ∧ Below w.heap.size w wr) (fun s8 _ => nf - (intOf s8).toNat)
  case atStart => exact ⟨0, rfl, by omega, hb0⟩
  case round =>
    obtain ⟨i, rfl, hi, hB⟩ := hrel
    by_cases hlt : i < nf
    · obtain ⟨f, hf⟩ : ∃ f, fs[i]? = some f := ⟨_, List.getElem?_eq_getElem (by rw [HNF.out]; exact hlt)⟩
      obtain ⟨bz, oz, cz, hvz, hzc, hz0, hRz, _⟩ := HE.out i f hf
      have hfl := HLL.out f (List.mem_of_getElem? hf)
      obtain ⟨_, _, e9, _, _, hRv, _⟩ := own_form (own_below ho hB)
      cases e9
      obtain ⟨bg, og, x9, rfl, hx9, hcg⟩ := hRv.one (k := i) (by omega)
      have hx10 := hx9.out
      rw [hvz] at hx10
      cases hx10
      obtain ⟨fn, hfn⟩ : ∃ fn, f.length = fn := ⟨_, rfl⟩
      have hfn0 : 0 < fn := by rw [← hfn]; exact List.length_pos_iff.2 hz0
      have hnm : ∀ W, Below w.heap.size w W → Calls Tryz.prog 41 #[.slice (some ⟨bz, oz, none⟩) fn cz] W fun e w' => e = .returned (.string (bs (nameL f))) ∧ Below W.heap.size W w' := fun W hW => name_any bz oz f fn cz W hfn (hRz.below hW) (by omega) (by omega) hfn0
      have hln := nameL_len f
      have hlt2 : nameL f ≠ [] → (nameL f).length + 1 ≤ fn := fun h => by rw [← hfn]; exact nameL_lt h
      rw [hfn] at hcg hzc hfl hln
      have HFN := Lib.hid hfn
      obtain ⟨nm, hnme⟩ : ∃ nm, nameL f = nm := ⟨_, rfl⟩
      rw [hnme] at hnm hln hlt2
      clear hf hx9 hvz hfn hnme hRv
      go_wp2_with fail
      refine (hnm _ hB).mono ?_
      rintro e w2 ⟨rfl, hb2⟩
      have hB2 := hB.trans (hb2.mono hB.size)
      have hfs := fsame_any nm cteC w2 (tabs_below hT hB2) (by omega) (by decide)
      go_wp2_with fail
      refine hfs.mono ?_
      rintro e w3 ⟨rfl, hb3⟩
      have hB3 := hB2.trans (hb3.mono hB2.size)
      cases hq : sameN nm cteC with
      | false =>
        clear hq hlt2 hfs
        go_wp2_with fail
        go_roundw
        case rel => exact ⟨i + 1, by go_num, by omega, hB3⟩
        case measure => simp [intOf]; omega
      | true =>
        have hle := hlt2 (same_ne hq (by decide))
        obtain ⟨ln, hlnn⟩ : ∃ ln, nm.length = ln := ⟨_, rfl⟩
        have hbsl : (bs nm).size = ln := by rw [bs_size]; exact hlnn
        rw [hlnn] at hle
        obtain ⟨A6, hsl, hrs⟩ := slf_any (some ⟨bz, oz, none⟩) fn cz (ln + 1) hle hzc
        have hsl2 : ∀ K W, (Instr.slice 22 (.slice (some ⟨bz, oz, none⟩) fn cz) (some (.int K ((ln : Int) + 1))) none none).run Tryz.prog W = .ok (.slice A6 (fn - (ln + 1)) (cz - (ln + 1))) W := fun K W => by
          have h := hsl K W
          rwa [Int.natCast_add] at h
        clear hq hlt2 hfs hsl
        go_wp2_with fail
        refine (hnm _ hB3).mono ?_
        rintro e w4 ⟨rfl, hb4⟩
        have hB4 := hB3.trans (hb4.mono hB3.size)
        have hsq := squeezed_any A6 (f.drop (ln + 1)) (fn - (ln + 1)) (cz - (ln + 1)) w4 (tabs_below hT hB4) (by rw [List.length_drop, HFN.out]) (hrs w4 f HFN.out (hRz.below hB4)) (by omega)
        go_wp2_with fail
        refine hsq.mono ?_
        rintro e w5 ⟨rfl, hb5⟩
        go_wp2_with fail
        go_ret
        exact ⟨⟨_, rfl⟩, hB4.trans (hb5.mono hB4.size)⟩
    · obtain rfl : i = nf := by omega
      go_wp2_with fail
      go_ret
      exact ⟨⟨_, rfl⟩, hB⟩
end Go.Proofs.YtcagkoakbdbbaaaGreatDoor
