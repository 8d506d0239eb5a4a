/- Whether a text may be a boundary: the program's Boundary. -/
import Derived.Test.YtfdkcgdanhlfkaaGreatDoorJ03
import Derived.Test.YtfdkcgdanhlfkaaGreatDoorChecked
import Derived.Test.YtfdkcgdanhlfkaaGreatDoorShelf
import Derived.Laws.RangeString
import Derived.Laws.Runes
import Derived.Deep.LoopGhost
import Derived.Scope
namespace Go.Proofs.YtfdkcgdanhlfkaaGreatDoor
set_option linter.unusedVariables false
set_option linter.unusedSimpArgs false
open Go.RowKit

theorem indexByte_absent {c : UInt8} : ∀ {l : List UInt8}, c ∉ l → Lib.indexByte l c = -1
  | [], _ => rfl
  | x :: r, h => by
    have h1 : (x == c) = false := by
      rw [beq_eq_false_iff_ne]
      rintro rfl
      simp at h
    have h2 := indexByte_absent (l := r) (c := c) (fun hm => h (by simp [hm]))
    simp [Lib.indexByte, h1, h2]
theorem indexByte_nonneg {c : UInt8} : ∀ {l : List UInt8}, c ∈ l → 0 ≤ Lib.indexByte l c
  | [], h => by simp at h
  | x :: r, h => by
    unfold Lib.indexByte
    split
    · omega
    · rename_i hx
      have hx' : x ≠ c := by simpa using hx
      have hr : c ∈ r := by
        rcases List.mem_cons.1 h with h | h
        · exact absurd h.symm hx'
        · exact h
      have := indexByte_nonneg hr
      split
      · rename_i h2
        simp at h2
        omega
      · omega

theorem bs_at {l : List UInt8} (k : Nat) (h : k < (bs l).size) : (bs l)[k]'h = l[k]'(by rw [bs_size] at h; exact h) := by
  have h2 : k < l.toArray.size := by rw [bs_size] at h; simpa using h
  have e : (bs l)[k]'h = l.toArray[k]'h2 := rfl
  rw [e]
  simp
theorem bs_mem {l : List UInt8} (k : Nat) (h : k < (bs l).size) : (bs l)[k]'h ∈ l := by
  rw [bs_at]
  exact List.getElem_mem _

/-- the signs that a boundary may have besides letters and digits -/
def sgn : List UInt8 := [39, 40, 41, 43, 95, 44, 45, 46, 47, 58, 61, 63]
theorem sgn_ascii : ∀ c ∈ sgn, c.toNat < 128 := by decide

set_option maxHeartbeats 2000000 in
set_option maxRecDepth 100000 in
theorem indexRune_err (w : World) :
    Calls Tryz.prog 33 #[.string (bs sgn), .int .i32 65533] w fun e w' => e = .returned (.int .i64 (-1)) ∧ Below w.heap.size w w' := by
  obtain ⟨s, hs⟩ : ∃ s, bs sgn = s := ⟨_, rfl⟩
  have hA : Hid (∀ (i : Nat) (h : i < s.size), (s[i]'h).toNat < 128) := by
    subst hs
    exact Lib.hid fun i h => sgn_ascii _ (bs_mem i h)
  rw [hs]
  clear hs
  go_enter Tryz.func33, Tryz.ntmps33
  go_wp2_with fail
  go_loopg [5, 6] s.size (fun g s5 s6 wx => ∃ i : Nat, i + g = s.size ∧ wx = w.iter s i)
  case atStart => exact ⟨0, by omega, rfl⟩
  case round =>
    obtain ⟨i, hig, rfl⟩ := hrel
    cases gk with
    | zero =>
      obtain rfl : i = s.size := by omega
      have hnx := fun ty => run_next_end (P := Tryz.prog) w s s.size ty (by omega)
      go_wp2_with fail
      go_ret
      exact ⟨rfl, (Below.refl _ _).alloc (Nat.le_refl _) _⟩
    | succ g =>
      have hi : i < s.size := by omega
      have ha := hA.out i hi
      have hnx := fun ty => run_next_ascii (P := Tryz.prog) w s i ty hi ha
      have hne : (((s[i]'hi).toNat : Int) == 65533) = false := by rw [beq_eq_false_iff_ne]; omega
      go_wp2_with fail
      go_roundg g
      case measure => omega
      case rel => exact ⟨i + 1, by omega, rfl⟩

set_option maxHeartbeats 2000000 in
set_option maxRecDepth 100000 in
theorem indexRune_no (r : Int) (h1 : 128 ≤ r) (h2 : r ≤ 1114111) (h3 : r ≠ 65533) (w : World) :
    Calls Tryz.prog 33 #[.string (bs sgn), .int .i32 r] w fun e w' => e = .returned (.int .i64 (-1)) ∧ Below w.heap.size w w' := by
  have hne : (r == 65533) = false := by simpa using h3
  have hvr : Lib.validRune r = Utf8.valid r := by
    unfold Lib.validRune Utf8.valid
    rw [Bool.eq_iff_iff]
    simp
    omega
  cases hv : Utf8.valid r with
  | false =>
    rw [hv] at hvr
    have HV := Lib.hid hvr
    clear hvr hv
    go_enter Tryz.func33, Tryz.ntmps33
    go_wp2_with fail
    refine (Tryz.utf8_ValidRune r _).mono ?_
    rintro e w' ⟨rfl, hw⟩
    rw [hw, HV.out]
    go_wp2_with fail
    go_ret
    exact ⟨rfl, Below.refl _ _⟩
  | true =>
    rw [hv] at hvr
    obtain ⟨g1, g2, g3⟩ := encode_facts r hv h1
    obtain ⟨l, hl⟩ : ∃ l, Utf8.encode r = bs l := ⟨_, (bs_of _).symm⟩
    rw [hl] at g1 g2 g3
    rw [bs_size] at g1 g2
    have hlast : l.length - 1 < l.length := by omega
    obtain ⟨x, hx⟩ : ∃ x, l[l.length - 1]? = some x := ⟨_, List.getElem?_eq_getElem hlast⟩
    have hx128 : 128 ≤ x.toNat := by
      have h := g3 (by rw [bs_size]; omega)
      rw [bs_at] at h
      simp only [bs_size] at h
      rw [List.getElem?_eq_getElem hlast] at hx
      rw [← Option.some.inj hx]
      exact h
    have HV := Lib.hid hvr
    have hab : ∀ m : List UInt8, (∀ c ∈ m, c ∈ sgn) → Lib.indexByte m x = -1 := fun m hm => indexByte_absent fun h => by
      have := sgn_ascii x (hm x h)
      omega
    have hcv : ∀ W, (convert 21 9 (.int .i32 r)).run Tryz.prog W = .ok (.string (bs l)) W := fun W => by
      rw [run_convert_int_string W _ _ .i32 r (by rw [Tryz.underlying21]; rfl) Tryz.underlying9, hl]
    have hIB : ∀ m : List UInt8, (∀ c ∈ m, c ∈ sgn) → ∀ W, Calls Tryz.prog 49 #[.string (bs m), .int .u8 (x.toNat : Int)] W fun e w' => e = .returned (.int .i64 (-1)) ∧ w' = W := fun m hm W => by
      have h := Tryz.strings_IndexByte (bs m) (x.toNat : Int) W
      have e : ((x.toNat : Int)).toNat.toUInt8 = x := by simp
      rw [e, bs_toList, hab m hm] at h
      exact h
    clear hvr hv g3 hl h3 hab
    rcases (by omega : l.length = 2 ∨ l.length = 3 ∨ l.length = 4) with h4 | h4 | h4
    · have hsl : sgn.length = 12 := rfl
      have p1 : 1 < (bs sgn).size := by rw [bs_size]; decide
      have p2 : 1 < (bs l).size := by rw [bs_size]; omega
      have hy : (bs l)[1]'p2 = x := by
        rw [bs_at]
        rw [h4, List.getElem?_eq_getElem (by omega)] at hx
        exact Option.some.inj hx
      have ht : ((((bs sgn)[1]'p1).toNat : Int) != (((bs l)[1]'p2).toNat : Int)) = true := by
        rw [bs_at, hy]
        have e : (sgn[1]'(by decide) : UInt8) = 40 := rfl
        rw [e, bne_iff_ne]
        have e2 : ((40 : UInt8).toNat : Int) = 40 := rfl
        omega
      have hI1 := hIB
      rw [← hy] at hI1
      have hwr : IntKind.i64.wrap 2 = 2 := by decide
      have hex : (bs sgn).extract 2 (bs sgn).size = bs (sgn.drop 2) := rfl
      clear hx hlast g1 g2 hIB hy
      go_enter Tryz.func33, Tryz.ntmps33
      go_wp2_with fail
      refine (Tryz.utf8_ValidRune r _).mono ?_
      rintro e w' ⟨rfl, hw⟩
      rw [hw, HV.out]
      go_wp2_with fail
      refine wp_scope_straight ?_
      go_wp2_with fail
      refine wp_loop_rounds 1 ?_
      rw [rounds_succ]
      go_wp2_with fail
      refine wp_scope_straight ?_
      go_wp2_with fail
      go_quiet (fail)
      rename_i nq
      obtain ⟨w2, hw2⟩ : ∃ w2, w.drewN nq = w2 := ⟨_, rfl⟩
      have hb2 : Below w.heap.size w w2 := by rw [← hw2]; exact (Dn.of w nq).below _
      rw [hw2]
      clear hw2
      go_wp2_with fail
      go_quiet ((go_at_call 49; exact Calls.quiet_of_same (hI1 (List.take 10 (List.drop 2 sgn)) (fun c hc => List.mem_of_mem_drop (List.mem_of_mem_take hc)) _)))
      go_wp2_with fail
      simp only [Exit.noGoto, Exit.inBlock, Exit.then]
      go_ret
      exact ⟨rfl, hb2.trans ((Dn.of w2 _).below _)⟩
    · have hsl : sgn.length = 12 := rfl
      have p1 : 2 < (bs sgn).size := by rw [bs_size]; decide
      have p2 : 2 < (bs l).size := by rw [bs_size]; omega
      have hy : (bs l)[2]'p2 = x := by
        rw [bs_at]
        rw [h4, List.getElem?_eq_getElem (by omega)] at hx
        exact Option.some.inj hx
      have ht : ((((bs sgn)[2]'p1).toNat : Int) != (((bs l)[2]'p2).toNat : Int)) = true := by
        rw [bs_at, hy]
        have e : (sgn[2]'(by decide) : UInt8) = 41 := rfl
        rw [e, bne_iff_ne]
        have e2 : ((41 : UInt8).toNat : Int) = 41 := rfl
        omega
      have hI1 := hIB
      rw [← hy] at hI1
      have hwr : IntKind.i64.wrap 3 = 3 := by decide
      have hex : (bs sgn).extract 3 (bs sgn).size = bs (sgn.drop 3) := rfl
      clear hx hlast g1 g2 hIB hy
      go_enter Tryz.func33, Tryz.ntmps33
      go_wp2_with fail
      refine (Tryz.utf8_ValidRune r _).mono ?_
      rintro e w' ⟨rfl, hw⟩
      rw [hw, HV.out]
      go_wp2_with fail
      refine wp_scope_straight ?_
      go_wp2_with fail
      refine wp_loop_rounds 1 ?_
      rw [rounds_succ]
      go_wp2_with fail
      refine wp_scope_straight ?_
      go_wp2_with fail
      go_quiet (fail)
      rename_i nq
      obtain ⟨w2, hw2⟩ : ∃ w2, w.drewN nq = w2 := ⟨_, rfl⟩
      have hb2 : Below w.heap.size w w2 := by rw [← hw2]; exact (Dn.of w nq).below _
      rw [hw2]
      clear hw2
      go_wp2_with fail
      go_quiet ((go_at_call 49; exact Calls.quiet_of_same (hI1 (List.take 9 (List.drop 3 sgn)) (fun c hc => List.mem_of_mem_drop (List.mem_of_mem_take hc)) _)))
      go_wp2_with fail
      simp only [Exit.noGoto, Exit.inBlock, Exit.then]
      go_ret
      exact ⟨rfl, hb2.trans ((Dn.of w2 _).below _)⟩
    · have hsl : sgn.length = 12 := rfl
      have p1 : 3 < (bs sgn).size := by rw [bs_size]; decide
      have p2 : 3 < (bs l).size := by rw [bs_size]; omega
      have hy : (bs l)[3]'p2 = x := by
        rw [bs_at]
        rw [h4, List.getElem?_eq_getElem (by omega)] at hx
        exact Option.some.inj hx
      have ht : ((((bs sgn)[3]'p1).toNat : Int) != (((bs l)[3]'p2).toNat : Int)) = true := by
        rw [bs_at, hy]
        have e : (sgn[3]'(by decide) : UInt8) = 43 := rfl
        rw [e, bne_iff_ne]
        have e2 : ((43 : UInt8).toNat : Int) = 43 := rfl
        omega
      have hI1 := hIB
      rw [← hy] at hI1
      have hwr : IntKind.i64.wrap 4 = 4 := by decide
      have hex : (bs sgn).extract 4 (bs sgn).size = bs (sgn.drop 4) := rfl
      clear hx hlast g1 g2 hIB hy
      go_enter Tryz.func33, Tryz.ntmps33
      go_wp2_with fail
      refine (Tryz.utf8_ValidRune r _).mono ?_
      rintro e w' ⟨rfl, hw⟩
      rw [hw, HV.out]
      go_wp2_with fail
      refine wp_scope_straight ?_
      go_wp2_with fail
      refine wp_loop_rounds 1 ?_
      rw [rounds_succ]
      go_wp2_with fail
      refine wp_scope_straight ?_
      go_wp2_with fail
      go_quiet (fail)
      rename_i nq
      obtain ⟨w2, hw2⟩ : ∃ w2, w.drewN nq = w2 := ⟨_, rfl⟩
      have hb2 : Below w.heap.size w w2 := by rw [← hw2]; exact (Dn.of w nq).below _
      rw [hw2]
      clear hw2
      go_wp2_with fail
      go_quiet ((go_at_call 49; exact Calls.quiet_of_same (hI1 (List.take 8 (List.drop 4 sgn)) (fun c hc => List.mem_of_mem_drop (List.mem_of_mem_take hc)) _)))
      go_wp2_with fail
      simp only [Exit.noGoto, Exit.inBlock, Exit.then]
      go_ret
      exact ⟨rfl, hb2.trans ((Dn.of w2 _).below _)⟩
end Go.Proofs.YtfdkcgdanhlfkaaGreatDoor
