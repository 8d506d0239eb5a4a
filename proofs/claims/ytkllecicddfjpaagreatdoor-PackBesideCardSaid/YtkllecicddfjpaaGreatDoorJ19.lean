/- Whether two names are one: field's own test. · The reader of a head: a line. · A head that is read, in plain words. -/
import Derived.Test.YtkllecicddfjpaaGreatDoorJ18
import Derived.Deep.RegionHeld3
import Derived.Deep.RegionHeldLaw
import Derived.Test.YtkllecicddfjpaaGreatDoorJ17
import Derived.Test.YtkllecicddfjpaaGreatDoorJ03
namespace Go.Proofs.YtkllecicddfjpaaGreatDoor
namespace Fd
set_option linter.unusedVariables false
set_option linter.unusedSimpArgs false
open Go.RowKit Go.Shelf

/-- a small letter, as a rune -/
def lowF (x : Int) : Int := if 65 ≤ x ∧ x ≤ 90 then x + 32 else x
theorem lowF_one (c : UInt8) : Lib.mapD lowF [c] = if c.toNat < 128 then [small c] else [239, 191, 189] := by
  have key : ∀ n : Fin 256, Lib.mapD lowF [UInt8.ofNat n.1] = if n.1 < 128 then [small (UInt8.ofNat n.1)] else [239, 191, 189] := by decide +kernel
  have := key ⟨c.toNat, c.toNat_lt⟩
  simpa using this
set_option maxHeartbeats 400000 in
theorem lower1_any (x : Nat) (w : World) (hx : x ≤ 1114111) :
    Calls Tryz.prog 238 #[.int .i32 (x : Int)] w fun e w' => e = .returned (.int .i32 (lowF x)) ∧ Below w.heap.size w w' := by
  unfold lowF
  rcases (by omega : (65 ≤ x ∧ x ≤ 90) ∨ x < 65 ∨ (65 ≤ x ∧ 90 < x)) with ⟨h1, h2⟩ | h1 | ⟨h1, h2⟩
  · rw [if_pos ⟨by omega, by omega⟩]
    go_enter Tryz.func238, Tryz.ntmps238
    go_wp2_with fail
    go_ret
    exact ⟨ret_int (by go_num), Below.refl _ _⟩
  all_goals
    rw [if_neg (by omega)]
    go_enter Tryz.func238, Tryz.ntmps238
    go_wp2_with fail
    go_ret
    exact ⟨ret_int (by go_num), Below.refl _ _⟩
theorem eg_lower : ∀ args w, (callFunc 238 args).run Tryz.prog w = .ok (.enter 238 args) w := enters_of Tryz.func238 (by kernel_rfl) rfl
set_option maxHeartbeats 400000 in
theorem lower_any (l : List UInt8) (w : World) (hT : Lib.Utf8Tabs 2 3 w) (hl : l.length ≤ 1000000000) :
    Calls Tryz.prog 209 #[.string (bs l)] w fun e w' => e = .returned (.string (bs (Lib.mapD lowF l))) ∧ Below w.heap.size w w' := by
  have h := Tryz.strings_Map_grows 238 #[] eg_lower lowF (bs l) w (by rw [bs_size]; omega) (fun W x hx _ => lower1_any x W hx) (fun x hx => by unfold lowF; split <;> omega) hT
  rw [bs_toList] at h
  have h2 : Calls Tryz.prog 237 #[.func (.func 238) #[] #[], .string (bs l)] w fun e w' => e = .returned (.string (bs (Lib.mapD lowF l))) ∧ Below w.heap.size w w' := h
  clear h
  generalize Lib.mapD lowF l = m at *
  go_enter Tryz.func209, Tryz.ntmps209
  go_wp2_with fail
  refine h2.mono ?_
  rintro e w' ⟨rfl, hb⟩
  go_wp2_with fail
  go_ret
  exact ⟨rfl, hb⟩

theorem small_128 (c : UInt8) : (small c).toNat < 128 ↔ c.toNat < 128 := by
  rw [small_nat]
  split <;> omega
theorem sameN_step {x y : UInt8} : small x = small y ↔ (x = y ∨ (Lib.mapD lowF [x] = Lib.mapD lowF [y] ∧ x.toNat < 128)) := by
  rw [lowF_one, lowF_one]
  have hx := small_128 x
  have hy := small_128 y
  constructor
  · intro e
    by_cases h : x.toNat < 128
    · have h2 : y.toNat < 128 := by rw [← hy, ← e, hx]; exact h
      rw [if_pos h, if_pos h2, e]
      exact .inr ⟨rfl, h⟩
    · left
      have h2 : ¬ y.toNat < 128 := by rw [← hy, ← e, hx]; exact h
      have e1 := small_nat x
      have e2 := small_nat y
      rw [if_neg (by omega)] at e1 e2
      exact UInt8.toNat_inj.1 (by rw [← e1, ← e2, e])
  · rintro (rfl | ⟨e, h⟩)
    · rfl
    · rw [if_pos h] at e
      by_cases h2 : y.toNat < 128
      · rw [if_pos h2] at e
        simpa using e
      · rw [if_neg h2] at e
        simp at e

set_option maxRecDepth 100000 in
set_option maxHeartbeats 2000000 in
theorem fsame_any (a b : List UInt8) (w : World) (hT : Lib.Utf8Tabs 2 3 w) (ha : a.length ≤ 1000000000) (hb : b.length ≤ 1000000000) :
    Calls Tryz.prog 160 #[.string (bs a), .string (bs b)] w fun e w' => e = .returned (.bool (sameN a b)) ∧ Below w.heap.size w w' := by
  by_cases hl : a.length = b.length
  · obtain ⟨n, hn⟩ : ∃ n, a.length = n := ⟨_, rfl⟩
    have hm : b.length = n := by omega
    rw [hn] at ha
    go_enter Tryz.func160, Tryz.ntmps160
    go_wp2_with fail
    go_loopw [13] (fun i wr => ∃ q : Nat, i = .int .i64 q ∧ q ≤ n ∧ Hid ((a.take q).map small = (b.take q).map small) ∧ Below w.heap.size w wr) (fun i _ => n - (intOf i).toNat)
    case atStart => exact ⟨0, rfl, by omega, Lib.hid (by simp), Below.refl _ _⟩
    case round =>
      obtain ⟨q, rfl, hq, he, hB⟩ := hrel
      by_cases hlt : q < n
      · obtain ⟨x, hx⟩ : ∃ c, a[q]? = some c := ⟨_, List.getElem?_eq_getElem (by omega)⟩
        obtain ⟨y, hy⟩ : ∃ c, b[q]? = some c := ⟨_, List.getElem?_eq_getElem (by omega)⟩
        have hi := str_index (P := Tryz.prog) Tryz.underlying9 hx .i64
        have hj := str_index (P := Tryz.prog) Tryz.underlying9 hy .i64
        have hxa : (a.drop q).take 1 = [x] := by rw [List.drop_eq_getElem_cons (by omega)]; rw [List.getElem?_eq_getElem (by omega)] at hx; simp [Option.some.inj hx]
        have hyb : (b.drop q).take 1 = [y] := by rw [List.drop_eq_getElem_cons (by omega)]; rw [List.getElem?_eq_getElem (by omega)] at hy; simp [Option.some.inj hy]
        have hst := @sameN_step x y
        have hlx : ∀ W, Below w.heap.size w W → Calls Tryz.prog 209 #[.string (bs [x])] W fun e w' => e = .returned (.string (bs (Lib.mapD lowF [x]))) ∧ Below w.heap.size w w' := fun W hb => (lower_any [x] W (tabs_below hT hb) (by simp)).mono fun e w' h => ⟨h.1, hb.trans (h.2.mono hb.size)⟩
        have hly : ∀ W, Below w.heap.size w W → Calls Tryz.prog 209 #[.string (bs [y])] W fun e w' => e = .returned (.string (bs (Lib.mapD lowF [y]))) ∧ Below w.heap.size w w' := fun W hb => (lower_any [y] W (tabs_below hT hb) (by simp)).mono fun e w' h => ⟨h.1, hb.trans (h.2.mono hb.size)⟩
        have hok : small x = small y → Hid ((a.take (q + 1)).map small = (b.take (q + 1)).map small) := fun h => Lib.hid (by rw [take_succ_of hx, take_succ_of hy, List.map_append, List.map_append, he.out]; simp [h])
        have hno : small x ≠ small y → Hid (sameN a b = false) := fun h => Lib.hid (sameN_no hx hy h)
        clear hx hy he
        have f0 : (0 : Int) ≤ (q : Int) := by omega
        have f1 : (0 : Int) ≤ (q : Int) + 1 := by omega
        have f2 : (q : Int) ≤ (q : Int) + 1 := by omega
        have f3 : (q : Int) + 1 ≤ (n : Int) := by omega
        have f4 : IntKind.i64.wrap ((q : Int) + 1) = (q : Int) + 1 := by rw [IntKind.wrap_i64]; omega
        generalize Lib.mapD lowF [x] = mx at *
        generalize Lib.mapD lowF [y] = my at *
        by_cases h1 : x = y
        · have hbb : ((x.toNat : Int) != (y.toNat : Int)) = false := by rw [bne_eq_false_iff_eq, h1]
          have hok := hok (by rw [h1])
          clear hlx hly hst hno h1
          go_wp2_with fail
          go_quiet (fail)
          go_wp2_with fail
          go_roundw
          case rel => exact ⟨q + 1, by go_num, by omega, hok, hB.trans (Dn.below (Dn.of _ _) _ |>.mono hB.size)⟩
          case measure => simp [intOf]; omega
        · have hbb : ((x.toNat : Int) != (y.toNat : Int)) = true := by rw [bne_iff_ne]; exact fun h => h1 (u8_eq.1 h)
          by_cases h2 : mx = my
          · have h2b : (mx == my) = true := by simp [h2]
            by_cases h3 : x.toNat < 128
            · have hok := hok (hst.2 (.inr ⟨h2, h3⟩))
              have h3i : ¬ (128 : Int) ≤ (x.toNat : Int) := by omega
              have h3b : decide ((128 : Int) ≤ (x.toNat : Int)) = false := decide_eq_false h3i
              clear hst hno h1 h2 h3
              go_wp2_with fail
              go_region_held3 (fun w' => Below w.heap.size w w') (first | assumption | exact Below.drew (by assumption))
                (first
                | (go_at_call 209; (try simp only [hxa]); refine (hlx _ (by assumption)).mono ?_; rintro e w2 ⟨rfl, hB2⟩)
                | (go_at_call 209; (try simp only [hyb]); refine (hly _ (by assumption)).mono ?_; rintro e w3 ⟨rfl, hB3⟩))
              all_goals
                go_wp2_with fail
                go_roundw
                case rel => exact ⟨q + 1, by go_num, by omega, hok, by first | assumption | exact Below.drew (by assumption)⟩
                case measure => simp [intOf]; omega
            · have hno := hno (fun h => by rcases hst.1 h with h | h; exact h1 h; exact h3 h.2)
              have h3i : (128 : Int) ≤ (x.toNat : Int) := by omega
              clear hst hok h1 h2 h3
              go_wp2_with fail
              go_region_held3 (fun w' => Below w.heap.size w w') (first | assumption | exact Below.drew (by assumption))
                (first
                | (go_at_call 209; (try simp only [hxa]); refine (hlx _ (by assumption)).mono ?_; rintro e w2 ⟨rfl, hB2⟩)
                | (go_at_call 209; (try simp only [hyb]); refine (hly _ (by assumption)).mono ?_; rintro e w3 ⟨rfl, hB3⟩))
              all_goals
                go_wp2_with fail
                go_ret
                exact ⟨ret_bool hno.out.symm, by first | assumption | exact Below.drew (by assumption)⟩
          · have h2b : (mx == my) = false := by simp [h2]
            have hno := hno (fun h => by rcases hst.1 h with h | h; exact h1 h; exact h2 h.1)
            clear hst hok h1 h2
            go_wp2_with fail
            first
            | (go_region_held_law (fun w' => Below w.heap.size w w') (first | assumption | exact Below.drew (by assumption))
              (first
              | (go_at_call 209; (try simp only [hxa]); refine (hlx _ (by assumption)).mono ?_; rintro e w2 ⟨rfl, hB2⟩)
              | (go_at_call 209; (try simp only [hyb]); refine (hly _ (by assumption)).mono ?_; rintro e w3 ⟨rfl, hB3⟩)))
            | fail
            all_goals
              go_wp2_with fail
              go_ret
              exact ⟨ret_bool hno.out.symm, by first | assumption | exact Below.drew (by assumption)⟩
      · obtain rfl : q = n := by omega
        have hall : sameN a b = true := by
          have := he.out
          rw [take_all a (by omega), take_all b (by omega)] at this
          unfold sameN
          rw [decide_eq_true_iff]
          exact this
        have HR := Lib.hid hall
        clear hall
        go_wp2_with fail
        go_ret
        exact ⟨ret_bool HR.out.symm, hB⟩
  · have hno := Lib.hid (sameN_len hl)
    have hbb : ((a.length : Int) != (b.length : Int)) = true := by rw [bne_iff_ne]; omega
    go_enter Tryz.func160, Tryz.ntmps160
    go_wp2_with fail
    go_ret
    exact ⟨ret_bool hno.out.symm, Below.refl _ _⟩
end Fd
end Go.Proofs.YtkllecicddfjpaaGreatDoor

namespace Go.Proofs.YtkllecicddfjpaaGreatDoor
namespace Fd
set_option linter.unusedVariables false
set_option linter.unusedSimpArgs false
open Go.RowKit

theorem grown_trans {w w1 w2 : World} {g : Nat} {row : Option Nat} (h : w.grownBy w1 (some g)) (k : w1.grownBy w2 row) (hr : ∀ j, row = some j → j = g ∨ w.heap.size ≤ j) : w.grownBy w2 (some g) :=
  ⟨k.os.trans h.os, k.tape.trans h.tape, k.output.trans h.output, Nat.le_trans h.size k.size, fun j hj hne => (k.block j (Nat.lt_of_lt_of_le hj h.size) (fun e => by
    rcases hr j e.symm with rfl | h2
    · exact hne rfl
    · omega)).trans (h.block j hj hne)⟩
theorem grown_below {w w1 w2 : World} {g : Nat} (h : w.grownBy w1 (some g)) (k : Below w1.heap.size w1 w2) : w.grownBy w2 (some g) := grown_trans h (grown_of_below k none) (by simp)
theorem below_grown {N : Nat} {w w1 : World} {g : Nat} (h : w.grownBy w1 (some g)) (hN : N ≤ g) (hs : N ≤ w.heap.size) : Below N w w1 :=
  ⟨h.os, h.tape, h.output, h.size, fun j hj => h.block j (by omega) (fun e => by have := Option.some.inj e; omega)⟩

theorem mark_cell (w : World) (x : Value) (t : TypeId) : (w.alloc (.cells #[x] t (1, 2))).cell? ⟨w.heap.size, 0, none⟩ = some x := by
  have hh : (w.alloc (.cells #[x] t (1, 2))).heap[w.heap.size]? = some (.cells #[x] t (1, 2)) := World.alloc_heap_new w _
  simp only [World.cell?, hh]
  rfl
/-- the reader, as its block holds it -/
abbrev Rd (w : World) (g : Nat) (rest fields : Value) : Prop := Row w g 124 [rest, fields]
theorem Rd.apart {w : World} {g : Nat} {r f : Value} (h : Rd w g r f) (hr : ∀ k z, r ≠ .int k z) (hf : ∀ k z, f ≠ .int k z) {A : Option Addr} {l : List UInt8} (hA : Rb w A l) (hl : 0 < l.length) : ∃ b o, A = some ⟨b, o, none⟩ ∧ b ≠ g := by
  obtain ⟨b, o, x, rfl, _, hc⟩ := hA.one hl
  refine ⟨b, o, rfl, ?_⟩
  rintro rfl
  simp only [World.cell?, show w.heap[b]? = _ from h] at hc
  match ho : o + 0 with
  | 0 => rw [ho] at hc; simp at hc; exact hr _ _ hc
  | 1 => rw [ho] at hc; simp at hc; exact hf _ _ hc
  | k + 2 => rw [ho] at hc; simp at hc
theorem _root_.Go.Proofs.YtkllecicddfjpaaGreatDoor.Rb.grown {w w1 : World} {g : Nat} {A : Option Addr} {l : List UInt8} (hA : Rb w A l) (hg : w.grownBy w1 (some g)) (hne : 0 < l.length → ∃ b o, A = some ⟨b, o, none⟩ ∧ b ≠ g) : Rb w1 A l := fun hp => by
  obtain ⟨b, o, rfl, hc⟩ := hA hp
  obtain ⟨b', o', e, hb⟩ := hne (by simpa using hp)
  cases e
  exact ⟨b, o, rfl, fun j v hj => hg.cell (hc j v hj) (fun e => hb (Option.some.inj e))⟩

/-- what a line's reading answers -/
def LineOut (g : Nat) (A : Option Addr) (l : List UInt8) (n c : Nat) (fv : Value) (e : Ending) (w' : World) : Prop :=
  match cutAt 10 l with
  | some (a, b) => ∃ B d, e = .returned (.tuple #[.slice A (deCr a).length c, .bool true]) ∧ Rd w' g (.slice B b.length d) fv ∧ Rb w' A (deCr a) ∧ Rb w' B b ∧ b.length ≤ d ∧ Pl B d ∧ SB A B
  | none => e = .returned (.tuple #[.slice A (deCr l).length c, .bool false]) ∧ Rd w' g (.slice A n c) fv

set_option maxRecDepth 100000 in
set_option maxHeartbeats 1000000 in
theorem line_any (g : Nat) (A : Option Addr) (l : List UInt8) (n c : Nat) (fv : Value) (w : World) (hn : l.length = n) (hR : Rd w g (.slice A n c) fv) (hf : ∀ k z, fv ≠ .int k z) (hA : Rb w A l) (hnc : n ≤ c) (hpl : Pl A c) (hb : n ≤ 100000000) :
    Calls Tryz.prog 84 #[.pointer (some ⟨g, 0, none⟩)] w fun e w' => LineOut g A l n c fv e w' ∧ w.grownBy w' (some g) := by
  have c0 : w.cell? ⟨g, 0, none⟩ = some (.slice A n c) := hR.cell rfl
  have kc := fun (w : World) (C : Array Value) (n c : Nat) => Lib.run_convert_bytes_const (P := Tryz.prog) w 22 5 C n c Tryz.underlying22 Tryz.underlying5
  have HR := Lib.hid hR
  clear hR
  go_enter Tryz.func84, Tryz.ntmps84
  go_wp2_with fail
  have hb1 : Below w.heap.size w (w.alloc (.cells #[.int .u8 10] 5 (1, 2))) := (Below.refl _ _).alloc (Nat.le_refl _) _
  have hs10 : (w.alloc (.cells #[.int .u8 10] 5 (1, 2))).cell? ⟨w.heap.size, 0, none⟩ = some (bv 10) := mark_cell _ _ _
  refine (cut_any A l n c w.heap.size 0 1 10 _ hn (hA.below hb1) hnc hpl hs10 (by omega)).mono ?_
  rintro e w2 ⟨hcut, hd⟩
  have hb2 := hb1.trans ((hd.below _).mono hb1.size)
  have hR2 : Rd w2 g (.slice A n c) fv := HR.out.below hb2
  have hA2 := hA.below hb2
  have c2 : w2.cell? ⟨g, 0, none⟩ = some (.slice A n c) := hR2.cell rfl
  have z2 : w2.frozen? ⟨g, 0, none⟩ = false := hR2.frozen 0
  have hg2 : w.grownBy w2 (some g) := grown_of_below hb2 _
  unfold CutOut at hcut
  cases hc : cutAt 10 l with
  | none =>
    rw [hc] at hcut
    subst hcut
    have hb3 : Below w2.heap.size w2 (w2.alloc (.cells #[.int .u8 13] 5 (1, 2))) := (Below.refl _ _).alloc (Nat.le_refl _) _
    have HR2 := Lib.hid hR2
    clear hR2 hd hs10
    go_wp2_with fail
    refine (trimCr_any A l n c w2.heap.size 0 1 _ hn (hA2.below hb3) hnc (mark_cell _ _ _) (by omega)).mono ?_
    rintro e w3 ⟨rfl, rfl⟩
    go_wp2_with fail
    go_ret2
    refine ⟨?_, grown_below hg2 hb3⟩
    unfold LineOut
    rw [hc]
    exact ⟨rfl, HR2.out.below hb3⟩
  | some p =>
    obtain ⟨a, b⟩ := p
    rw [hc] at hcut
    obtain ⟨B, d, rfl, hRa, hRb, hbd, hplB, hac, hsb⟩ := hcut
    have hR3 : Rd (w2.setCell ⟨g, 0, none⟩ (.slice B b.length d)) g (.slice B b.length d) fv := hR2.set 0 _
    have hg3 : w2.grownBy (w2.setCell ⟨g, 0, none⟩ (.slice B b.length d)) (some g) := grownBy_setCell' _ _ _
    have hap := fun {A : Option Addr} {l : List UInt8} (h : Rb w2 A l) => Rd.apart (A := A) (l := l) hR2 (fun _ _ h => by cases h) hf h
    have hRa3 := hRa.grown hg3 (hap hRa)
    have hRb3 := hRb.grown hg3 (hap hRb)
    have hal : a.length ≤ n := by
      have := (cutAt_some hc).1
      rw [← hn, this]
      simp
    have hg23 := grown_trans hg2 hg3 (fun j h => .inl (Option.some.inj h).symm)
    have HR3 := Lib.hid hR3
    have hsz : (w2.setCell ⟨g, 0, none⟩ (.slice B b.length d)).heap.size = w2.heap.size := by simp
    have kc3 : ∀ (C : Array Value) (n c : Nat), _ := fun C n c => kc (w2.setCell ⟨g, 0, none⟩ (.slice B b.length d)) C n c
    rw [hsz] at kc3
    have HSZ := Lib.hid hsz
    clear hR3 hR2 hd hs10 hsz
    go_wp2_with fail
    generalize w2.setCell ⟨g, 0, none⟩ (.slice B b.length d) = w3 at *
    rw [← HSZ.out]
    have hb4 : Below w3.heap.size w3 (w3.alloc (.cells #[.int .u8 13] 5 (1, 2))) := (Below.refl _ _).alloc (Nat.le_refl _) _
    refine (trimCr_any A a a.length c w3.heap.size 0 1 _ rfl (hRa3.below hb4) hac (mark_cell _ _ _) (by omega)).mono ?_
    rintro e w4 ⟨rfl, rfl⟩
    have hRd : Rb (w3.alloc (.cells #[.int .u8 13] 5 (1, 2))) A (deCr a) := by
      unfold deCr
      split
      · exact (hRa3.below hb4).take _
      · exact hRa3.below hb4
    go_wp2_with fail
    go_ret2
    refine ⟨?_, grown_below hg23 hb4⟩
    unfold LineOut
    rw [hc]
    exact ⟨B, d, rfl, HR3.out.below hb4, hRd, hRb3.below hb4, hbd, hplB, hsb⟩
end Fd
end Go.Proofs.YtkllecicddfjpaaGreatDoor

namespace Go.Proofs.YtkllecicddfjpaaGreatDoor
namespace Fd
set_option linter.unusedVariables false
set_option linter.unusedSimpArgs false

theorem cutAt_lt {s : UInt8} {l a b : List UInt8} (h : cutAt s l = some (a, b)) : a.length + b.length + 1 = l.length := by
  rw [(cutAt_some h).1]
  simp
  omega
theorem deCr_len (l : List UInt8) : (deCr l).length ≤ l.length := by
  unfold deCr
  split
  · simp
  · omega

/-- what belongs to a value behind its first line, and what is behind that -/
def valGo (acc rest : List UInt8) : Option (List UInt8 × List UInt8) :=
  match rest with
  | [] => some (acc, [])
  | c :: r => if blk c then (match h : cutAt 10 (c :: r) with
      | none => none
      | some (a, b) => valGo (acc ++ deCr a) b) else some (acc, c :: r)
termination_by rest.length
decreasing_by
  have := cutAt_lt h
  omega
theorem valGo_nil (acc : List UInt8) : valGo acc [] = some (acc, []) := by rw [valGo]
theorem valGo_stop {acc r : List UInt8} {c : UInt8} (h : blk c = false) : valGo acc (c :: r) = some (acc, c :: r) := by
  rw [valGo]
  simp [h]
theorem valGo_none {acc r : List UInt8} {c : UInt8} (h : blk c = true) (hc : cutAt 10 (c :: r) = none) : valGo acc (c :: r) = none := by
  rw [valGo, if_pos h]
  split
  · rfl
  · rename_i h2
    rw [hc] at h2
    cases h2
theorem valGo_more {acc r a b : List UInt8} {c : UInt8} (h : blk c = true) (hc : cutAt 10 (c :: r) = some (a, b)) : valGo acc (c :: r) = valGo (acc ++ deCr a) b := by
  rw [valGo, if_pos h]
  split
  · rename_i h2
    rw [hc] at h2
    cases h2
  · rename_i h2
    rw [hc] at h2
    cases h2
    rfl

/-- one field more: its line, and what is behind -/
def fieldP (k : Nat) (line rest : List UInt8) : Except Nat ((List UInt8 × List UInt8) × List UInt8) :=
  match cutAt 58 line with
  | none => .error 3
  | some (nm, first) => if nmOk nm then (if k = 200 then .error 4 else
      match valGo first rest with
      | none => .error 3
      | some (v, b) => if 8192 < (trimB v).length then .error 4 else if (trimB v).all sgc then .ok ((nm, trimB v), b) else .error 3) else .error 3
theorem valGo_len : ∀ (n : Nat) (acc rest v b : List UInt8), rest.length ≤ n → valGo acc rest = some (v, b) → v.length + b.length ≤ acc.length + rest.length
  | n, acc, [], v, b, _, h => by
    rw [valGo_nil] at h
    cases h
    simp
  | 0, acc, c :: r, v, b, hn, h => by simp at hn
  | n + 1, acc, c :: r, v, b, hn, h => by
    by_cases hb : blk c = true
    · cases hc : cutAt 10 (c :: r) with
      | none => rw [valGo_none hb hc] at h; cases h
      | some p =>
        obtain ⟨a, b'⟩ := p
        rw [valGo_more hb hc] at h
        have h1 := cutAt_lt hc
        have h2 := valGo_len n _ _ _ _ (by simp at hn h1; omega) h
        have h3 := deCr_len a
        simp only [List.length_append] at h2
        omega
    · rw [valGo_stop (by simpa using hb)] at h
      cases h
      omega
theorem valGo_rest {acc rest v b : List UInt8} (h : valGo acc rest = some (v, b)) : b.length ≤ rest.length := by
  have key : ∀ (n : Nat) (acc rest v b : List UInt8), rest.length ≤ n → valGo acc rest = some (v, b) → b.length ≤ rest.length := by
    intro n
    induction n with
    | zero =>
      intro acc rest v b hn h
      have : rest = [] := List.eq_nil_of_length_eq_zero (by omega)
      subst this
      rw [valGo_nil] at h
      cases h
      omega
    | succ n ih =>
      intro acc rest v b hn h
      match rest with
      | [] =>
        rw [valGo_nil] at h
        cases h
        omega
      | c :: r =>
        by_cases hb : blk c = true
        · cases hc : cutAt 10 (c :: r) with
          | none => rw [valGo_none hb hc] at h; cases h
          | some p =>
            obtain ⟨a, b'⟩ := p
            rw [valGo_more hb hc] at h
            have h1 := cutAt_lt hc
            have := ih _ _ _ _ (by simp at hn h1; omega) h
            omega
        · rw [valGo_stop (by simpa using hb)] at h
          cases h
          omega
  exact key _ _ _ _ _ (Nat.le_refl _) h
theorem fieldP_rest {k : Nat} {line rest b : List UInt8} {f : List UInt8 × List UInt8} (h : fieldP k line rest = .ok (f, b)) : b.length ≤ rest.length := by
  unfold fieldP at h
  split at h
  · cases h
  · split at h
    · split at h
      · cases h
      · split at h
        · cases h
        · rename_i hv
          split at h
          · cases h
          · split at h
            · cases h
              exact valGo_rest hv
            · cases h
    · cases h
/-- the fields, one by one -/
def readGo (fs : List (List UInt8 × List UInt8)) (rest : List UInt8) : Except Nat (List (List UInt8 × List UInt8) × List UInt8) :=
  match h : cutAt 10 rest with
  | none => .error 3
  | some (a, b) => if deCr a = [] then .ok (fs, b) else
      match h2 : fieldP fs.length (deCr a) b with
      | .error e => .error e
      | .ok (f, b') => readGo (fs ++ [f]) b'
termination_by rest.length
decreasing_by
  have h1 := cutAt_lt h
  have h3 := fieldP_rest h2
  omega
theorem readGo_none {fs : List (List UInt8 × List UInt8)} {rest : List UInt8} (h : cutAt 10 rest = none) : readGo fs rest = .error 3 := by
  rw [readGo]
  split
  · rfl
  · rename_i h2
    rw [h] at h2
    cases h2
theorem readGo_end {fs : List (List UInt8 × List UInt8)} {rest a b : List UInt8} (h : cutAt 10 rest = some (a, b)) (ha : deCr a = []) : readGo fs rest = .ok (fs, b) := by
  rw [readGo]
  split
  · rename_i h2
    rw [h] at h2
    cases h2
  · rename_i h2
    rw [h] at h2
    cases h2
    rw [if_pos ha]
theorem readGo_err {fs : List (List UInt8 × List UInt8)} {rest a b : List UInt8} {e : Nat} (h : cutAt 10 rest = some (a, b)) (ha : deCr a ≠ []) (hf : fieldP fs.length (deCr a) b = .error e) : readGo fs rest = .error e := by
  rw [readGo]
  split
  · rename_i h2
    rw [h] at h2
    cases h2
  · rename_i h2
    rw [h] at h2
    cases h2
    rw [if_neg ha]
    split
    · rename_i h3
      rw [hf] at h3
      cases h3
      rfl
    · rename_i h3
      rw [hf] at h3
      cases h3
theorem readGo_ok {fs : List (List UInt8 × List UInt8)} {rest a b b' : List UInt8} {f : List UInt8 × List UInt8} (h : cutAt 10 rest = some (a, b)) (ha : deCr a ≠ []) (hf : fieldP fs.length (deCr a) b = .ok (f, b')) : readGo fs rest = readGo (fs ++ [f]) b' := by
  rw [readGo]
  split
  · rename_i h2
    rw [h] at h2
    cases h2
  · rename_i h2
    rw [h] at h2
    cases h2
    rw [if_neg ha]
    split
    · rename_i h3
      rw [hf] at h3
      cases h3
    · rename_i h3
      rw [hf] at h3
      cases h3
      rfl
end Fd
end Go.Proofs.YtkllecicddfjpaaGreatDoor
