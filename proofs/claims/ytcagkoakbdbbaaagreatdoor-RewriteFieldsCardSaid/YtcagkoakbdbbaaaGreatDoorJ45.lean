/- The fields of a head: Read. -/
import Derived.Test.YtcagkoakbdbbaaaGreatDoorJ43
import Derived.Deep.RegionHeld3
namespace Go.Proofs.YtcagkoakbdbbaaaGreatDoor
namespace Fd
set_option linter.unusedVariables false
set_option linter.unusedSimpArgs false
open Go.RowKit

theorem own_rebase {w : World} {b b' e size n : Nat} {v : Value} {xs : List Value} (h : w.ownsRow b e size v n xs) (hb : b' ≤ b) : w.ownsRow b' e size v n xs := by
  refine ⟨h.1, ?_⟩
  rcases h.2 with hn | ⟨g, cap, cur, hv, hbg, rest⟩
  · exact .inl hn
  · exact .inr ⟨g, cap, cur, hv, Nat.le_trans hb hbg, rest⟩
theorem own_pl {w : World} {b e size n c : Nat} {A : Option Addr} {xs : List Value} (h : w.ownsRow b e size (.slice A n c) n xs) : Pl A c := by
  rcases h.2 with ⟨hv, _⟩ | ⟨g, cap, cur, hv, _⟩
  · cases hv
    exact .inl ⟨rfl, rfl⟩
  · cases hv
    exact .inr ⟨_, _, rfl⟩

set_option maxRecDepth 100000 in
set_option maxHeartbeats 2000000 in
theorem size_any (A : Option Addr) (l : List UInt8) (n c : Nat) (w : World) (hn : l.length = n) (hA : Rb w A l) (hnc : n ≤ c) (hpl : Pl A c) (hb : n ≤ 1000000) :
    Calls Tryz.prog 52 #[.slice A n c] w fun e w' => (∃ (z : Nat) (q : Bool), z ≤ n ∧ e = .returned (.tuple #[.int .i64 z, .bool q])) ∧ Below w.heap.size w w' := by
  have HN := Lib.hid hn
  clear hn
  go_enter Tryz.func52, Tryz.ntmps52
  go_wp2_with fail
  have hR0 : Rd (w.alloc (.cells #[.slice A n c, .slice none 0 0] 78)) w.heap.size (.slice A n c) (.slice none 0 0) := Row.new w #[.slice A n c, .slice none 0 0] 78
  have hA0 : Below w.heap.size w (w.alloc (.cells #[.slice A n c, .slice none 0 0] 78)) := (Below.refl _ _).alloc (Nat.le_refl _) _
  go_loopw [5] (fun x wr => ∃ (rest : List UInt8) (B : Option Addr) (c' : Nat), Hid (Rd wr w.heap.size (.slice B rest.length c') (.slice none 0 0)) ∧ Rb wr B rest ∧ rest.length ≤ c' ∧ Pl B c' ∧ rest.length ≤ n ∧ Below w.heap.size w wr) (fun _ wr => restLen w.heap.size wr)
  case atStart => exact ⟨l, A, c, Lib.hid (by rw [HN.out]; exact hR0), hA.below hA0, by rw [HN.out]; exact hnc, hpl, by rw [HN.out]; omega, hA0⟩
  case round =>
    obtain ⟨rest, B, c', hRd, hRb, hbc, hplB, hrn, hB⟩ := hrel
    have hML := restLen_of hRd.out
    go_wp2_with fail
    refine (line_any w.heap.size B rest rest.length c' (.slice none 0 0) wr rfl hRd.out (fun _ _ h => by cases h) hRb hbc hplB (by omega)).mono ?_
    rintro e w2 ⟨hl2, hg2⟩
    have hB2 := hB.trans (below_grown hg2 (Nat.le_refl _) hB.size)
    unfold LineOut at hl2
    cases hc : cutAt 10 rest with
    | none =>
      rw [hc] at hl2
      obtain ⟨rfl, _⟩ := hl2
      clear hc
      go_wp2_with fail
      go_ret2
      exact ⟨⟨n, false, Nat.le_refl _, rfl⟩, hB2⟩
    | some p =>
      obtain ⟨a, b⟩ := p
      rw [hc] at hl2
      obtain ⟨B2, d2, rfl, hRd2, hRa2, hRb2, hbd2, hplB2, hsb2⟩ := hl2
      have hcl := cutAt_lt hc
      have c20 : w2.cell? ⟨w.heap.size, 0, none⟩ = some (.slice B2 b.length d2) := hRd2.cell rfl
      have HRD2 := Lib.hid hRd2
      clear hRd2 hc hR0
      by_cases h0 : (deCr a).length = 0
      · go_wp2_with fail
        go_ret2
        exact ⟨⟨n - b.length, true, by omega, by rw [show ((n - b.length : Nat) : Int) = (n : Int) - (b.length : Int) by omega]; rfl⟩, hB2⟩
      · have h0b : (((deCr a).length : Int) == 0) = false := by rw [beq_eq_false_iff_ne]; omega
        go_wp2_with fail
        go_roundw
        case rel => exact ⟨b, B2, d2, HRD2, hRb2, hbd2, hplB2, by omega, hB2⟩
        case measure => rw [restLen_of HRD2.out, hML]; omega

theorem fieldP_room {k : Nat} {line rest b : List UInt8} {f : List UInt8 × List UInt8} (h : fieldP k line rest = .ok (f, b)) : k ≠ 200 := by
  rintro rfl
  unfold fieldP at h
  split at h
  · cases h
  · split at h
    · rw [if_pos rfl] at h
      cases h
    · cases h
/-- what Read answers -/
def ReadOut (l : List UInt8) (w : World) (e : Ending) (w' : World) : Prop :=
  (match readGo [] l with
  | .error x => e = .returned (.tuple #[.slice none 0 0, .slice none 0 0, .int .i64 (x : Int)])
  | .ok (fs, b) => ∃ fv v2, e = .returned (.tuple #[fv, v2, .int .i64 0]) ∧ w'.ownsRow w.heap.size 37 2 fv fs.length (fcells fs) ∧ w'.ownsRow w.heap.size 5 1 v2 b.length (b.map bv)) ∧ Below w.heap.size w w'
theorem fieldP_code {k : Nat} {line rest : List UInt8} {x : Nat} (h : fieldP k line rest = .error x) : x = 3 ∨ x = 4 := by
  unfold fieldP at h
  split at h
  · cases h; exact .inl rfl
  · split at h
    · split at h
      · cases h; exact .inr rfl
      · split at h
        · cases h; exact .inl rfl
        · split at h
          · cases h; exact .inr rfl
          · split at h
            · cases h
            · cases h; exact .inl rfl
    · cases h; exact .inl rfl

set_option maxRecDepth 100000 in
set_option maxHeartbeats 2000000 in
theorem read_any (A : Option Addr) (l : List UInt8) (n c : Nat) (w : World) (hn : l.length = n) (hA : Rb w A l) (hnc : n ≤ c) (hpl : Pl A c) (hb : n ≤ 65536) :
    Calls Tryz.prog 29 #[.slice A n c] w (ReadOut l w) := by
  have HN := Lib.hid hn
  clear hn
  go_enter Tryz.func29, Tryz.ntmps29
  go_wp2_with fail
  refine (size_any A l n c w HN.out hA hnc hpl (by omega)).mono ?_
  rintro e w1 ⟨⟨z, q, hz, rfl⟩, hb1⟩
  have hzi : ¬ (65536 : Int) < (z : Int) := by omega
  have hs1 := hb1.size
  have hA1 := hA.below hb1
  have hI1 : In w.heap.size w1.heap.size A l := fun h => by
    obtain ⟨b, o, x, e, _, hc⟩ := hA.one h
    have h1 : b < w.heap.size := cell_lt hc
    exact ⟨b, o, e, h1, by omega⟩
  have hR0 : Rd (w1.alloc (.cells #[.slice A n c, .slice none 0 0] 78)) w1.heap.size (.slice A n c) (.slice none 0 0) := Row.new w1 #[.slice A n c, .slice none 0 0] 78
  have hA0 : Below w.heap.size w (w1.alloc (.cells #[.slice A n c, .slice none 0 0] 78)) := hb1.alloc hs1 _
  go_wp2_with fail
  obtain ⟨g, hg⟩ : ∃ g, w1.heap.size = g := ⟨_, rfl⟩
  rw [hg] at hR0 hI1 hs1 ⊢
  have hgl : g < (w1.alloc (.cells #[.slice A n c, .slice none 0 0] 78)).heap.size := hR0.lt
  clear hg
  go_loopw [8] (fun _ wr => ∃ (fs : List (List UInt8 × List UInt8)) (rest : List UInt8) (B : Option Addr) (c' k : Nat) (fv : Value), Hid (Rd wr g (.slice B rest.length c') fv) ∧ wr.ownsRow w.heap.size 37 2 fv k (fcells fs) ∧ fs.length = k ∧ k ≤ 200 ∧ fv.ownBlock ≠ some g ∧ Rb wr B rest ∧ rest.length ≤ c' ∧ Pl B c' ∧ In w.heap.size g B rest ∧ rest.length ≤ n ∧ Hid (readGo fs rest = readGo [] l) ∧ Below w.heap.size w wr) (fun _ wr => restLen g wr)
  case atStart => exact ⟨[], l, A, c, 0, .slice none 0 0, Lib.hid (by rw [HN.out]; exact hR0), World.ownsRow_nil _ _ _ _, rfl, by omega, by simp [Value.ownBlock], hA.below hA0, by rw [HN.out]; exact hnc, hpl, hI1, by rw [HN.out]; omega, Lib.hid rfl, hA0⟩
  case round =>
    obtain ⟨fs, rest, B, c', k, fv, hRd, hfv, hfk, hk, hfg, hRb, hbc, hplB, hIn, hrn, hgo, hB⟩ := hrel
    have hML := restLen_of hRd.out
    have hfv0 := hfv
    obtain ⟨fA, fc, rfl, _, _, _, _⟩ := own_form hfv
    clear hfv
    go_wp2_with fail
    refine (line_any g B rest rest.length c' (.slice fA k fc) wr rfl hRd.out (fun _ _ h => by cases h) hRb hbc hplB (by omega)).mono ?_
    rintro e w2 ⟨hl2, hg2⟩
    have hB2 := hB.trans (below_grown hg2 hs1 hB.size)
    have hfv2 := hfv0.kept hg2 (.inr hfg)
    have hs2 : w.heap.size ≤ w2.heap.size := hB2.size
    unfold LineOut at hl2
    cases hc : cutAt 10 rest with
    | none =>
      rw [hc] at hl2
      obtain ⟨rfl, _⟩ := hl2
      have hr : readGo [] l = .error 3 := by rw [← hgo.out]; exact readGo_none hc
      have HRR := Lib.hid hr
      clear hc hr hgo
      go_wp2_with fail
      go_ret3
      exact ⟨by rw [HRR.out]; rfl, hB2⟩
    | some p =>
      obtain ⟨a, b⟩ := p
      rw [hc] at hl2
      obtain ⟨B2, d2, rfl, hRd2, hRa2, hRb2, hbd2, hplB2, hsb2⟩ := hl2
      have hcl := cutAt_lt hc
      have hdl := deCr_len a
      have c20 : w2.cell? ⟨g, 0, none⟩ = some (.slice B2 b.length d2) := hRd2.cell rfl
      have c21 : w2.cell? ⟨g, 1, none⟩ = some (.slice fA k fc) := hRd2.cell rfl
      have HRD2 := Lib.hid hRd2
      have HC := Lib.hid hc
      clear hRd2 hc hR0
      by_cases h0 : deCr a = []
      · have hr : readGo [] l = .ok (fs, b) := by rw [← hgo.out]; exact readGo_end HC.out h0
        have h0l : (deCr a).length = 0 := by rw [h0]; rfl
        have HRR := Lib.hid hr
        have HFK := Lib.hid hfk
        clear hr hgo h0 hfk
        have hcl2 : Calls Tryz.prog 23 #[.slice B2 b.length d2] w2.drew fun e w' => (∃ v, e = .returned v ∧ w'.ownsRow w2.heap.size 5 1 v b.length (b.map bv)) ∧ Below w2.heap.size w2 w' :=
          (clone_any B2 b b.length d2 w2.drew rfl (hRb2.drewN 1) hbd2 hplB2 (by omega)).mono fun e w' h => ⟨h.1, (Dn.below ((Dn.refl w2).drew) w2.heap.size).trans h.2⟩
        go_wp2_with fail
        go_region_held3 (fun w' => w'.cell? ⟨g, 0, none⟩ = some (.slice B2 b.length d2) ∧ w'.cell? ⟨g, 1, none⟩ = some (.slice fA k fc)) (exact ⟨by assumption, by assumption⟩)
          (first
          | (go_at_call 23; refine hcl2.mono ?_; rintro e w3 ⟨⟨v2, rfl, hv2⟩, hb3⟩; have c30 := (hb3.cell (p := ⟨g, 0, none⟩) (cell_lt c20)).trans c20; have c31 := (hb3.cell (p := ⟨g, 1, none⟩) (cell_lt c21)).trans c21))
        go_wp2_with fail
        go_ret3
        refine ⟨?_, hB2.trans (hb3.mono hs2)⟩
        rw [HRR.out]
        exact ⟨_, _, rfl, by rw [HFK.out]; exact own_below hfv2 hb3, own_rebase hv2 hs2⟩
      · have h0b : (((deCr a).length : Int) == 0) = false := by
          rw [beq_eq_false_iff_ne]
          intro e
          exact h0 (List.eq_nil_of_length_eq_zero (by omega))
        have hInB : In w.heap.size g B2 b := hIn.sub (m := b) hsb2 (fun _ => by omega) (fun h => hRb2.plain h)
        have hInL : In w.heap.size g B (deCr a) := hIn.sub (m := deCr a) (SB.refl B) (fun _ => by omega) (fun h => hRa2.plain h)
        go_wp2_with fail
        refine (rdfield_any w.heap.size g B2 B b (deCr a) fs b.length d2 (deCr a).length c' k (.slice fA k fc) w2 rfl rfl HRD2.out hfv2 hfg hs1 hs2 hRb2 hbd2 hplB2 hInB hRa2 hInL (by omega) hplB hk (by omega) (by omega)).mono ?_
        rintro e w3 ⟨hfo, hb3⟩
        have hB3 := hB2.trans hb3
        unfold FieldOut at hfo
        cases hf : fieldP k (deCr a) b with
        | error x =>
          rw [hf] at hfo
          subst hfo
          have hr : readGo [] l = .error x := by rw [← hgo.out]; exact readGo_err HC.out h0 (by rw [hfk]; exact hf)
          have HRR := Lib.hid hr
          rcases fieldP_code hf with rfl | rfl
          all_goals
            clear hr hgo hf
            go_wp2_with fail
            go_ret3
            exact ⟨by rw [HRR.out]; rfl, hB3⟩
        | ok p =>
          obtain ⟨f, b'⟩ := p
          rw [hf] at hfo
          obtain ⟨rfl, C, d3, fv', hR3, hRb3, hbd3, hplC, hsbC, hfv3, hfg3⟩ := hfo
          have hr : readGo (fs ++ [f]) b' = readGo [] l := by rw [← hgo.out]; exact (readGo_ok HC.out h0 (by rw [hfk]; exact hf)).symm
          have hroom := fieldP_room hf
          have hbr := fieldP_rest hf
          have HRR := Lib.hid hr
          have HR3 := Lib.hid hR3
          clear hr hgo hf hR3
          go_wp2_with fail
          go_roundw
          case rel => exact ⟨fs ++ [f], b', C, d3, k + 1, fv', HR3, hfv3, by simp [hfk], by omega, hfg3, hRb3, hbd3, hplC, hInB.sub (m := b') hsbC (fun _ => by omega) (fun h => hRb3.plain h), by omega, HRR, hB3⟩
          case measure => rw [restLen_of HR3.out, hML]; omega
end Fd
end Go.Proofs.YtcagkoakbdbbaaaGreatDoor
