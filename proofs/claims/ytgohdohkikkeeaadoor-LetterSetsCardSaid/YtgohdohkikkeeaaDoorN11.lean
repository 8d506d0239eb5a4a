/- Rows of fields: whether all are right, whether two rows are one: the document's. -/
import Derived.Test.YtgohdohkikkeeaaDoorN9
import Derived.Test.YtgohdohkikkeeaaDoorN1
namespace Go.Proofs.YtgohdohkikkeeaaDoor
set_option linter.unusedVariables false
set_option linter.unusedSimpArgs false
open Go.RowKit

/-- all right, and not too many -/
def rightF (fs : List (List UInt8 × List UInt8)) : Bool := fs.all fun p => nmOk p.1 && vlOk p.2
/-- fields as they lie -/
def Rf (w : World) (A : Option Addr) (fs : List (List UInt8 × List UInt8)) : Prop := Rv w A (fcells fs)
theorem fcells_get {fs : List (List UInt8 × List UInt8)} {k : Nat} {p : List UInt8 × List UInt8} (h : fs[k]? = some p) : (fcells fs)[2 * k]? = some (strv p.1) ∧ (fcells fs)[2 * k + 1]? = some (strv p.2) := by
  induction fs generalizing k with
  | nil => simp at h
  | cons q fs ih =>
    have e : fcells (q :: fs) = strv q.1 :: strv q.2 :: fcells fs := rfl
    match k, h with
    | 0, h =>
      simp at h
      subst h
      exact ⟨rfl, rfl⟩
    | k + 1, h =>
      have := ih (k := k) (by simpa using h)
      rw [e, show 2 * (k + 1) = 2 * k + 1 + 1 by omega]
      exact this
theorem Rf.one {w : World} {A : Option Addr} {fs : List (List UInt8 × List UInt8)} (h : Rf w A fs) {k : Nat} (hk : k < fs.length) :
    ∃ b o p, A = some ⟨b, o, none⟩ ∧ Hid (fs[k]? = some p) ∧ w.cell? ⟨b, o + k * 2, none⟩ = some (.string (bs p.1)) ∧ w.cell? ⟨b, o + k * 2 + 1, none⟩ = some (.string (bs p.2)) := by
  obtain ⟨b, o, rfl, hc⟩ := h (by rw [fcells_len]; omega)
  obtain ⟨p, hp⟩ : ∃ p, fs[k]? = some p := ⟨_, List.getElem?_eq_getElem hk⟩
  obtain ⟨h1, h2⟩ := fcells_get hp
  refine ⟨b, o, p, rfl, Lib.hid hp, ?_, ?_⟩
  · have := hc _ _ h1
    rwa [show o + 2 * k = o + k * 2 by omega] at this
  · have := hc _ _ h2
    rwa [show o + (2 * k + 1) = o + k * 2 + 1 by omega] at this
theorem Rf.below {w w1 : World} {A : Option Addr} {fs : List (List UInt8 × List UInt8)} (h : Rf w A fs) (hb : Below w.heap.size w w1) : Rf w1 A fs := Rv.below h hb

set_option maxRecDepth 100000 in
set_option maxHeartbeats 2000000 in
theorem right_any (A : Option Addr) (fs : List (List UInt8 × List UInt8)) (n c : Nat) (w : World) (hn : fs.length = n) (hA : Rf w A fs) (hnc : n ≤ c) (hs : ∀ p ∈ fs, p.1.length ≤ 9223372036854775807 ∧ p.2.length ≤ 9223372036854775807) (hb : n ≤ 1000000) :
    Calls Tryd.prog 11 #[.slice A n c] w fun e w' => e = .returned (.bool (rightF fs && decide (fs.length ≤ 200))) ∧ Dn w w' := by
  have HN := Lib.hid hn
  have HS := Lib.hid hs
  clear hn hs
  go_enter Tryd.func11, Tryd.ntmps11
  go_wp2_with fail
  go_loopw [3] (fun i wr => ∃ k : Nat, i = .int .i64 k ∧ k ≤ n ∧ Hid ((fs.take k).all (fun p => nmOk p.1 && vlOk p.2) = true) ∧ Dn w wr) (fun i _ => n - (intOf i).toNat)
  case atStart => exact ⟨0, rfl, by omega, Lib.hid (by simp), Dn.refl _⟩
  case round =>
    obtain ⟨k, rfl, hk, ha, hd⟩ := hrel
    by_cases hlt : k < n
    · obtain ⟨b, o, p, rfl, hp, h0, h1⟩ := (hA.below (hd.below _)).one (k := k) (by rw [HN.out]; exact hlt)
      obtain ⟨l1, l2⟩ := HS.out p (List.mem_of_getElem? hp.out)
      cases hnm : nmOk p.1 with
      | false =>
        have hno := all_hit (fun p => nmOk p.1 && vlOk p.2) hp.out (by rw [hnm]; rfl)
        have HNO := Lib.hid hno
        clear hno
        go_wp2_with (go_at_call 16; refine (rname_any _ _ l1).mono ?_; rintro e w2 ⟨rfl, hd2⟩; rw [hnm])
        go_ret
        exact ⟨ret_bool (by unfold rightF; rw [HNO.out]; rfl), hd.trans hd2⟩
      | true =>
        cases hvl : vlOk p.2 with
        | false =>
          have hno := all_hit (fun p => nmOk p.1 && vlOk p.2) hp.out (by rw [hnm, hvl]; rfl)
          have HNO := Lib.hid hno
          clear hno
          go_wp2_with fail
          refine (rname_any _ _ l1).mono ?_
          rintro e w2 ⟨rfl, hd2⟩
          rw [hnm]
          have h12 : w2.cell? ⟨b, o + k * 2 + 1, none⟩ = some (.string (bs p.2)) := ((hd2.below wr.heap.size).cell (p := ⟨b, o + k * 2 + 1, none⟩) (cell_lt h1)).trans h1
          go_wp2_with fail
          refine (rvalue_any _ _ l2).mono ?_
          rintro e w3 ⟨rfl, hd3⟩
          rw [hvl]
          go_wp2_with fail
          go_ret
          exact ⟨ret_bool (by unfold rightF; rw [HNO.out]; rfl), (hd.trans hd2).trans hd3⟩
        | true =>
          have hst : (fs.take (k + 1)).all (fun p => nmOk p.1 && vlOk p.2) = true := by rw [all_take _ _ hp.out, ha.out, hnm, hvl]; rfl
          have HST := Lib.hid hst
          clear hst
          go_wp2_with fail
          refine (rname_any _ _ l1).mono ?_
          rintro e w2 ⟨rfl, hd2⟩
          rw [hnm]
          have h12 : w2.cell? ⟨b, o + k * 2 + 1, none⟩ = some (.string (bs p.2)) := ((hd2.below wr.heap.size).cell (p := ⟨b, o + k * 2 + 1, none⟩) (cell_lt h1)).trans h1
          go_wp2_with fail
          refine (rvalue_any _ _ l2).mono ?_
          rintro e w3 ⟨rfl, hd3⟩
          rw [hvl]
          go_wp2_with fail
          go_roundw
          case rel => exact ⟨k + 1, by go_num, by omega, HST, (hd.trans hd2).trans hd3⟩
          case measure => simp [intOf]; omega
    · obtain rfl : k = n := by omega
      have hall : rightF fs = true := by
        have := ha.out
        rw [List.take_of_length_le (by rw [HN.out]; omega)] at this
        exact this
      have HR := Lib.hid hall
      clear hall
      rcases (by omega : k ≤ 200 ∨ ¬ k ≤ 200) with h | h
      all_goals
        go_wp2_with fail
        go_ret
        exact ⟨ret_bool (by rw [HR.out, HN.out]; simp [h]; try omega), hd⟩

set_option maxRecDepth 100000 in
set_option maxHeartbeats 2000000 in
theorem samef_any (A B : Option Addr) (fs : List (List UInt8 × List UInt8)) (n c d : Nat) (w : World) (hn : fs.length = n) (hA : Rf w A fs) (hB : Rf w B fs) (hb : n ≤ 1000000) :
    Calls Tryd.prog 14 #[.slice A n c, .slice B n d] w fun e w' => e = .returned (.bool true) ∧ Dn w w' := by
  have HN := Lib.hid hn
  clear hn
  go_enter Tryd.func14, Tryd.ntmps14
  go_wp2_with fail
  go_loopw [5] (fun i wr => ∃ k : Nat, i = .int .i64 k ∧ k ≤ n ∧ Dn w wr) (fun i _ => n - (intOf i).toNat)
  case atStart => exact ⟨0, rfl, by omega, Dn.refl _⟩
  case round =>
    obtain ⟨k, rfl, hk, hd⟩ := hrel
    by_cases hlt : k < n
    · obtain ⟨b, o, p, rfl, hp, h0, h1⟩ := (hA.below (hd.below _)).one (k := k) (by rw [HN.out]; exact hlt)
      obtain ⟨b', o', p', rfl, hp', h0', h1'⟩ := (hB.below (hd.below _)).one (k := k) (by rw [HN.out]; exact hlt)
      obtain rfl : p' = p := Option.some.inj (hp'.out.symm.trans hp.out)
      go_wp2_with fail
      go_quiet (fail)
      go_wp2_with fail
      go_roundw
      case rel => exact ⟨k + 1, by go_num, by omega, by first | exact hd.drewN _ | exact hd.drew | exact hd⟩
      case measure => simp [intOf]; omega
    · go_wp2_with fail
      go_ret
      exact ⟨rfl, hd⟩
end Go.Proofs.YtgohdohkikkeeaaDoor
