/- TokenParams' walk. -/
import Derived.Test.YtnmkapaphbaomaaGreatDoorU19
namespace Go.Proofs.YtnmkapaphbaomaaGreatDoor
set_option linter.unusedVariables false
set_option linter.unusedSimpArgs false
open Go.RowKit

theorem parmP_len {l k : List UInt8} {ms : List (List UInt8 × List UInt8)} (h : parmP l = .ok (k, ms)) : ms.length ≤ l.length + 1 := by
  unfold parmP at h
  cases hb : bareP l with
  | error e => rw [hb] at h; cases h
  | ok b =>
    have h1 := bareP_len _ _ _ (Nat.le_refl _) hb
    rw [hb] at h
    simp only at h
    cases hs : semP b with
    | none => rw [hs] at h; cases h
    | some ps =>
      have h2 := (semP_len _ _ _ (Nat.le_refl _) hs).2
      rw [hs] at h
      simp only at h
      split at h
      · cases h
        simp
        omega
      · cases h
/-- two that hand back the same -/
theorem prmOut_two (l : List UInt8) : ∃ (k : List UInt8) (ms : List (List UInt8 × List UInt8)) (x : Nat), ms.length ≤ l.length + 1 ∧ ∀ w e w', PrmOut l w e w' → ∃ A c, e = .returned (.tuple #[.string (bs k), .slice A ms.length c, .int .i64 (x : Int)]) ∧ Rv w' A (pcells ms) := by
  unfold PrmOut
  cases h : parmP l with
  | ok p =>
    obtain ⟨k, ms⟩ := p
    refine ⟨k, ms, 0, parmP_len h, fun w e w' ho => ?_⟩
    obtain ⟨v, he, ho⟩ := ho
    obtain ⟨A, c, rfl, h1, h2, hR, _⟩ := own_form ho
    exact ⟨A, c, he, hR⟩
  | error k => exact ⟨[], [], k, by simp, fun w e w' h => ⟨none, 0, h, Rv.nil _ _⟩⟩

theorem pcells_one (fs : List (List UInt8 × List UInt8)) : ∀ u ∈ pcells fs, u.oneCell' = true := by
  intro u hu
  unfold pcells at hu
  obtain ⟨p, _, hp⟩ := List.mem_flatMap.1 hu
  simp at hp
  rcases hp with rfl | rfl <;> rfl
theorem takeAll {α : Type} {P : α → Prop} {l : List α} {k : Nat} {x : α} (h : l[k]? = some x) (ha : ∀ p ∈ l.take k, P p) (hx : P x) : ∀ p ∈ l.take (k + 1), P p := by
  intro p hp
  rw [take_succ_of h] at hp
  rcases List.mem_append.1 hp with hp | hp
  · exact ha p hp
  · simp at hp
    rw [hp]
    exact hx

set_option maxRecDepth 100000 in
set_option maxHeartbeats 4000000 in
theorem tokenParams_any (l kind : List UInt8) (A : Option Addr) (fs : List (List UInt8 × List UInt8)) (n c : Nat) (w : World) (hn : fs.length = n) (hA : Rv w A (pcells fs)) (hw : Mx w)
    (hb : n ≤ 9223372036854775807) (hl : l.length ≤ 9223372036854775807) (hk : kind.length ≤ 9223372036854775807) (hp : ∀ p ∈ fs, p.1.length ≤ 9223372036854775807 ∧ p.2.length ≤ 9223372036854775807) :
    Calls Tryz.prog 3 #[.string (bs l), .string (bs kind), .slice A n c] w fun e w' => e = .returned (.bool true) ∧ Below w.heap.size w w' := by
  have HN := Lib.hid hn
  have HP := Lib.hid hp
  clear hn hp
  have hpu : ∀ W, Sem.run Tryz.prog (pure #[] : Sem (Array Value)) W = .ok #[] W := fun _ => rfl
  have hst : ∀ a W, Sem.run Tryz.prog (storeCells a []) W = .ok () W := fun _ _ => rfl
  go_enter Tryz.func3, Tryz.ntmps3
  go_wp2_with fail
  refine (speaks_any _ hw).mono ?_
  rintro e w1 ⟨rfl, hB1⟩
  rcases (by omega : 1000 < l.length ∨ (¬ 1000 < l.length ∧ 200 < kind.length) ∨ (¬ 1000 < l.length ∧ ¬ 200 < kind.length ∧ 20 < n) ∨ (¬ 1000 < l.length ∧ ¬ 200 < kind.length ∧ ¬ 20 < n)) with h1 | ⟨h1, h2⟩ | ⟨h1, h2, h3⟩ | ⟨h1, h2, h3⟩
  · go_wp2_with fail
    go_ret
    exact ⟨rfl, hB1⟩
  · go_wp2_with fail
    go_ret
    exact ⟨rfl, hB1⟩
  · go_wp2_with fail
    go_ret
    exact ⟨rfl, hB1⟩
  go_wp2_with fail
  go_loopw [8, 34] (fun _ i wr => ∃ k : Nat, i = .int .i64 k ∧ k ≤ n ∧ Hid (∀ p ∈ fs.take k, p.1.length ≤ 200 ∧ p.2.length ≤ 200) ∧ Below w.heap.size w wr) (fun _ i _ => n - (intOf i).toNat)
  case atStart => exact ⟨0, rfl, by omega, Lib.hid (by simp), hB1⟩
  case round =>
    obtain ⟨k, rfl, hkn, ha, hB⟩ := hrel
    have hs := hB.size
    by_cases hlt : k < n
    · obtain ⟨b, o, p, rfl, hp, h0, h1'⟩ := Rp_one (hA.below hB) (k := k) (by rw [HN.out]; exact hlt)
      obtain ⟨l1, l2⟩ := HP.out p (List.mem_of_getElem? hp.out)
      have HT := Lib.hid (fun hx => takeAll (P := fun p : List UInt8 × List UInt8 => p.1.length ≤ 200 ∧ p.2.length ≤ 200) hp.out ha.out hx)
      obtain ⟨na, va⟩ := p
      simp only at l1 l2 h0 h1' HT
      clear hp ha hA hpu hst
      rcases (by omega : 200 < na.length ∨ (¬ 200 < na.length ∧ 200 < va.length) ∨ (¬ 200 < na.length ∧ ¬ 200 < va.length)) with q1 | ⟨q1, q2⟩ | ⟨q1, q2⟩
      · go_wp2_with fail
        go_ret
        exact ⟨rfl, hB.alloc hs _⟩
      · go_wp2_with fail
        go_ret
        exact ⟨rfl, hB.alloc hs _⟩
      · have HTT := Lib.hid (HT.out ⟨by omega, by omega⟩)
        clear HT
        go_wp2_with fail
        go_roundw
        case rel => exact ⟨k + 1, by go_num, by omega, HTT, hB.alloc hs _⟩
        case measure => simp [intOf]; omega
    · obtain rfl : k = n := by omega
      have hAr := hA.below hB
      have ha2 : ∀ p ∈ fs, p.1.length ≤ 200 ∧ p.2.length ≤ 200 := by
        have := ha.out
        rwa [List.take_of_length_le (by rw [HN.out]; omega)] at this
      have hwr := hw.below hB
      obtain ⟨kd, ms, x, hml, htwo⟩ := prmOut_two l
      have hpa := fun W hW => params_any l W hW (by omega)
      have hra := fun W => rparams_any l W (by omega)
      clear hA hlt ha hB1 HP
      go_wp2_with fail
      refine (hpa _ hwr).mono ?_
      rintro e w2 ⟨ho2, hb2⟩
      obtain ⟨A2, c2, rfl, hR2⟩ := htwo _ _ _ ho2
      have hB2 := hB.trans (hb2.mono hs)
      have hA2 := hAr.below hb2
      clear hpa ho2
      go_wp2_with fail
      refine (hra _).mono ?_
      rintro e w3 ⟨ho3, hb3⟩
      obtain ⟨A3, c3, rfl, hR3⟩ := htwo _ _ _ ho3
      have hB3 := hB2.trans (hb3.mono hB2.size)
      have hA3 := hA2.below hb3
      have hR23 := hR2.below hb3
      clear hra ho3 htwo hR2 hA2 hb2 hB2 hb3 hAr
      obtain ⟨nm, hnm⟩ : ∃ nm, ms.length = nm := ⟨_, rfl⟩
      have hsp := samep_any A2 A3 ms nm c2 c3 w3 hnm hR23 hR3 (by omega)
      rw [hnm] at hml ⊢
      go_wp2_with fail
      refine hsp.mono ?_
      rintro e w4 ⟨rfl, hd4⟩
      have hB4 := hB3.trans ((hd4.below _).mono hB3.size)
      have hA4 := hA3.below (hd4.below w3.heap.size)
      have hs4 := hB4.size
      clear hsp hR23 hR3 hA3 hB3 hd4 hnm
      have hown0 := World.ownsRow_made (base := w4.heap.size) (e := 25) (size := 2) w4 #[] 0 (Nat.le_refl _) (by unfold maxLen; omega) rfl
      have hal4 : Below w4.heap.size w4 (w4.alloc (.cells #[] 25)) := (Below.refl _ w4).alloc (Nat.le_refl _) _
      have hsl := hal4.size
      have hAA := hA4.below hal4
      have hp2 : ∀ p ∈ fs, p.1.length ≤ 2000000 ∧ p.2.length ≤ 2000000 := fun p hp => ⟨by have := (ha2 p hp).1; omega, by have := (ha2 p hp).2; omega⟩
      have HP2 := Lib.hid hp2
      clear ha2 hp2
      go_wp2_with (at_builtin; refine wpList_app rfl _ _ _ _ rfl TParam hown0 rfl (Src_rv (news := pcells fs) Tryz.underlying22 (by rw [pcells_len, HN.out]) hAA (pcells_one fs) (by omega)) rfl (by omega) hsl ?_; intro v6 w6 hown6 hgr6 hat6; have hb6 := below_app hal4 hown0 hgr6 hsl (Nat.le_refl _); rw [Nat.zero_add, List.nil_append] at hown6; obtain ⟨A6, c6, rfl, _, _, hR6, _⟩ := own_form hown6)
      have hA6 := hA4.below hb6
      have hB6 := hB4.trans (hb6.mono hB4.size)
      have hw6 := hw.below hB6
      clear hAA hown0 hal4 hA4 hB4 hown6 hgr6 hat6 hb6 hsl
      refine (write_any kind fs A6 k c6 w6 hw6 (by omega) HN.out (by omega) HP2.out hR6).mono ?_
      rintro e w7 ⟨ho7, hb7⟩
      have hA7 := hA6.below hb7
      have hB7 := hB6.trans (hb7.mono hB6.size)
      clear hA6 hB6 hb7 hR6
      have hri := rright_any kind A fs k c w7 (by omega) HN.out hA7 (by omega) (fun p hp => ⟨by have := (HP2.out p hp).1; omega, by have := (HP2.out p hp).2; omega⟩)
      rcases ho7 with ⟨hr, rfl⟩ | ⟨hr, rfl⟩
      · rw [hr] at hri
        go_wp2_with fail
        refine hri.mono ?_
        rintro e w8 ⟨rfl, hb8⟩
        have hA8 := hA7.below hb8
        have hB8 := hB7.trans (hb8.mono hB7.size)
        have hwri := rwrite_any kind A fs k c w8 (by omega) HN.out (by omega) HP2.out hA8
        clear hri hA7 hB7 hb8
        go_wp2_with fail
        refine hwri.mono ?_
        rintro e w9 ⟨rfl, hb9⟩
        go_wp2_with fail
        go_ret
        exact ⟨ret_bool (by simp), hB8.trans (hb9.mono hB8.size)⟩
      · rw [hr] at hri
        go_wp2_with fail
        refine hri.mono ?_
        rintro e w8 ⟨rfl, hb8⟩
        go_wp2_with fail
        go_ret
        exact ⟨rfl, hB7.trans (hb8.mono hB7.size)⟩
end Go.Proofs.YtnmkapaphbaomaaGreatDoor
