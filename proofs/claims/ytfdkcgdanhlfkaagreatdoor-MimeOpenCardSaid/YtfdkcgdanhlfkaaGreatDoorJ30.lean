/- Signs, and texts of such signs, of the program's token. -/
import Derived.Test.YtfdkcgdanhlfkaaGreatDoorJ29
import Derived.Test.YtfdkcgdanhlfkaaGreatDoorJ07
import Derived.Test.YtfdkcgdanhlfkaaGreatDoorShelf
namespace Go.Proofs.YtfdkcgdanhlfkaaGreatDoor
namespace Tk
set_option linter.unusedVariables false
set_option linter.unusedSimpArgs false
open Go.RowKit

theorem prc_iff (c : UInt8) : prc c = true ↔ 33 ≤ c.toNat ∧ c.toNat ≤ 126 := by
  unfold prc
  simp
theorem indexByte_neg (c : UInt8) : ∀ l : List UInt8, decide (Lib.indexByte l c < 0) = !l.contains c
  | [] => rfl
  | x :: l => by
    have ih := indexByte_neg c l
    have hge := Lib.indexByte_ge l c
    unfold Lib.indexByte
    rw [List.contains_cons]
    by_cases h : (x == c) = true
    · have h2 : (c == x) = true := by rw [beq_iff_eq] at h ⊢; exact h.symm
      rw [if_pos h, h2]
      rfl
    · have h2 : (c == x) = false := by
        rw [beq_eq_false_iff_ne]
        exact fun e => h (by rw [beq_iff_eq]; exact e.symm)
      rw [if_neg h, h2, Bool.false_or, ← ih]
      by_cases h3 : (Lib.indexByte l c == -1) = true
      · rw [if_pos h3]
        have := beq_iff_eq.1 h3
        rw [this]
      · rw [if_neg h3]
        have h4 : Lib.indexByte l c ≠ -1 := fun e => h3 (beq_iff_eq.2 e)
        rw [decide_eq_decide]
        omega
theorem ixb_any (l : List UInt8) (L : ByteArray) (hL : L.data.toList = l) (c : UInt8) : ∃ ix : Int, decide (ix < 0) = !l.contains c ∧ ∀ w : World, Calls Tryz.prog 49 #[.string L, .int .u8 (c.toNat : Int)] w fun e w' => e = .returned (.int .i64 ix) ∧ w' = w := by
  refine ⟨_, indexByte_neg c l, fun w => ?_⟩
  have h := Tryz.strings_IndexByte L (c.toNat : Int) w
  rw [hL] at h
  simpa using h

set_option maxHeartbeats 400000 in
theorem printed_any (c : UInt8) (w : World) : Calls Tryz.prog 109 #[.int .u8 (c.toNat : Int)] w fun e w' => e = .returned (.bool (prc c)) ∧ w' = w := by
  have h1 : (prc c = true ∧ (32 : Int) < (c.toNat : Int) ∧ (c.toNat : Int) ≤ 126) ∨ (prc c = false ∧ ((¬ (32 : Int) < (c.toNat : Int)) ∨ ((32 : Int) < (c.toNat : Int) ∧ ¬ (c.toNat : Int) ≤ 126))) := by
    rcases Bool.eq_false_or_eq_true (prc c) with h | h
    · have := (prc_iff c).1 h
      exact .inl ⟨h, by omega, by omega⟩
    · refine .inr ⟨h, ?_⟩
      have h' : ¬ prc c = true := by simp [h]
      rw [prc_iff] at h'
      omega
  rcases h1 with ⟨hn, k1, k2⟩ | ⟨hn, k1 | ⟨k1, k2⟩⟩
  all_goals
    rw [hn]
    clear hn
    go_enter Tryz.func109, Tryz.ntmps109
    go_wp2_with fail
    go_ret
    exact ⟨rfl, rfl⟩

set_option maxHeartbeats 400000 in
theorem plain_any (c : UInt8) (w : World) : Calls Tryz.prog 93 #[.int .u8 (c.toNat : Int)] w fun e w' => e = .returned (.bool (atc c)) ∧ w' = w := by
  obtain ⟨ix, hix, hcall⟩ := ixb_any [40, 41, 60, 62, 64, 44, 59, 58, 92, 34, 47, 91, 93, 63, 61, 46] ⟨#[40, 41, 60, 62, 64, 44, 59, 58, 92, 34, 47, 91, 93, 63, 61, 46]⟩ rfl c
  have ha : atc c = (prc c && decide (ix < 0)) := by rw [hix]; rfl
  rw [ha]
  have hp := printed_any c
  clear ha hix
  rcases Bool.eq_false_or_eq_true (prc c) with h | h
  · rw [h] at hp ⊢
    rcases Int.lt_or_le ix 0 with h1 | h1
    · rw [decide_eq_true h1]
      go_enter Tryz.func93, Tryz.ntmps93
      go_wp2_with fail
      refine (hp _).mono ?_
      rintro e w' ⟨rfl, rfl⟩
      go_wp2_with fail
      refine (hcall _).mono ?_
      rintro e w' ⟨rfl, rfl⟩
      go_wp2_with fail
      go_ret
      exact ⟨rfl, rfl⟩
    · rw [decide_eq_false (by omega)]
      have h2 : ¬ ix < 0 := by omega
      go_enter Tryz.func93, Tryz.ntmps93
      go_wp2_with fail
      refine (hp _).mono ?_
      rintro e w' ⟨rfl, rfl⟩
      go_wp2_with fail
      refine (hcall _).mono ?_
      rintro e w' ⟨rfl, rfl⟩
      go_wp2_with fail
      go_ret
      exact ⟨ret_bool (by simp; omega), rfl⟩
  · rw [h] at hp ⊢
    go_enter Tryz.func93, Tryz.ntmps93
    go_wp2_with fail
    refine (hp _).mono ?_
    rintro e w' ⟨rfl, rfl⟩
    go_wp2_with fail
    go_ret
    exact ⟨rfl, rfl⟩

set_option maxHeartbeats 400000 in
theorem loose_any (c : UInt8) (w : World) : Calls Tryz.prog 62 #[.int .u8 (c.toNat : Int)] w fun e w' => e = .returned (.bool (loc' c)) ∧ w' = w := by
  obtain ⟨ix, hix, hcall⟩ := ixb_any [46, 47, 58, 63] ⟨#[46, 47, 58, 63]⟩ rfl c
  have ha : loc' c = (atc c || !decide (ix < 0)) := by rw [hix, Bool.not_not]; rfl
  rw [ha]
  have hp := plain_any c
  clear ha hix
  rcases Bool.eq_false_or_eq_true (atc c) with h | h
  · rw [h] at hp ⊢
    go_enter Tryz.func62, Tryz.ntmps62
    go_wp2_with fail
    refine (hp _).mono ?_
    rintro e w' ⟨rfl, rfl⟩
    go_wp2_with fail
    go_ret
    exact ⟨rfl, rfl⟩
  · rw [h] at hp ⊢
    rcases Int.lt_or_le ix 0 with h1 | h1
    · rw [decide_eq_true h1]
      have h2 : ¬ 0 ≤ ix := by omega
      go_enter Tryz.func62, Tryz.ntmps62
      go_wp2_with fail
      refine (hp _).mono ?_
      rintro e w' ⟨rfl, rfl⟩
      go_wp2_with fail
      refine (hcall _).mono ?_
      rintro e w' ⟨rfl, rfl⟩
      go_wp2_with fail
      go_ret
      exact ⟨ret_bool (by simp; omega), rfl⟩
    · rw [decide_eq_false (by omega)]
      go_enter Tryz.func62, Tryz.ntmps62
      go_wp2_with fail
      refine (hp _).mono ?_
      rintro e w' ⟨rfl, rfl⟩
      go_wp2_with fail
      refine (hcall _).mono ?_
      rintro e w' ⟨rfl, rfl⟩
      go_wp2_with fail
      go_ret
      exact ⟨rfl, rfl⟩

set_option maxHeartbeats 400000 in
theorem value1_any (c : UInt8) (w : World) : Calls Tryz.prog 108 #[.int .u8 (c.toNat : Int)] w fun e w' => e = .returned (.bool (sgc c)) ∧ w' = w := by
  have hp := printed_any c
  have ha : (sgc c = true ∧ prc c = true) ∨ (sgc c = true ∧ prc c = false ∧ ((c.toNat : Int) == 32) = true) ∨ (sgc c = true ∧ prc c = false ∧ ((c.toNat : Int) == 32) = false ∧ ((c.toNat : Int) == 9) = true) ∨
      (sgc c = false ∧ prc c = false ∧ ((c.toNat : Int) == 32) = false ∧ ((c.toNat : Int) == 9) = false) := by
    have h1 := sgc_iff c
    have h2 := prc_iff c
    rw [beq_iff_eq, beq_iff_eq, beq_eq_false_iff_ne, beq_eq_false_iff_ne]
    rcases Bool.eq_false_or_eq_true (sgc c) with h | h <;> rcases Bool.eq_false_or_eq_true (prc c) with k | k <;> simp only [h, k] at h1 h2 ⊢ <;> simp at h1 h2 ⊢ <;> omega
  rcases ha with ⟨h, k⟩ | ⟨h, k, k1⟩ | ⟨h, k, k1, k2⟩ | ⟨h, k, k1, k2⟩
  all_goals
    rw [h]
    rw [k] at hp
    clear h k
    go_enter Tryz.func108, Tryz.ntmps108
    go_wp2_with fail
    refine (hp _).mono ?_
    rintro e w' ⟨rfl, rfl⟩
    go_wp2_with fail
    go_ret
    exact ⟨rfl, rfl⟩

theorem onlyB_no {p : UInt8 → Bool} {l : List UInt8} {q : Nat} {c : UInt8} (h : l[q]? = some c) (hc : p c = false) : onlyB p l = false := by
  unfold onlyB
  rw [all_hit p h hc]
  rfl
set_option maxHeartbeats 400000 in
theorem only_any (p : UInt8 → Bool) (g : Nat) (eg : ∀ args w, (callFunc g args).run Tryz.prog w = .ok (.enter g args) w) (hp : ∀ (c : UInt8) (W : World), Calls Tryz.prog g #[.int .u8 (c.toNat : Int)] W fun e w' => e = .returned (.bool (p c)) ∧ w' = W)
    (l : List UInt8) (w : World) (hl : l.length ≤ 140737488351232) :
    Calls Tryz.prog 61 #[.string (bs l), .func (.func g) #[] #[]] w fun e w' => e = .returned (.bool (onlyB p l)) ∧ Below w.heap.size w w' := by
  obtain ⟨c, W, hcv, hown, hB, _⟩ := conv_bs (P := Tryz.prog) (src := 9) (dst := 22) Tryz.underlying9 Tryz.underlying22 Tryz.underlying5 w l (by unfold maxLen; omega)
  obtain ⟨A, _, hA, _, _, hR, _⟩ := hown.form
  cases hA
  have hRb : Rb W _ l := hR
  clear hown hR
  go_enter Tryz.func61, Tryz.ntmps61
  go_wp2_with fail
  go_loopw [10] (fun i wr => ∃ q : Nat, i = .int .i64 q ∧ q ≤ l.length ∧ Hid ((l.take q).all p = true) ∧ wr = W) (fun i _ => l.length - (intOf i).toNat)
  case atStart => exact ⟨0, rfl, by omega, Lib.hid (by simp), rfl⟩
  case round =>
    obtain ⟨q, rfl, hq, ha, rfl⟩ := hrel
    by_cases hlt : q < l.length
    · obtain ⟨b, o, x, e, hx, hcell⟩ := hRb.one hlt
      cases e
      rw [Nat.zero_add] at hcell
      have hcall := hp x
      rcases Bool.eq_false_or_eq_true (p x) with h | h
      · have hst : (l.take (q + 1)).all p = true := by rw [all_take p _ hx.out, ha.out, h]; rfl
        have HST := Lib.hid hst
        rw [h] at hcall
        clear hst h hp
        go_wp2_with (go_at_fn g; refine (hcall _).mono ?_; rintro e w' ⟨rfl, rfl⟩)
        go_roundw
        case rel => exact ⟨q + 1, by go_num, by omega, HST, trivial⟩
        case measure => simp [intOf]; omega
      · have hno := onlyB_no hx.out h
        have HNO := Lib.hid hno
        rw [h] at hcall
        clear hno h hp
        go_wp2_with (go_at_fn g; refine (hcall _).mono ?_; rintro e w' ⟨rfl, rfl⟩)
        go_ret
        exact ⟨ret_bool HNO.out.symm, hB⟩
    · obtain rfl : q = l.length := by omega
      have hall : onlyB p l = decide (0 < l.length) := by
        have := ha.out
        rw [List.take_length] at this
        unfold onlyB
        rw [this, Bool.true_and]
        cases l <;> simp
      have HR := Lib.hid hall
      clear hall hp
      by_cases h0 : 0 < l.length
      all_goals
        go_wp2_with fail
        go_ret
        exact ⟨ret_bool (by rw [HR.out, Bool.eq_iff_iff]; simp [h0]), hB⟩

theorem eg_plain : ∀ args w, (callFunc 93 args).run Tryz.prog w = .ok (.enter 93 args) w := enters_of Tryz.func93 (by kernel_rfl) rfl
theorem eg_loose : ∀ args w, (callFunc 62 args).run Tryz.prog w = .ok (.enter 62 args) w := enters_of Tryz.func62 (by kernel_rfl) rfl
theorem eg_value1 : ∀ args w, (callFunc 108 args).run Tryz.prog w = .ok (.enter 108 args) w := enters_of Tryz.func108 (by kernel_rfl) rfl
theorem only_plain (l : List UInt8) (w : World) (hl : l.length ≤ 140737488351232) :
    Calls Tryz.prog 61 #[.string (bs l), .func (.func 93) #[] #[]] w fun e w' => e = .returned (.bool (onlyB atc l)) ∧ Below w.heap.size w w' :=
  only_any atc 93 eg_plain plain_any l w hl
theorem only_loose (l : List UInt8) (w : World) (hl : l.length ≤ 140737488351232) :
    Calls Tryz.prog 61 #[.string (bs l), .func (.func 62) #[] #[]] w fun e w' => e = .returned (.bool (onlyB loc' l)) ∧ Below w.heap.size w w' :=
  only_any loc' 62 eg_loose loose_any l w hl
theorem only_value (l : List UInt8) (w : World) (hl : l.length ≤ 140737488351232) :
    Calls Tryz.prog 61 #[.string (bs l), .func (.func 108) #[] #[]] w fun e w' => e = .returned (.bool (onlyB sgc l)) ∧ Below w.heap.size w w' :=
  only_any sgc 108 eg_value1 value1_any l w hl

set_option maxHeartbeats 400000 in
theorem atom_any (l : List UInt8) (w : World) (hl : l.length ≤ 140737488351232) :
    Calls Tryz.prog 65 #[.string (bs l)] w fun e w' => e = .returned (.bool (atomB l)) ∧ Below w.heap.size w w' := by
  have h := only_plain l
  have e : onlyB atc l = atomB l := rfl
  rw [e] at h
  generalize atomB l = g at *
  go_enter Tryz.func65, Tryz.ntmps65
  go_wp2_with fail
  refine (h _ hl).mono ?_
  rintro e w' ⟨rfl, hb⟩
  go_wp2_with fail
  go_ret
  exact ⟨rfl, hb⟩

set_option maxHeartbeats 400000 in
theorem value_any (l : List UInt8) (w : World) (hl : l.length ≤ 140737488351232) :
    Calls Tryz.prog 75 #[.string (bs l)] w fun e w' => e = .returned (.bool (valB l)) ∧ Below w.heap.size w w' := by
  have h := only_value l
  by_cases h0 : l = []
  · subst h0
    have hb : (bs [] == (⟨#[]⟩ : ByteArray)) = true := rfl
    go_enter Tryz.func75, Tryz.ntmps75
    go_wp2_with fail
    go_ret
    exact ⟨rfl, Below.refl _ _⟩
  · have hb : (bs l == (⟨#[]⟩ : ByteArray)) = false := by
      have := bs_beq l []
      rw [decide_eq_false h0] at this
      exact this
    have e : onlyB sgc l = valB l := by
      unfold onlyB valB
      cases l with
      | nil => exact absurd rfl h0
      | cons x l => simp
    rw [e] at h
    generalize valB l = g at *
    clear e
    go_enter Tryz.func75, Tryz.ntmps75
    go_wp2_with fail
    refine (h _ hl).mono ?_
    rintro e w' ⟨rfl, hb⟩
    go_wp2_with fail
    go_ret
    exact ⟨ret_bool (by simp [h0]), hb⟩
end Tk
end Go.Proofs.YtfdkcgdanhlfkaaGreatDoor
