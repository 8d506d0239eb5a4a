/- A field as lines, place by place: the document's Fold. -/
import Derived.Test.YtcagkoakbdbbaaaGreatDoorJ42
import Derived.Test.YtcagkoakbdbbaaaGreatDoorJ18
namespace Go.Proofs.YtcagkoakbdbbaaaGreatDoor
namespace Fd
set_option linter.unusedVariables false
set_option linter.unusedSimpArgs false
open Go.RowKit

/-- what is still to come, at place q of the value -/
def refTail (v : List UInt8) (line : Nat) : Nat → List UInt8
  | 0 => (match v with
    | [] => [13, 10]
    | c :: r => c :: refGo (line + 1) c r)
  | q + 1 => refGo line (v.getD q 0) (v.drop (q + 1))
theorem refTail_start (n v : List UInt8) : n ++ [58, 32] ++ refTail v (n.length + 2) 0 = foldF n v := (foldF_ref n v).symm
theorem refTail_end {v : List UInt8} {line q : Nat} (h : q = v.length) : refTail v line q = [13, 10] := by
  subst h
  match v with
  | [] => rfl
  | c :: r =>
    show refGo line ((c :: r).getD r.length 0) ((c :: r).drop (r.length + 1)) = _
    rw [List.drop_of_length_le (by simp)]
    rfl
theorem getD_of {v : List UInt8} {q : Nat} {c : UInt8} (h : v[q]? = some c) : v.getD q 0 = c := by simp [List.getD, h]
theorem refTail_on {v : List UInt8} {line q : Nat} {c : UInt8} (hc : v[q]? = some c) (h : q = 0 ∨ ¬ (blk c = true ∧ (∃ p, v[q - 1]? = some p ∧ blk p = false) ∧ 76 < line + ((pcsGo [c] (v.drop (q + 1))).headD []).length)) : refTail v line q = c :: refTail v (line + 1) (q + 1) := by
  match q with
  | 0 =>
    match v, hc with
    | x :: r, hc =>
      simp at hc
      subst hc
      rfl
  | q + 1 =>
    obtain ⟨p, hp⟩ : ∃ p, v[q]? = some p := ⟨_, List.getElem?_eq_getElem (by have := lt_of_get hc; omega)⟩
    show refGo line (v.getD q 0) (v.drop (q + 1)) = c :: refGo (line + 1) (v.getD (q + 1) 0) (v.drop (q + 1 + 1))
    rw [drop_cons hc, getD_of hp, getD_of hc]
    refine refGo_on (fun k => ?_)
    rcases h with h | h
    · omega
    · exact h ⟨k.1, ⟨p, by simpa using hp, k.2.1⟩, k.2.2⟩
theorem refTail_turn {v : List UInt8} {line q : Nat} {c p : UInt8} (hc : v[q]? = some c) (hq : 0 < q) (hp : v[q - 1]? = some p) (h1 : blk c = true) (h2 : blk p = false) (h3 : 76 < line + ((pcsGo [c] (v.drop (q + 1))).headD []).length) : refTail v line q = [13, 10, c] ++ refTail v 1 (q + 1) := by
  obtain ⟨m, rfl⟩ : ∃ m, q = m + 1 := ⟨q - 1, by omega⟩
  have hp' : v[m]? = some p := by simpa using hp
  show refGo line (v.getD m 0) (v.drop (m + 1)) = [13, 10, c] ++ refGo 1 (v.getD (m + 1) 0) (v.drop (m + 1 + 1))
  rw [drop_cons hc, getD_of hp', getD_of hc]
  exact refGo_turn ⟨h1, h2, h3⟩

/-- how far a piece goes -/
theorem piece_step {v : List UInt8} {i t : Nat} {x p : UInt8} (hi : i < t) (hx : v[t]? = some x) (hp : v[t - 1]? = some p) (h : ¬ (blk x = true ∧ blk p = false)) :
    pcsGo ((v.drop i).take (t - i)) (v.drop t) = pcsGo ((v.drop i).take (t + 1 - i)) (v.drop (t + 1)) := by
  rw [drop_cons hx, pcsGo, cur_snoc (by omega) hx]
  have : turnAt ((v.drop i).take (t - i)) x = false := by
    unfold turnAt
    rw [cur_last hi hp]
    simp only [Bool.and_eq_false_iff, Bool.not_eq_false']
    by_cases hb : blk x = true
    · right
      by_cases hb2 : blk p = false
      · exact absurd ⟨hb, hb2⟩ h
      · simpa using hb2
    · left
      simpa using hb
  rw [this]
  rfl
theorem piece_turn {v : List UInt8} {i t : Nat} {x p : UInt8} (hi : i < t) (hx : v[t]? = some x) (hp : v[t - 1]? = some p) (h1 : blk x = true) (h2 : blk p = false) :
    ((pcsGo ((v.drop i).take (t - i)) (v.drop t)).headD []).length = t - i := by
  have hl := lt_of_get hx
  rw [drop_cons hx, pcsGo]
  have : turnAt ((v.drop i).take (t - i)) x = true := by
    unfold turnAt
    rw [cur_last hi hp, h1]
    simp [h2]
  rw [this]
  simp
  omega
theorem piece_end {v : List UInt8} {i t : Nat} (ht : t = v.length) : ((pcsGo ((v.drop i).take (t - i)) (v.drop t)).headD []).length = t - i := by
  subst ht
  rw [List.drop_length]
  simp [pcsGo]

set_option maxRecDepth 100000 in
set_option maxHeartbeats 2000000 in
theorem rfold_any (n v : List UInt8) (w : World) (hn : n.length ≤ 1000000) (hv : v.length ≤ 1000000) :
    Calls Tryz.prog 27 #[.agg #[strv n, strv v]] w fun e w' => (∃ x, e = .returned x ∧ OwnM w' w.heap.size 5 1 x (foldF n v).length ((foldF n v).map bv)) ∧ Below w.heap.size w w' := by
  have hA0 : Below w.heap.size w (w.alloc (.cells #[.string (bs n), .string (bs v)] 37)) := (Below.refl _ _).alloc (Nat.le_refl _) _
  obtain ⟨c, w3, hcv, hown, hb3, hz3⟩ := conv_bs (P := Tryz.prog) (src := 9) (dst := 22) Tryz.underlying9 Tryz.underlying22 Tryz.underlying5 (w.alloc (.cells #[.string (bs n), .string (bs v)] 37)) n (by unfold maxLen; omega)
  have hsz : (w.alloc (.cells #[.string (bs n), .string (bs v)] 37)).heap.size = w.heap.size + 1 := by simp
  have hB3 := hA0.trans (hb3.mono hA0.size)
  have hs3 := hB3.size
  rw [hsz] at hcv hown hz3
  have hown3 := hown.rebase (b' := w.heap.size) (by omega)
  have hfl := foldF_len n v
  have c0 : w3.cell? ⟨w.heap.size, 1, none⟩ = some (.string (bs v)) := (hb3.cell (p := ⟨w.heap.size, 1, none⟩) (by simp)).trans (by simp)
  have HST := Lib.hid (refTail_start n v)
  clear hown hsz
  unfold strv
  go_enter Tryz.func27, Tryz.ntmps27
  go_wp2_with (at_builtin; refine wpList_appM rfl (.tmp 13) (.const (.string ⟨#[58, 32]⟩)) _ _ rfl TU8 hown3 rfl (Src_str Tryz.underlying9 [58, 32]) rfl (by simp; omega) hs3 ?_; intro v2 wx hown2 hgr2 hat2; have hBx := below_appM hB3 hown3 hgr2 hs3 (Nat.le_refl _); have hsx := hBx.size; have hown4 := hown2; obtain ⟨A2, c2, rfl, hc2, hc2m, _, _⟩ := hown2.form)
  have hfb : n.length + 2 ≤ (foldF n v).length := by rw [← HST.out]; simp
  clear hcv hown3 hown2 hgr2 hat2 hz3 c0 hb3 hA0 hB3 hs3
  go_loopw [4, 5, 6] (fun x ln i wr => ∃ (q N L : Nat) (o : List UInt8), ln = .int .i64 L ∧ i = .int .i64 q ∧ q ≤ v.length ∧ L ≤ N ∧ N ≤ (foldF n v).length ∧ Hid (o ++ refTail v L q = foldF n v) ∧ OwnM wr w.heap.size 5 1 x N (o.map bv) ∧ Below w.heap.size w wr) (fun _ _ i _ => v.length - (intOf i).toNat)
  case atStart => exact ⟨0, n.length + 2, n.length + 2, n ++ [58, 32], by go_num, rfl, by omega, by omega, hfb, HST, own_eq hown4 rfl (by simp), hBx⟩
  case round =>
    obtain ⟨q, N, L, o, rfl, rfl, hq, hLN, hN, heq, hown, hB⟩ := hrel
    obtain ⟨wo, rfl⟩ : ∃ wo : World, wo = wr := ⟨_, rfl⟩
    have hs1 := hB.size
    have hol : o.length = N := by simpa using hown.1
    have HOL := Lib.hid hol
    clear hown4 hol
    by_cases hlt : q < v.length
    · obtain ⟨c, hc⟩ : ∃ c, v[q]? = some c := ⟨_, List.getElem?_eq_getElem hlt⟩
      have hi := str_index (P := Tryz.prog) Tryz.underlying9 hc .i64
      have HC := Lib.hid hc
      clear hc
      by_cases hT : 0 < q ∧ blk c = true ∧ ∃ p, v[q - 1]? = some p ∧ blk p = false
      · obtain ⟨hq0, hbc, p, hp, hbp⟩ := hT
        have hj : ∀ W, (Instr.index 9 (.string (bs v)) (.int .i64 ((q : Int) - 1))).run Tryz.prog W = .ok (.int .u8 (p.toNat : Int)) W := by
          rw [show ((q : Int) - 1) = ((q - 1 : Nat) : Int) by omega]
          exact str_index (P := Tryz.prog) Tryz.underlying9 hp .i64
        have HP := Lib.hid hp
        have HBC := Lib.hid hbc
        have HBP := Lib.hid hbp
        clear hp hbc hbp
        have hp0 : pcsGo [c] (v.drop (q + 1)) = pcsGo ((v.drop q).take (q + 1 - q)) (v.drop (q + 1)) := by rw [cur_one HC.out]
        have HP0 := Lib.hid hp0
        clear hp0
        go_wp2_with (go_at_call 50; refine (rblank_any _ _).mono ?_; rintro e wz ⟨rfl, rfl⟩; first | rw [HBC.out] | rw [HBP.out])
        go_loopw [7] (fun t wr => ∃ t' : Nat, t = .int .i64 t' ∧ q < t' ∧ t' ≤ v.length ∧ Hid (pcsGo [c] (v.drop (q + 1)) = pcsGo ((v.drop q).take (t' - q)) (v.drop t')) ∧ wr = wo) (fun t _ => v.length - (intOf t).toNat)
        case atStart => exact ⟨q + 1, by go_num, by omega, by omega, HP0, rfl⟩
        case round =>
          obtain ⟨t, rfl, hqt, htl, HPT, rfl⟩ := hrel
          by_cases hte : t < v.length
          · obtain ⟨x, hx⟩ : ∃ c, v[t]? = some c := ⟨_, List.getElem?_eq_getElem hte⟩
            obtain ⟨y, hy⟩ : ∃ c, v[t - 1]? = some c := ⟨_, List.getElem?_eq_getElem (by omega)⟩
            have hix := str_index (P := Tryz.prog) Tryz.underlying9 hx .i64
            have hiy : ∀ W, (Instr.index 9 (.string (bs v)) (.int .i64 ((t : Int) - 1))).run Tryz.prog W = .ok (.int .u8 (y.toNat : Int)) W := by
              rw [show ((t : Int) - 1) = ((t - 1 : Nat) : Int) by omega]
              exact str_index (P := Tryz.prog) Tryz.underlying9 hy .i64
            have hcs : (blk x = true ∧ blk y = false) ∨ (blk x = false ∧ ¬ (blk x = true ∧ blk y = false)) ∨ ((blk x = true ∧ blk y = true) ∧ ¬ (blk x = true ∧ blk y = false)) := by
              cases blk x <;> cases blk y <;> simp
            have HX := Lib.hid hx
            have HY := Lib.hid hy
            clear hx hy
            rcases hcs with ⟨hbx, hby⟩ | ⟨hbx, hno⟩ | ⟨⟨hbx, hby⟩, hno⟩
            · have hE : ((pcsGo [c] (v.drop (q + 1))).headD []).length = t - q := by rw [HPT.out]; exact piece_turn hqt HX.out HY.out hbx hby
              have HBX := Lib.hid hbx
              have HBQ := Lib.hid hby
              clear hbx hby
              by_cases hw : 76 < L + (t - q)
              · have ht := refTail_turn (line := L) HC.out hq0 HP.out HBC.out HBP.out (by rw [hE]; exact hw)
                have heq2 : (o ++ [13, 10, c]) ++ refTail v 1 (q + 1) = foldF n v := by rw [← heq.out, ht]; simp
                have hN2 : N + 3 ≤ (foldF n v).length := by rw [← heq2, ← HOL.out]; simp only [List.length_append, List.length_cons, List.length_nil]; omega
                have hwi : (76 : Int) < (L : Int) + (t : Int) - (q : Int) := by omega
                have HQ := Lib.hid heq2
                clear ht heq2 hE hw
                go_wp2_with (first
                  | (go_at_call 50; refine (rblank_any _ _).mono ?_; rintro e wz ⟨rfl, rfl⟩; first | rw [HBX.out] | rw [HBQ.out])
                                  | (at_builtin; refine wpList_appM rfl (.tmp 68) (.tmp 69) _ _ rfl TU8 (hown.alloc (.cells #[bv 13, bv 10] 5)) rfl (Src_rv (news := [bv 13, bv 10]) Tryz.underlying22 rfl (Rv_new wr _ _ _ rfl) (by simp [Value.oneCell', bv]) (by omega)) rfl (by omega) (by simp; omega) ?_; intro v3 wb hownb hgr3 hat3; have hBb := below_appM (hB.alloc hs1 (.cells #[bv 13, bv 10] 5)) (hown.alloc _) hgr3 (by simp; omega) (Nat.le_refl _); have hs3 := hBb.size)
                  | (at_builtin; refine wpList_appM rfl (.tmp 71) (.tmp 75) _ _ rfl TU8 (hownb.alloc (.cells #[bv c] 5)) rfl (Src_rv (news := [bv c]) Tryz.underlying22 rfl (Rv_new wb _ _ _ rfl) (by simp [Value.oneCell', bv]) (by omega)) rfl (by omega) (by simp; omega) ?_; intro v4 wc hownc hgr4 hat4; have hBc := below_appM (hBb.alloc hs3 (.cells #[bv c] 5)) (hownb.alloc _) hgr4 (by simp; omega) (Nat.le_refl _); have hs4 := hBc.size))
                go_roundw
                case rel => exact ⟨q + 1, N + 3, 1, o ++ [13, 10, c], by go_num, by go_num, by omega, by omega, hN2, HQ, own_eq hownc rfl (by simp), hBc⟩
                case measure => simp [intOf]; omega
              · have ht := refTail_on (line := L) HC.out (.inr (fun k => hw (by have := k.2.2; rwa [hE] at this)))
                have heq2 : (o ++ [c]) ++ refTail v (L + 1) (q + 1) = foldF n v := by rw [← heq.out, ht]; simp
                have hN2 : N + 1 ≤ (foldF n v).length := by rw [← heq2, ← HOL.out]; simp only [List.length_append, List.length_cons, List.length_nil]; omega
                have hwi : ¬ (76 : Int) < (L : Int) + (t : Int) - (q : Int) := by omega
                have HQ := Lib.hid heq2
                clear ht heq2 hE hw
                go_wp2_with (first
                  | (go_at_call 50; refine (rblank_any _ _).mono ?_; rintro e wz ⟨rfl, rfl⟩; first | rw [HBX.out] | rw [HBQ.out])
                                  | (at_builtin; refine wpList_appM rfl (.tmp 71) (.tmp 75) _ _ rfl TU8 (hown.alloc (.cells #[bv c] 5)) rfl (Src_rv (news := [bv c]) Tryz.underlying22 rfl (Rv_new wr _ _ _ rfl) (by simp [Value.oneCell', bv]) (by omega)) rfl (by omega) (by simp; omega) ?_; intro v3 wb hownb hgr3 hat3; have hBb := below_appM (hB.alloc hs1 (.cells #[bv c] 5)) (hown.alloc _) hgr3 (by simp; omega) (Nat.le_refl _); have hs3 := hBb.size))
                go_roundw
                case rel => exact ⟨q + 1, N + 1, L + 1, o ++ [c], by go_num, by go_num, by omega, by omega, hN2, HQ, own_eq hownb rfl (by simp), hBb⟩
                case measure => simp [intOf]; omega

            · have hst := HPT.out.trans (piece_step hqt HX.out HY.out hno)
              have HST2 := Lib.hid hst
              have HBX := Lib.hid hbx
              have HBQ := HBX
              clear hbx hno hst
              go_wp2_with (go_at_call 50; refine (rblank_any _ _).mono ?_; rintro e wz ⟨rfl, rfl⟩; first | rw [HBX.out] | rw [HBQ.out])
              go_roundw
              case rel => exact ⟨t + 1, by go_num, by omega, by omega, HST2, by first | trivial | rfl⟩
              case measure => simp [intOf]; omega
            · have hst := HPT.out.trans (piece_step hqt HX.out HY.out hno)
              have HST2 := Lib.hid hst
              have HBX := Lib.hid hbx
              have HBQ := Lib.hid hby
              clear hbx hby hno hst
              go_wp2_with (go_at_call 50; refine (rblank_any _ _).mono ?_; rintro e wz ⟨rfl, rfl⟩; first | rw [HBX.out] | rw [HBQ.out])
              go_roundw
              case rel => exact ⟨t + 1, by go_num, by omega, by omega, HST2, by first | trivial | rfl⟩
              case measure => simp [intOf]; omega
          · obtain rfl : t = v.length := by omega
            have hE : ((pcsGo [c] (v.drop (q + 1))).headD []).length = v.length - q := by rw [HPT.out]; exact piece_end rfl
            by_cases hw : 76 < L + (v.length - q)
            · have ht := refTail_turn (line := L) HC.out hq0 HP.out HBC.out HBP.out (by rw [hE]; exact hw)
              have heq2 : (o ++ [13, 10, c]) ++ refTail v 1 (q + 1) = foldF n v := by rw [← heq.out, ht]; simp
              have hN2 : N + 3 ≤ (foldF n v).length := by rw [← heq2, ← HOL.out]; simp only [List.length_append, List.length_cons, List.length_nil]; omega
              have hwi : (76 : Int) < (L : Int) + (v.length : Int) - (q : Int) := by omega
              have HQ := Lib.hid heq2
              clear ht heq2 hE hw
              go_wp2_with (first
                | (at_builtin; refine wpList_appM rfl (.tmp 68) (.tmp 69) _ _ rfl TU8 (hown.alloc (.cells #[bv 13, bv 10] 5)) rfl (Src_rv (news := [bv 13, bv 10]) Tryz.underlying22 rfl (Rv_new wr _ _ _ rfl) (by simp [Value.oneCell', bv]) (by omega)) rfl (by omega) (by simp; omega) ?_; intro v3 wb hownb hgr3 hat3; have hBb := below_appM (hB.alloc hs1 (.cells #[bv 13, bv 10] 5)) (hown.alloc _) hgr3 (by simp; omega) (Nat.le_refl _); have hs3 := hBb.size)
                | (at_builtin; refine wpList_appM rfl (.tmp 71) (.tmp 75) _ _ rfl TU8 (hownb.alloc (.cells #[bv c] 5)) rfl (Src_rv (news := [bv c]) Tryz.underlying22 rfl (Rv_new wb _ _ _ rfl) (by simp [Value.oneCell', bv]) (by omega)) rfl (by omega) (by simp; omega) ?_; intro v4 wc hownc hgr4 hat4; have hBc := below_appM (hBb.alloc hs3 (.cells #[bv c] 5)) (hownb.alloc _) hgr4 (by simp; omega) (Nat.le_refl _); have hs4 := hBc.size))
              go_roundw
              case rel => exact ⟨q + 1, N + 3, 1, o ++ [13, 10, c], by go_num, by go_num, by omega, by omega, hN2, HQ, own_eq hownc rfl (by simp), hBc⟩
              case measure => simp [intOf]; omega
            · have ht := refTail_on (line := L) HC.out (.inr (fun k => hw (by have := k.2.2; rwa [hE] at this)))
              have heq2 : (o ++ [c]) ++ refTail v (L + 1) (q + 1) = foldF n v := by rw [← heq.out, ht]; simp
              have hN2 : N + 1 ≤ (foldF n v).length := by rw [← heq2, ← HOL.out]; simp only [List.length_append, List.length_cons, List.length_nil]; omega
              have hwi : ¬ (76 : Int) < (L : Int) + (v.length : Int) - (q : Int) := by omega
              have HQ := Lib.hid heq2
              clear ht heq2 hE hw
              go_wp2_with (first
                | (at_builtin; refine wpList_appM rfl (.tmp 71) (.tmp 75) _ _ rfl TU8 (hown.alloc (.cells #[bv c] 5)) rfl (Src_rv (news := [bv c]) Tryz.underlying22 rfl (Rv_new wr _ _ _ rfl) (by simp [Value.oneCell', bv]) (by omega)) rfl (by omega) (by simp; omega) ?_; intro v3 wb hownb hgr3 hat3; have hBb := below_appM (hB.alloc hs1 (.cells #[bv c] 5)) (hown.alloc _) hgr3 (by simp; omega) (Nat.le_refl _); have hs3 := hBb.size))
              go_roundw
              case rel => exact ⟨q + 1, N + 1, L + 1, o ++ [c], by go_num, by go_num, by omega, by omega, hN2, HQ, own_eq hownb rfl (by simp), hBb⟩
              case measure => simp [intOf]; omega

      · have ht := refTail_on (line := L) HC.out (by
          by_cases h0 : q = 0
          · exact .inl h0
          · exact .inr (fun k => hT ⟨by omega, k.1, k.2.1⟩))
        have heq2 : (o ++ [c]) ++ refTail v (L + 1) (q + 1) = foldF n v := by rw [← heq.out, ht]; simp
        have hN2 : N + 1 ≤ (foldF n v).length := by rw [← heq2, ← HOL.out]; simp only [List.length_append, List.length_cons, List.length_nil]; omega
        have HQ := Lib.hid heq2
        clear ht heq2
        by_cases hq0 : 0 < q
        · obtain ⟨p, hp⟩ : ∃ c, v[q - 1]? = some c := ⟨_, List.getElem?_eq_getElem (by omega)⟩
          have hj : ∀ W, (Instr.index 9 (.string (bs v)) (.int .i64 ((q : Int) - 1))).run Tryz.prog W = .ok (.int .u8 (p.toNat : Int)) W := by
            rw [show ((q : Int) - 1) = ((q - 1 : Nat) : Int) by omega]
            exact str_index (P := Tryz.prog) Tryz.underlying9 hp .i64
          have hcs : blk c = false ∨ (blk c = true ∧ blk p = true) := by
            cases hbc : blk c with
            | false => exact .inl rfl
            | true => cases hbp : blk p with
              | true => exact .inr ⟨rfl, rfl⟩
              | false => exact absurd ⟨hq0, hbc, p, hp, hbp⟩ hT
          clear hp hT
          rcases hcs with hbx | ⟨hbx, hby⟩
          · have HBX := Lib.hid hbx
            have HBQ := HBX
            clear hbx
            go_wp2_with (first
              | (go_at_call 50; refine (rblank_any _ _).mono ?_; rintro e wz ⟨rfl, rfl⟩; first | rw [HBX.out] | rw [HBQ.out])
              | (at_builtin; refine wpList_appM rfl (.tmp 71) (.tmp 75) _ _ rfl TU8 (hown.alloc (.cells #[bv c] 5)) rfl (Src_rv (news := [bv c]) Tryz.underlying22 rfl (Rv_new wo _ _ _ rfl) (by simp [Value.oneCell', bv]) (by omega)) rfl (by omega) (by simp; omega) ?_; intro v3 wb hownb hgr3 hat3; have hBb := below_appM (hB.alloc hs1 (.cells #[bv c] 5)) (hown.alloc _) hgr3 (by simp; omega) (Nat.le_refl _); have hs3 := hBb.size))
            go_roundw
            case rel => exact ⟨q + 1, N + 1, L + 1, o ++ [c], by go_num, by go_num, by omega, by omega, hN2, HQ, own_eq hownb rfl (by simp), hBb⟩
            case measure => simp [intOf]; omega
          · have HBX := Lib.hid hbx
            have HBQ := Lib.hid hby
            clear hbx hby
            go_wp2_with (first
              | (go_at_call 50; refine (rblank_any _ _).mono ?_; rintro e wz ⟨rfl, rfl⟩; first | rw [HBX.out] | rw [HBQ.out])
              | (at_builtin; refine wpList_appM rfl (.tmp 71) (.tmp 75) _ _ rfl TU8 (hown.alloc (.cells #[bv c] 5)) rfl (Src_rv (news := [bv c]) Tryz.underlying22 rfl (Rv_new wo _ _ _ rfl) (by simp [Value.oneCell', bv]) (by omega)) rfl (by omega) (by simp; omega) ?_; intro v3 wb hownb hgr3 hat3; have hBb := below_appM (hB.alloc hs1 (.cells #[bv c] 5)) (hown.alloc _) hgr3 (by simp; omega) (Nat.le_refl _); have hs3 := hBb.size))
            go_roundw
            case rel => exact ⟨q + 1, N + 1, L + 1, o ++ [c], by go_num, by go_num, by omega, by omega, hN2, HQ, own_eq hownb rfl (by simp), hBb⟩
            case measure => simp [intOf]; omega
        · clear hT
          go_wp2_with (at_builtin; refine wpList_appM rfl (.tmp 71) (.tmp 75) _ _ rfl TU8 (hown.alloc (.cells #[bv c] 5)) rfl (Src_rv (news := [bv c]) Tryz.underlying22 rfl (Rv_new wo _ _ _ rfl) (by simp [Value.oneCell', bv]) (by omega)) rfl (by omega) (by simp; omega) ?_; intro v3 wb hownb hgr3 hat3; have hBb := below_appM (hB.alloc hs1 (.cells #[bv c] 5)) (hown.alloc _) hgr3 (by simp; omega) (Nat.le_refl _); have hs3 := hBb.size)
          go_roundw
          case rel => exact ⟨q + 1, N + 1, L + 1, o ++ [c], by go_num, by go_num, by omega, by omega, hN2, HQ, own_eq hownb rfl (by simp), hBb⟩
          case measure => simp [intOf]; omega
    · obtain rfl : q = v.length := by omega
      have hend : o ++ [13, 10] = foldF n v := by rw [← heq.out, refTail_end rfl]
      have hN2 : N + 2 = (foldF n v).length := by rw [← hend, ← HOL.out]; simp
      have HQ := Lib.hid hend
      clear hend
      go_wp2_with (at_builtin; refine wpList_appM rfl (.tmp 79) (.tmp 80) _ _ rfl TU8 (hown.alloc (.cells #[bv 13, bv 10] 5)) rfl (Src_rv (news := [bv 13, bv 10]) Tryz.underlying22 rfl (Rv_new wo _ _ _ rfl) (by simp [Value.oneCell', bv]) (by omega)) rfl (by omega) (by simp; omega) ?_; intro v3 wb hownb hgr3 hat3; have hBb := below_appM (hB.alloc hs1 (.cells #[bv 13, bv 10] 5)) (hown.alloc _) hgr3 (by simp; omega) (Nat.le_refl _))
      go_ret
      exact ⟨⟨_, rfl, own_eq hownb hN2 (by rw [← HQ.out, List.map_append]; rfl)⟩, hBb⟩
end Fd
end Go.Proofs.YtcagkoakbdbbaaaGreatDoor
