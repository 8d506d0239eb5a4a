/- slices.Concat of two rows of bytes. · Apply at kind 6: a field put ahead, or the bytes as they are. -/
import Derived.Test.YtcagkoakbdbbaaaGreatDoorJ27
import Derived.Shelf.Spec.SlicesGrow
import Derived.Test.YtcagkoakbdbbaaaGreatDoorJ17
namespace Go.Proofs.YtcagkoakbdbbaaaGreatDoor
set_option linter.unusedVariables false
set_option linter.unusedSimpArgs false
open Go.RowKit

def grow_ren : Go.Shelf.Ren := ⟨fun | 4 => 37 | n => n, fun | 0 => 0 | 3 => 3 | 4 => 4 | 9 => 9 | 20 => 20 | 22 => 22 | 25 => 5 | n => n, fun | n => n⟩
theorem growB : Go.Proofs.Lays8.n4 Tryz.prog grow_ren := {
  mixed := by kernel_rfl
  f4 := ⟨Tryz.f37.name, by decide, Tryz.func37.trans (congrArg some (by kernel_rfl))⟩
  t0 := Tryz.underlying0
  a0 := Tryz.isAgg0
  z0 := Tryz.sizeOf0
  v0 := Tryz.zeroValue0
  t3 := Tryz.underlying3
  a3 := Tryz.isAgg3
  z3 := Tryz.sizeOf3
  v3 := Tryz.zeroValue3
  t4 := Tryz.underlying4
  a4 := Tryz.isAgg4
  z4 := Tryz.sizeOf4
  v4 := Tryz.zeroValue4
  t9 := Tryz.underlying9
  a9 := Tryz.isAgg9
  z9 := Tryz.sizeOf9
  v9 := Tryz.zeroValue9
  t20 := Tryz.underlying20
  a20 := Tryz.isAgg20
  z20 := Tryz.sizeOf20
  v20 := Tryz.zeroValue20
  t22 := Tryz.underlying22
  a22 := Tryz.isAgg22
  z22 := Tryz.sizeOf22
  v22 := Tryz.zeroValue22 }
/-- room made on nothing -/
theorem grow_any (n : Nat) (w : World) (h0 : 0 < n) (hn : n ≤ 1000000000) :
    Calls Tryz.prog 37 #[.slice none 0 0, .int .i64 n] w fun e w' => (∃ v, e = .returned v ∧ w'.ownsRow w.heap.size 5 1 v 0 []) ∧ Below w.heap.size w w' := by
  have hi := infoU8
  cases hq : Tryz.prog.info? 5 with
  | none => rw [hq] at hi; cases hi
  | some i0 =>
    rw [hq] at hi
    simp only [Option.map_some, Option.some.injEq, Prod.mk.injEq] at hi
    obtain ⟨hz, hs, hb⟩ := hi
    have h := Any8.slices_Grow_grow growB i0 _ hq hz (by omega) none 0 0 n [] w (Nat.le_refl _) (by omega) (by rw [hb]; omega) (by omega) (by simp) (fun _ => rfl) (fun a e => by cases e)
    refine h.mono ?_
    rintro e w' ⟨rfl, rfl⟩
    have hge := grownCap_ge w (0 + n) 0 (grow_ren.t 25)
    refine ⟨⟨_, rfl, by simp, .inr ⟨w.heap.size, _, _, rfl, Nat.le_refl _, heap_alloc_new w.drew _, Nat.zero_le _, grownCap_le_maxLen w (0 + n) 0 _ (by unfold maxLen; omega), ?_, by simp⟩⟩, ((Below.refl _ w).drew).alloc (Nat.le_refl _) _⟩
    have h1 : (Value.int IntKind.u8 0).cells.size = 1 := rfl
    simp only [Array.size_append, List.size_toArray, List.length_nil, size_zeroCells, h1]
    omega

set_option maxRecDepth 100000 in
set_option maxHeartbeats 2000000 in
/-- two rows, one behind the other -/
theorem concat_any (bg : Nat) (A1 A2 : Option Addr) (l1 l2 : List UInt8) (n1 c1 n2 c2 cc : Nat) (w : World) (hr : Row w bg 22 [.slice A1 n1 c1, .slice A2 n2 c2]) (h1 : Rb w A1 l1) (h2 : Rb w A2 l2) (e1 : l1.length = n1) (e2 : l2.length = n2) (h0 : 0 < n1) (hb1 : n1 ≤ 1000000) (hb2 : n2 ≤ 1000000) :
    Calls Tryz.prog 19 #[.slice (some ⟨bg, 0, none⟩) 2 2] w fun e w' => (∃ v, e = .returned v ∧ w'.ownsRow w.heap.size 5 1 v (n1 + n2) ((l1 ++ l2).map bv)) ∧ Below w.heap.size w w' := by
  have q0 := hr.cell (j := 0) rfl
  have q1 := hr.cell (j := 1) rfl
  have E1 := Lib.hid e1
  have E2 := Lib.hid e2
  clear e1 e2
  have hg := grow_any (n1 + n2) w (by omega) (by omega)
  have ec : ((n1 + n2 : Nat) : Int) = (n1 : Int) + (n2 : Int) := by omega
  rw [ec] at hg
  go_enter Tryz.func19, Tryz.ntmps19
  go_wp2_with fail
  go_loop [3, 11] (fun s3 s11 => ∃ i : Nat, s11 = .int .i64 i ∧ ((i = 0 ∧ s3 = .int .i64 0) ∨ (i = 1 ∧ s3 = .int .i64 n1) ∨ (i = 2 ∧ s3 = .int .i64 ((n1 : Int) + (n2 : Int))))) (fun _ s11 => 2 - (intOf s11).toNat)
  case atStart => exact ⟨0, rfl, .inl ⟨rfl, rfl⟩⟩
  case round =>
    obtain ⟨i, rfl, h⟩ := hrel
    rcases h with ⟨rfl, rfl⟩ | ⟨rfl, rfl⟩ | ⟨rfl, rfl⟩
    · go_wp2_with fail
      go_round
      case rel => exact ⟨1, rfl, .inr (.inl ⟨rfl, by go_num⟩)⟩
      case measure => simp [intOf]
    · go_wp2_with fail
      go_round
      case rel => exact ⟨2, rfl, .inr (.inr ⟨rfl, by go_num⟩)⟩
      case measure => simp [intOf]
    · go_wp2_with fail
      refine hg.mono ?_
      rintro e w1 ⟨⟨v, rfl, hown⟩, hb1'⟩
      obtain ⟨A0, c0, hv, _, _, _, _⟩ := own_form hown
      subst hv
      have hs1 := hb1'.size
      have q0' := (hr.below hb1').cell (j := 0) rfl
      have q1' := (hr.below hb1').cell (j := 1) rfl
      clear q0 q1 hg
      go_wp2_with fail
      go_loopw [6, 27] (fun s6 s27 wr => ∃ (i m : Nat) (d : List UInt8), s27 = .int .i64 i ∧ Hid (wr.ownsRow w.heap.size 5 1 s6 m (d.map bv)) ∧ Below w.heap.size w wr ∧ w1.heap.size ≤ wr.heap.size ∧ ((i = 0 ∧ m = 0 ∧ d = []) ∨ (i = 1 ∧ m = n1 ∧ d = l1) ∨ (i = 2 ∧ m = n1 + n2 ∧ d = l1 ++ l2))) (fun _ s27 _ => 2 - (intOf s27).toNat)
      case atStart => exact ⟨0, 0, [], rfl, Lib.hid hown, hb1', Nat.le_refl _, .inl ⟨rfl, rfl, rfl⟩⟩
      case round =>
        rename_i s6
        obtain ⟨i, m, d, rfl, HO, hB, hz, hcase⟩ := hrel
        obtain ⟨Ao, co, hv, _, _, _, _⟩ := own_form HO.out
        subst hv
        have q0r := (hr.below hB).cell (j := 0) rfl
        have q1r := (hr.below hB).cell (j := 1) rfl
        have hs := hB.size
        rcases hcase with ⟨rfl, rfl, rfl⟩ | ⟨rfl, rfl, rfl⟩ | ⟨rfl, rfl, rfl⟩
        · have s1 : Src Tryz.prog 1 22 (.slice A1 n1 c1) n1 (l1.map bv) wr := Src_rb Tryz.underlying22 E1.out (h1.below hB)
          go_wp2_with (at_builtin; refine wpList_app rfl (.tmp 31) (.tmp 32) _ _ rfl TU8 HO.out rfl s1 rfl (by omega) hs ?_; intro v2 w2 hown2 hgr2 hat2; have hB2 := below_app hB HO.out hgr2 hs (Nat.le_refl _); have hs2 := hgr2.size)
          go_roundw
          case rel => exact ⟨1, n1, l1, rfl, Lib.hid (by simpa using hown2), hB2, by omega, .inr (.inl ⟨rfl, rfl, rfl⟩)⟩
          case measure => simp [intOf]
        · have s2 : Src Tryz.prog 1 22 (.slice A2 n2 c2) n2 (l2.map bv) wr := Src_rb Tryz.underlying22 E2.out (h2.below hB)
          go_wp2_with (at_builtin; refine wpList_app rfl (.tmp 31) (.tmp 32) _ _ rfl TU8 HO.out rfl s2 rfl (by omega) hs ?_; intro v2 w2 hown2 hgr2 hat2; have hB2 := below_app hB HO.out hgr2 hs (Nat.le_refl _); have hs2 := hgr2.size)
          go_roundw
          case rel => exact ⟨2, _, _, rfl, Lib.hid (by rw [List.map_append]; exact hown2), hB2, by omega, .inr (.inr ⟨rfl, rfl, rfl⟩)⟩
          case measure => simp [intOf]
        · go_wp2_with fail
          go_ret
          exact ⟨⟨_, rfl, HO.out⟩, hB⟩
end Go.Proofs.YtcagkoakbdbbaaaGreatDoor

namespace Go.Proofs.YtcagkoakbdbbaaaGreatDoor
set_option linter.unusedVariables false
set_option linter.unusedSimpArgs false
open Go.RowKit

/-- the name put ahead -/
def trace (M : Int) : List UInt8 := trL.getD (M % 3).toNat []
def addF (M : Int) (t : List UInt8) : List UInt8 := trace M ++ [58, 32] ++ t ++ [13, 10]
def addOk (b t : List UInt8) : Bool := (readG [] (fl b)).isSome && decide (t.length ≤ 200) && vlOk t
def addL (b : List UInt8) (M : Int) (t : List UInt8) : List UInt8 := if addOk b t then addF M t ++ b else b
theorem trace_len (M : Int) : (trace M).length ≤ 8 := by
  have h1 := Int.emod_nonneg M (by decide : (3 : Int) ≠ 0)
  have h2 := Int.emod_lt_of_pos M (by decide : (0 : Int) < 3)
  have h3 : (M % 3).toNat = 0 ∨ (M % 3).toNat = 1 ∨ (M % 3).toNat = 2 := by omega
  unfold trace
  rcases h3 with h | h | h <;> rw [h] <;> decide
theorem ReadOut.whole {w : World} {b : List UInt8} {w' : World} {A0 A1 A2 : Option Addr} {n0 c0 n1 c1 n2 c2 : Nat} {wh ok : Bool} (h : ReadOut w b (.returned (.tuple #[.agg #[.slice A0 n0 c0, .slice A1 n1 c1, .slice A2 n2 c2], .bool wh, .bool ok])) w') : wh = (readG [] (fl b)).isSome := by
  unfold ReadOut at h
  cases hr : readG [] (fl b) with
  | none =>
    rw [hr] at h
    injection h with h
    injection h with h
    simp only [Array.mk.injEq, List.cons.injEq, Value.bool.injEq] at h
    rw [h.2.1]
    rfl
  | some p =>
    rw [hr] at h
    obtain ⟨fv, Ae, ce, Ab, cb, he, _⟩ := h
    injection he with he
    injection he with he
    simp only [Array.mk.injEq, List.cons.injEq, Value.bool.injEq] at he
    rw [he.2.1]
    rfl

set_option maxRecDepth 100000 in
set_option maxHeartbeats 1000000 in
theorem apply_add (A : Option Addr) (b t : List UInt8) (n c : Nat) (N M : Int) (w : World) (hG : Gl w) (hn : b.length = n) (hA : Rb w A b) (hpl : Pl A c) (hnc : n ≤ c) (hb : n ≤ 1000000) (ht : t.length ≤ 9223372036854775807) (hM : -9223372036854775808 ≤ M ∧ M ≤ 9223372036854775807) :
    Calls Tryz.prog 7 #[.slice A n c, .agg #[.int .i64 6, .int .i64 N, .int .i64 M, .string (bs t)]] w fun e w' => BOut (addL b M t) e w' ∧ Below w.heap.size w w' := by
  have hB0 : Below w.heap.size w (w.alloc (.cells #[.int .i64 6, .int .i64 N, .int .i64 M, .string (bs t)] 26)) := (Below.refl _ _).alloc (Nat.le_refl _) _
  have r0 := Row.new w #[.int .i64 6, .int .i64 N, .int .i64 M, .string (bs t)] 26
  have hrd := read_any A b n c (w.alloc (.cells #[.int .i64 6, .int .i64 N, .int .i64 M, .string (bs t)] 26)) hn (hA.below hB0) hnc hb
  have HN := Lib.hid hn
  clear hn
  go_enter Tryz.func7, Tryz.ntmps7
  go_wp2_with fail
  refine hrd.mono ?_
  rintro e w1 ⟨hro, hb1⟩
  obtain ⟨A0, n0, c0, A1, n1, c1, A2, n2, c2, wh, ok, rfl⟩ := hro.form
  have HWH := Lib.hid hro.whole
  have hB1 := hB0.trans (hb1.mono hB0.size)
  have r1 := r0.below hb1
  have r3 := r1.alloc (.cells #[.slice A0 n0 c0, .slice A1 n1 c1, .slice A2 n2 c2] 49)
  have hm3 := mark_below w1 #[.slice A0 n0 c0, .slice A1 n1 c1, .slice A2 n2 c2] 49 (0, 0)
  have hB3 := hB1.trans (hm3.mono hB1.size)
  clear hro hrd
  go_upto_region 2 with fail
  obtain ⟨w3, hw3⟩ : ∃ w3, w1.alloc (.cells #[.slice A0 n0 c0, .slice A1 n1 c1, .slice A2 n2 c2] 49) = w3 := ⟨_, rfl⟩
  rw [hw3] at r3 hB3 hm3 ⊢
  clear hw3 r1 r0 hm3 hB1 hb1 hB0
  have x0 := r3.cell (j := 0) rfl
  have x1 := r3.cell (j := 1) rfl
  have x2 := r3.cell (j := 2) rfl
  have x3 := r3.cell (j := 3) rfl
  have hcl : ∀ W, Below w.heap.size w W → Calls Tryz.prog 23 #[.slice A n c] W fun e w' => (∃ v, e = .returned v ∧ w'.ownsRow W.heap.size 5 1 v n (b.map bv)) ∧ Below W.heap.size W w' := fun W hW => clone_any A b n c W HN.out (hA.below hW) hnc hpl (by omega)
  cases wh with
  | false =>
    have HE : Hid (addL b M t = b) := Lib.hid (by unfold addL addOk; rw [← HWH.out]; rfl)
    go_wp2_with fail
    refine (hcl _ hB3).mono ?_
    rintro e w4 ⟨⟨v, rfl, hov⟩, hb4⟩
    obtain ⟨A5, c5, e5, g1, g2, g3, g4⟩ := BOut.own hov
    cases e5
    go_wp2_with fail
    go_ret
    exact ⟨⟨A5, c5, by rw [HE.out, HN.out]; rfl, by rw [HE.out]; exact g1, g2, by rw [HE.out]; exact g3, g4⟩, hB3.trans (hb4.mono hB3.size)⟩
  | true =>
    by_cases hl : t.length ≤ 200
    · have hl2 : ((t.length : Nat) : Int) ≤ 200 := by omega
      have hv := value_any t w3 ht
      obtain ⟨q, hq⟩ : ∃ q, vlOk t = q := ⟨_, rfl⟩
      have HQ := Lib.hid hq
      rw [hq] at hv
      clear hq
      go_wp2_with fail
      refine hv.mono ?_
      rintro e w4 ⟨rfl, hb4⟩
      have hB4 := hB3.trans (hb4.mono hB3.size)
      have r4 := r3.below hb4
      have y0 := r4.cell (j := 0) rfl
      have y1 := r4.cell (j := 1) rfl
      have y2 := r4.cell (j := 2) rfl
      have y3 := r4.cell (j := 3) rfl
      clear x0 x1 x2 x3 r3 hv hb4
      cases q with
      | false =>
        have HE : Hid (addL b M t = b) := Lib.hid (by unfold addL addOk; rw [HQ.out, Bool.and_false]; rfl)
        go_wp2_with fail
        refine (hcl _ hB4).mono ?_
        rintro e w5 ⟨⟨v, rfl, hov⟩, hb5⟩
        obtain ⟨A5, c5, e5, g1, g2, g3, g4⟩ := BOut.own hov
        cases e5
        go_wp2_with fail
        go_ret
        exact ⟨⟨A5, c5, by rw [HE.out, HN.out]; rfl, by rw [HE.out]; exact g1, g2, by rw [HE.out]; exact g3, g4⟩, hB4.trans (hb5.mono hB4.size)⟩
      | true =>
        have HE : Hid (addL b M t = addF M t ++ b) := Lib.hid (by unfold addL addOk; rw [HQ.out, ← HWH.out, decide_eq_true hl]; rfl)
        obtain ⟨a, haM⟩ : ∃ a : Nat, M % 3 = (a : Int) := ⟨(M % 3).toNat, by have := Int.emod_nonneg M (by decide : (3 : Int) ≠ 0); omega⟩
        have ha3 : a < 3 := by have := Int.emod_lt_of_pos M (by decide : (0 : Int) < 3); omega
        obtain ⟨s, hs⟩ : ∃ s, trL[a]? = some s := ⟨_, List.getElem?_eq_getElem (by simpa [trL] using ha3)⟩
        have hst : trace M = s := by unfold trace; rw [haM, Int.toNat_natCast, List.getD_eq_getElem?_getD, hs]; rfl
        have hsl : s.length ≤ 8 := by rw [← hst]; exact trace_len M
        have hsl0 : 0 < s.length := by
          have hall : ∀ x ∈ trL, 0 < x.length := by decide
          exact hall s (List.mem_of_getElem? hs)
        have HAF : Hid (addF M t = s ++ [58, 32] ++ t ++ [13, 10]) := Lib.hid (by unfold addF; rw [hst])
        have hre : ∀ W, Calls Tryz.prog 20 #[.int .i64 M, .int .i64 3] W fun e w' => e = .returned (.int .i64 (a : Int)) ∧ w' = W := fun W => by rw [← haM]; exact rest_any M 3 W (by omega) (by omega) hM
        have hG4 := hG.below hB4
        have htc := hG4.tr a s hs
        clear hst hs haM
        obtain ⟨L, hL⟩ : ∃ L, s ++ [58, 32] ++ t ++ [13, 10] = L := ⟨_, rfl⟩
        have hsum : bs s ++ (⟨#[58, 32]⟩ : ByteArray) ++ bs t ++ (⟨#[13, 10]⟩ : ByteArray) = bs L := by
          rw [← hL, ← bs_add, ← bs_add, ← bs_add]; rfl
        obtain ⟨nl, hnl⟩ : ∃ nl, L.length = nl := ⟨_, rfl⟩
        have hLl : 0 < nl ∧ nl ≤ 300 := by
          rw [← hnl, ← hL]
          simp only [List.length_append, List.length_cons, List.length_nil]
          omega
        have HNL := Lib.hid hnl
        rw [hL] at HAF
        have hcv0 := fun W => conv_bytes (P := Tryz.prog) (src := 9) (dst := 22) (e := 5) Tryz.underlying9 Tryz.underlying22 Tryz.underlying5 L W
        obtain ⟨fc, hc1⟩ := Classical.axiomOfChoice hcv0
        obtain ⟨fX, hc2⟩ := Classical.axiomOfChoice hc1
        obtain ⟨ff, hc3⟩ := Classical.axiomOfChoice hc2
        have hcv : ∀ W, (convert 9 22 (.string (bs L))).run Tryz.prog W = .ok (.slice (some ⟨W.heap.size, 0, none⟩) nl (fc W)) (W.drew.alloc (.cells (fX W) 5 (ff W))) := fun W => by rw [← hnl]; exact (hc3 W).1
        have hcw : Hid (∀ W, L.length ≤ fc W ∧ Rb (W.drew.alloc (.cells (fX W) 5 (ff W))) (some ⟨W.heap.size, 0, none⟩) L) := Lib.hid fun W => (hc3 W).2
        clear hcv0 hc1 hc2 hc3 hL HWH HQ hnl
        have ha3i : (a : Int) < 3 := by omega
        have hB7 : Below w4.heap.size w4 ((w4.alloc (.cells (fX w4.drew) 5 (ff w4.drew))).alloc (.cells #[.slice (some ⟨w4.heap.size, 0, none⟩) nl (fc w4.drew), .slice A n c] 22)).drew.drew := (((Below.refl _ w4).alloc (Nat.le_refl _) _).alloc (by simp) _).drew.drew
        have hrow : Row ((w4.alloc (.cells (fX w4.drew) 5 (ff w4.drew))).alloc (.cells #[.slice (some ⟨w4.heap.size, 0, none⟩) nl (fc w4.drew), .slice A n c] 22)).drew.drew (w4.heap.size + 1) 22 [.slice (some ⟨w4.heap.size, 0, none⟩) nl (fc w4.drew), .slice A n c] := by
          have h := Row.new (w4.alloc (.cells (fX w4.drew) 5 (ff w4.drew))) #[.slice (some ⟨w4.heap.size, 0, none⟩) nl (fc w4.drew), .slice A n c] 22
          rw [World.size_alloc] at h
          exact h
        have hRL : Rb ((w4.alloc (.cells (fX w4.drew) 5 (ff w4.drew))).alloc (.cells #[.slice (some ⟨w4.heap.size, 0, none⟩) nl (fc w4.drew), .slice A n c] 22)).drew.drew (some ⟨w4.heap.size, 0, none⟩) L :=
          Rb.below (w := w4.alloc (.cells (fX w4.drew) 5 (ff w4.drew))) (hcw.out w4.drew).2 (((Below.refl _ _).alloc (Nat.le_refl _) _).drew.drew)
        have hcc := concat_any (w4.heap.size + 1) (some ⟨w4.heap.size, 0, none⟩) A L b nl (fc w4.drew) n c 0 _ hrow hRL ((hA.below hB4).below hB7) HNL.out HN.out hLl.1 (by omega) (by omega)
        clear hrow hRL
        go_upto_region 7 with fail
        go_region_with (first
          | (go_at_call 20; (with_reducible refine (hre _).mono ?_); rintro e w5 ⟨rfl, rfl⟩)
          | (go_at_call 19; refine hcc.mono ?_; rintro e w6 ⟨⟨v, rfl, hov⟩, hb6⟩))
        all_goals
          obtain ⟨A5, c5, e5, g1, g2, g3, g4⟩ := BOut.own (n := nl + n) (L := L ++ b) hov
          cases e5
          go_wp2_with fail
          go_ret
          exact ⟨⟨A5, c5, by rw [HE.out, HAF.out]; rfl, by rw [HE.out, HAF.out]; exact g1, g2, by rw [HE.out, HAF.out]; exact g3, g4⟩, hB4.trans ((hB7.trans (hb6.mono hB7.size)).mono hB4.size)⟩
    · have HE : Hid (addL b M t = b) := Lib.hid (by unfold addL addOk; rw [decide_eq_false hl, Bool.and_false, Bool.false_and]; rfl)
      have hl2 : ¬ ((t.length : Nat) : Int) ≤ 200 := by omega
      go_wp2_with fail
      refine (hcl _ hB3).mono ?_
      rintro e w4 ⟨⟨v, rfl, hov⟩, hb4⟩
      obtain ⟨A5, c5, e5, g1, g2, g3, g4⟩ := BOut.own hov
      cases e5
      go_wp2_with fail
      go_ret
      exact ⟨⟨A5, c5, by rw [HE.out, HN.out]; rfl, by rw [HE.out]; exact g1, g2, by rw [HE.out]; exact g3, g4⟩, hB3.trans (hb4.mono hB3.size)⟩
end Go.Proofs.YtcagkoakbdbbaaaGreatDoor
