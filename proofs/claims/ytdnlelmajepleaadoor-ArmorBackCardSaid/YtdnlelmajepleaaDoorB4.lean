/- The statement ArmorBack: the walk of the law. -/
import Derived.Test.YtdnlelmajepleaaDoorF3
import Derived.Laws.Bits128
import Derived.Laws.BitsAllLaws
namespace Go.Proofs.YtdnlelmajepleaaDoor
open Go.RowKit

theorem own_kind {w : World} {base e size n c : Nat} {A : Option Addr} {xs : List Value} (h : w.ownsRow base e size (.slice A n c) n xs) : (A = none ∧ n = 0 ∧ c = 0) ∨ ∃ b o, A = some ⟨b, o, none⟩ := by
  rcases h.2 with ⟨hv, h0⟩ | ⟨g, cap, cur, hv, _⟩
  · cases hv
    exact .inl ⟨rfl, h0, rfl⟩
  · cases hv
    exact .inr ⟨_, _, rfl⟩
theorem and16 (z : Int) : bits .and .i64 z 65535 = z % 65536 := by
  have h127 : (BitVec.ofInt 64 65535).toNat = 2 ^ 16 - 1 := by decide
  have key : (BitVec.ofInt 64 z &&& BitVec.ofInt 64 65535).toNat = (z % ((2 ^ 64 : Nat) : Int)).toNat % 2 ^ 16 := by
    rw [BitVec.toNat_and, BitVec.toNat_ofInt, h127, Nat.and_two_pow_sub_one_eq_mod]
  show IntKind.i64.wrap ((BitVec.ofInt 64 z &&& BitVec.ofInt 64 65535).toNat : Nat) = z % 65536
  rw [key, IntKind.wrap_i64]
  omega
theorem and3 (z : UInt8) : bits .and .u8 (z.toNat : Int) 3 = ((z.toNat % 4 : Nat) : Int) := by
  have h := z.toNat_lt
  rw [show (3 : Int) = ((3 : Nat) : Int) from rfl, u8_and_nat _ _ (by omega) (by omega)]
  exact congrArg _ (Nat.and_two_pow_sub_one_eq_mod _ 2)

theorem sgs_nob : ∀ c ∈ sgs, isb c.toNat = false := by decide
theorem gsign_nob (ys : List UInt8) (i : Nat) : isb (gsign ys i).toNat = false := by
  unfold gsign
  split
  · rfl
  · have : ∀ T, T < 64 → isb (sgs.getD T 0).toNat = false := by decide
    exact this _ (Nat.mod_lt _ (by omega))
theorem enc_nob (xs : List UInt8) : ∀ c ∈ enc xs, isb c.toNat = false := by
  intro c hc
  unfold enc at hc
  rw [List.mem_flatMap] at hc
  obtain ⟨j, _, hc⟩ := hc
  unfold enc3 at hc
  split at hc
  · simp at hc
  · rw [List.mem_map] at hc
    obtain ⟨i, _, rfl⟩ := hc
    exact gsign_nob _ _
theorem chk_flat (l : List UInt8) (k : Nat) (hk : 1 ≤ k) (m : Nat) : (List.range m).flatMap (fun j => chk l k j) = l.take (m * k) := by
  induction m with
  | zero => simp
  | succ m ih =>
    rw [List.range_succ, List.flatMap_append, ih, Nat.succ_mul, List.take_add]
    simp [chk]
theorem nob_flatMap {α : Type} (f : α → List UInt8) (xs : List α) : nob (xs.flatMap f) = xs.flatMap fun x => nob (f x) := by
  induction xs with
  | nil => rfl
  | cons x xs ih => rw [List.flatMap_cons, nob_append, ih, List.flatMap_cons]
theorem lin_nob (l : List UInt8) (h : ∀ c ∈ l, isb c.toNat = false) : nob (lin l) = l := by
  unfold lin
  rw [nob_flatMap]
  have e : ∀ j, nob (chk l 76 j ++ [13, 10]) = chk l 76 j := fun j => by
    rw [nob_append, nob_all (l := chk l 76 j) (fun c hc => h c (List.mem_of_mem_drop (List.mem_of_mem_take hc)))]
    simp [nob, isb]
  simp only [e]
  rw [chk_flat l 76 (by omega)]
  exact List.take_of_length_le (by omega)
theorem nob_put (l : List UInt8) (k : Nat) (c : UInt8) (h : isb c.toNat = true) : nob (l.take k ++ [c] ++ l.drop k) = nob l := by
  rw [nob_append, nob_append, nob_one h, List.append_nil, ← nob_append, List.take_append_drop]

set_option maxRecDepth 100000 in
set_option maxHeartbeats 2000000 in
theorem back_any (A I C : Option Addr) (n m k c d g : Nat) (xs ks : List UInt8) (is : List Int) (w : World) (hT : Lib.Utf8Tabs 1 2 w)
    (hn : xs.length = n) (hm : is.length = m) (hk : ks.length = k) (hA : Rb w A xs) (hI : Rv w I (is.map (Value.int .i64))) (hC : Rb w C ks) (hnc : n ≤ c) (hmd : m ≤ d) (hkg : k ≤ g) :
    Calls Tryd.prog 4 #[.slice A n c, .slice I m d, .slice C k g] w fun e w' => e = .returned (.bool true) ∧ Below w.heap.size w w' := by
  have HN := Lib.hid hn
  have HM := Lib.hid hm
  have HK := Lib.hid hk
  clear hn hm hk
  go_enter Tryd.func4, Tryd.ntmps4
  go_wp2_with fail
  refine (speaks_any _).mono ?_
  rintro e w1 ⟨rfl, hb1⟩
  by_cases h1 : 1000 < n
  · go_wp2
    go_ret
    exact ⟨rfl, hb1⟩
  by_cases h2 : 40 < m
  · go_wp2
    go_ret
    exact ⟨rfl, hb1⟩
  go_wp2_with fail
  refine (enc_any A xs n c w1 HN.out (hA.below hb1) hnc (by omega)).mono ?_
  rintro e w2 ⟨rfl, hb2⟩
  have hel : (enc xs).length ≤ 4 * n + 4 := by have := enc_length xs; rw [HN.out] at this; omega
  have hB2 := hb1.trans (hb2.mono hb1.size)
  go_wp2_with fail
  refine (dec_any (enc xs) _ (by omega)).mono ?_
  rintro e w3 hd
  obtain ⟨A3, n3, c3, a3, k3, rfl, h31, h32, h33, h34, h35, hb3⟩ := dec_form hd
  obtain ⟨rfl, h36⟩ : k3 = 0 ∧ enc a3 = enc xs := by
    rcases h35 with h | ⟨_, h⟩
    · exact h
    · exact absurd rfl (h xs)
  obtain rfl := enc_inj _ _ h36
  obtain rfl : n3 = n := by rw [← h31, HN.out]
  have hB3 := hB2.trans (hb3.mono hB2.size)
  clear hd h31 h35 h36
  go_wp2_with fail
  refine (same_any A3 A a3 a3 n3 n3 c3 c w3 HN.out HN.out h34 (hA.below hB3) (by omega)).mono ?_
  rintro e w4 ⟨rfl, hb4⟩
  rw [decide_eq_true rfl]
  have hB4 := hB3.trans ((hb4.below w3.heap.size).mono hB3.size)
  clear hb4 hb3 hb2 hb1 h34
  go_wp2_with fail
  refine (lines_any A a3 n3 c w4 HN.out (hA.below hB4) hnc (by omega)).mono ?_
  rintro e w5 ⟨⟨v, rfl, hown⟩, hb5⟩
  have hB5 := hB4.trans (hb5.mono hB4.size)
  have hll := lin_len (enc a3)
  have hnl := lin_nob (enc a3) (enc_nob a3)
  obtain ⟨A5, c5, rfl, hc5, _, hR5, hl5⟩ := own_slice hown
  have hown5 := hown
  generalize hes : enc a3 = es at *
  have HES := Lib.hid hes
  have HNL := Lib.hid hnl
  clear hes hnl hown hb5 hl5
  generalize lin es = L at *
  have hA5 : (A5 = none ∧ L.length = 0 ∧ c5 = 0) ∨ ∃ b o, A5 = some ⟨b, o, none⟩ := own_kind hown5
  clear hown5
  have hpu : ∀ W, Sem.run Tryd.prog (pure #[] : Sem (Array Value)) W = .ok #[] W := fun _ => rfl
  have hst : ∀ a W, Sem.run Tryd.prog (storeCells a []) W = .ok () W := fun _ _ => rfl
  go_upto_block 0 with fail
  go_cut [9] (fun s9 wx => ∃ B u q ys, s9 = .slice B u q ∧ ys.length = u ∧ u ≤ q ∧ u ≤ 100000 ∧ Rb wx B ys ∧ nob ys = es ∧ Below w.heap.size w wx)
  case first =>
    go_wp2_with fail
    go_loopw [9, 44] (fun s9 s44 wx => ∃ (j : Nat) (B : Option Addr) (u q : Nat) (ys : List UInt8), s44 = .int .i64 j ∧ s9 = .slice B u q ∧ j ≤ m ∧ ys.length = u ∧ u ≤ q ∧ u ≤ 90000 + j ∧ Rb wx B ys ∧ nob ys = es ∧ Below w.heap.size w wx ∧
      ((B = none ∧ u = 0 ∧ q = 0) ∨ ∃ b o, B = some ⟨b, o, none⟩)) (fun _ i _ => m - (intOf i).toNat)
    case atStart => exact ⟨0, A5, L.length, c5, L, rfl, rfl, by omega, rfl, hc5, by omega, hR5, HNL.out, hB5, hA5⟩
    case round =>
      obtain ⟨j, B, u, q, ys, rfl, rfl, hjm, hyl, huq, hu9, hRB, hny, hB, hkind⟩ := hrel
      have HY := Lib.hid hyl
      have HNY := Lib.hid hny
      clear hyl hny hR5 hA5
      by_cases hlt : j < m
      · obtain ⟨bI, oI, v, rfl, hv, hcI⟩ := (hI.below hB).one (k := j) (by simp [HM.out]; omega)
        obtain ⟨z, rfl⟩ : ∃ z, v = .int .i64 z := by
          have := hv.out
          simp only [List.getElem?_map, Option.map_eq_some_iff] at this
          obtain ⟨z, _, rfl⟩ := this
          exact ⟨z, rfl⟩
        by_cases hk0 : k = 0
        · have hbk : ((k : Int) == 0) = true := by simp [hk0]
          go_wp2_with fail
          go_meet
          exact ⟨B, u, q, ys, rfl, HY.out, huq, by omega, hRB, HNY.out, hB⟩
        · have hbk : ((k : Int) == 0) = false := by simp; omega
          have h16 := and16 z
          obtain ⟨z0, hz0⟩ : ∃ z0 : Nat, z % 65536 = (z0 : Int) := ⟨(z % 65536).toNat, by omega⟩
          rw [hz0] at h16
          have hz1 : z0 < 65536 := by omega
          have hz2 : (z0 : Int).tmod ((u : Int) + 1) = ((z0 % (u + 1) : Nat) : Int) := by
            rw [show ((u : Int) + 1) = ((u + 1 : Nat) : Int) from rfl, ← Int.ofNat_tmod]
          have hz3 : z0 % (u + 1) ≤ u := by have := Nat.mod_lt z0 (show 0 < u + 1 by omega); omega
          clear hz0
          generalize z0 % (u + 1) = x at *
          obtain ⟨bC, oC, y, rfl, hy, hcC0⟩ := hC.one (k := j % k) (by rw [HK.out]; exact Nat.mod_lt _ (by omega))
          have hbC := cell_lt hcC0
          have hcC := (hB.cell (p := ⟨bC, oC + j % k, none⟩) hbC).trans hcC0
          have hjk : (j : Int).tmod (k : Int) = ((j % k : Nat) : Int) := by rw [← Int.ofNat_tmod]
          have hjk2 : j % k < k := Nat.mod_lt _ (by omega)
          have h3 := and3 y
          clear hy
          have h4 : y.toNat % 4 < (⟨#[32, 9, 13, 10]⟩ : ByteArray).size := Nat.mod_lt _ (by decide)
          obtain ⟨cb, hcb⟩ : ∃ cb, (⟨#[32, 9, 13, 10]⟩ : ByteArray)[y.toNat % 4] = cb := ⟨_, rfl⟩
          have hcbb : isb cb.toNat = true := by
            have : ∀ t (h : t < (⟨#[32, 9, 13, 10]⟩ : ByteArray).size), isb ((⟨#[32, 9, 13, 10]⟩ : ByteArray)[t]).toNat = true := by decide
            rw [← hcb]
            exact this _ h4
          rcases hkind with ⟨rfl, rfl, rfl⟩ | ⟨b, o, rfl⟩
          · obtain rfl : x = 0 := by omega
            have hown0 := World.ownsRow_made (base := wr.heap.size) (e := 5) (size := 1) wr #[] 0 (Nat.le_refl _) (by unfold maxLen; omega) rfl
            have hx0 : Below wr.heap.size wr (wr.alloc (.cells #[] 5)) := (Below.refl _ _).alloc (Nat.le_refl _) _
            have hBs := hB.size
            have hsz0 := hx0.size
            have hyn : ys = [] := List.eq_nil_of_length_eq_zero HY.out
            have HYN := Lib.hid hyn
            clear hyn
            go_wp2_with (first
              | (at_builtin; refine wpList_app rfl (.tmp 58) (.tmp 61) _ _ rfl TU8 hown0 rfl (Src_rb (l := []) Tryd.underlying22 (show ([] : List UInt8).length = 0 from rfl) (Rb.nil _ _)) rfl (by omega) hsz0 ?_; intro v2 w2 hown2 hgr2 hat2; have hb2 := below_app hx0 hown0 hgr2 hsz0 (Nat.le_refl _); have hs2 := hb2.size; have hcC2 := (hb2.cell (p := ⟨bC, oC + j % k, none⟩) (Nat.lt_of_lt_of_le hbC hBs)).trans hcC)
              | (at_builtin; refine wpList_app rfl (.tmp 63) (.tmp 73) _ _ rfl TU8 (hown2.alloc (.cells #[bv cb] 5)) rfl (Src_rv (news := [bv cb]) Tryd.underlying22 rfl (Rv_new w2 _ _ _ rfl) (by simp [Value.oneCell', bv]) (by omega)) rfl (by omega) (by simp; omega) ?_; intro v3 w3 hown3 hgr3 hat3; have hb3 := below_app (hb2.alloc hs2 (.cells #[bv cb] 5)) (hown2.alloc _) hgr3 (by simp; omega) (Nat.le_refl _); have hs3 := hb3.size)
              | (at_builtin; refine wpList_app rfl (.tmp 75) (.tmp 78) _ _ rfl TU8 hown3 rfl (Src_rb (l := []) Tryd.underlying22 (show ([] : List UInt8).length = 0 from rfl) (Rb.nil _ _)) rfl (by omega) hs3 ?_; intro v4 w4 hown4 hgr4 hat4; have hb4 := below_app hb3 hown3 hgr4 hs3 (Nat.le_refl _)))
            have hown6 : w4.ownsRow wr.heap.size 5 1 v4 1 ([cb].map bv) := by
              have e : 0 + 0 + 1 + 0 = 1 := rfl
              rw [← e]
              exact hown4
            obtain ⟨A6, c6, rfl, hc6, _, hR6, _⟩ := own_slice hown6
            go_wp2_with fail
            go_roundw
            case rel => exact ⟨j + 1, A6, 1, c6, [cb], by go_num, rfl, by omega, rfl, hc6, by omega, hR6, by rw [nob_one hcbb, ← HNY.out, HYN.out]; rfl, hB.trans (hb4.mono hBs), own_kind hown6⟩
            case measure => simp [intOf]; omega
          rcases Nat.eq_zero_or_pos q with rfl | hq0
          · obtain rfl : u = 0 := by omega
            obtain rfl : x = 0 := by omega
            have hown0 := World.ownsRow_made (base := wr.heap.size) (e := 5) (size := 1) wr #[] 0 (Nat.le_refl _) (by unfold maxLen; omega) rfl
            have hx0 : Below wr.heap.size wr (wr.alloc (.cells #[] 5)) := (Below.refl _ _).alloc (Nat.le_refl _) _
            have hBs := hB.size
            have hsz0 := hx0.size
            have hyn : ys = [] := List.eq_nil_of_length_eq_zero HY.out
            have HYN := Lib.hid hyn
            clear hyn
            go_wp2_with (first
              | (at_builtin; refine wpList_app rfl (.tmp 58) (.tmp 61) _ _ rfl TU8 hown0 rfl (Src_rb (l := []) Tryd.underlying22 (show ([] : List UInt8).length = 0 from rfl) (Rb.nil _ _)) rfl (by omega) hsz0 ?_; intro v2 w2 hown2 hgr2 hat2; have hb2 := below_app hx0 hown0 hgr2 hsz0 (Nat.le_refl _); have hs2 := hb2.size; have hcC2 := (hb2.cell (p := ⟨bC, oC + j % k, none⟩) (Nat.lt_of_lt_of_le hbC hBs)).trans hcC)
              | (at_builtin; refine wpList_app rfl (.tmp 63) (.tmp 73) _ _ rfl TU8 (hown2.alloc (.cells #[bv cb] 5)) rfl (Src_rv (news := [bv cb]) Tryd.underlying22 rfl (Rv_new w2 _ _ _ rfl) (by simp [Value.oneCell', bv]) (by omega)) rfl (by omega) (by simp; omega) ?_; intro v3 w3 hown3 hgr3 hat3; have hb3 := below_app (hb2.alloc hs2 (.cells #[bv cb] 5)) (hown2.alloc _) hgr3 (by simp; omega) (Nat.le_refl _); have hs3 := hb3.size)
              | (at_builtin; refine wpList_app rfl (.tmp 75) (.tmp 78) _ _ rfl TU8 hown3 rfl (Src_rb (l := []) Tryd.underlying22 (show ([] : List UInt8).length = 0 from rfl) (Rb.nil _ _)) rfl (by omega) hs3 ?_; intro v4 w4 hown4 hgr4 hat4; have hb4 := below_app hb3 hown3 hgr4 hs3 (Nat.le_refl _)))
            have hown6 : w4.ownsRow wr.heap.size 5 1 v4 1 ([cb].map bv) := by
              have e : 0 + 0 + 1 + 0 = 1 := rfl
              rw [← e]
              exact hown4
            obtain ⟨A6, c6, rfl, hc6, _, hR6, _⟩ := own_slice hown6
            go_wp2_with fail
            go_roundw
            case rel => exact ⟨j + 1, A6, 1, c6, [cb], by go_num, rfl, by omega, rfl, hc6, by omega, hR6, by rw [nob_one hcbb, ← HNY.out, HYN.out]; rfl, hB.trans (hb4.mono hBs), own_kind hown6⟩
            case measure => simp [intOf]; omega
          · have hBs := hB.size
            have hown0 := World.ownsRow_made (base := wr.heap.size) (e := 5) (size := 1) wr #[] 0 (Nat.le_refl _) (by unfold maxLen; omega) rfl
            have hx0 : Below wr.heap.size wr (wr.alloc (.cells #[] 5)) := (Below.refl _ _).alloc (Nat.le_refl _) _
            have hBs := hB.size
            have hsz0 := hx0.size
            rcases (by omega : x < q ∨ x = q) with hxq | hxq
            · go_wp2_with (first
                | (at_builtin; refine wpList_app rfl (.tmp 58) (.tmp 61) _ _ rfl TU8 hown0 rfl (Src_rb (l := ys.take x) Tryd.underlying22 (by rw [List.length_take, HY.out]; omega) (Rb.below (w := wr) (hRB.take x) ((Below.refl _ _).alloc (Nat.le_refl _) _)) ) rfl (by omega) hsz0 ?_; intro v2 w2 hown2 hgr2 hat2; have hb2 := below_app hx0 hown0 hgr2 hsz0 (Nat.le_refl _); have hs2 := hb2.size; have hcC2 := (hb2.cell (p := ⟨bC, oC + j % k, none⟩) (Nat.lt_of_lt_of_le hbC hBs)).trans hcC)
                | (at_builtin; refine wpList_app rfl (.tmp 63) (.tmp 73) _ _ rfl TU8 (hown2.alloc (.cells #[bv cb] 5)) rfl (Src_rv (news := [bv cb]) Tryd.underlying22 rfl (Rv_new w2 _ _ _ rfl) (by simp [Value.oneCell', bv]) (by omega)) rfl (by omega) (by simp; omega) ?_; intro v3 w3 hown3 hgr3 hat3; have hb3 := below_app (hb2.alloc hs2 (.cells #[bv cb] 5)) (hown2.alloc _) hgr3 (by simp; omega) (Nat.le_refl _); have hs3 := hb3.size; have hR3 := hRB.below hb3)
                | (at_builtin; refine wpList_app rfl (.tmp 75) (.tmp 78) _ _ rfl TU8 hown3 rfl (Src_rb (l := ys.drop x) Tryd.underlying22 (by rw [List.length_drop, HY.out]) (hR3.drop x)) rfl (by omega) hs3 ?_; intro v4 w4 hown4 hgr4 hat4; have hb4 := below_app hb3 hown3 hgr4 hs3 (Nat.le_refl _)))
              have hl6 : (ys.take x ++ [cb] ++ ys.drop x).length = u + 1 := by simp [HY.out]; omega
              have hown6 : w4.ownsRow wr.heap.size 5 1 v4 (u + 1) ((ys.take x ++ [cb] ++ ys.drop x).map bv) := by
                have e : 0 + x + 1 + (u - x) = u + 1 := by omega
                rw [← e, List.map_append, List.map_append]
                exact hown4
              obtain ⟨A6, c6, rfl, hc6, _, hR6, _⟩ := own_slice hown6
              go_wp2_with fail
              go_roundw
              case rel => exact ⟨j + 1, A6, u + 1, c6, _, by go_num, rfl, by omega, hl6, hc6, by omega, hR6, by rw [nob_put _ _ _ hcbb, HNY.out], hB.trans (hb4.mono hBs), own_kind hown6⟩
              case measure => simp [intOf]; omega
            · obtain rfl : u = x := by omega
              obtain rfl : q = u := by omega
              have hdx : ys.drop q = [] := List.drop_eq_nil_of_le (by rw [HY.out]; omega)
              have HDX := Lib.hid hdx
              clear hdx
              go_wp2_with (first
                | (at_builtin; refine wpList_app rfl (.tmp 58) (.tmp 61) _ _ rfl TU8 hown0 rfl (Src_rb (l := ys.take q) Tryd.underlying22 (by simp [HY.out]) (Rb.below (w := wr) (hRB.take q) ((Below.refl _ _).alloc (Nat.le_refl _) _)) ) rfl (by omega) hsz0 ?_; intro v2 w2 hown2 hgr2 hat2; have hb2 := below_app hx0 hown0 hgr2 hsz0 (Nat.le_refl _); have hs2 := hb2.size; have hcC2 := (hb2.cell (p := ⟨bC, oC + j % k, none⟩) (Nat.lt_of_lt_of_le hbC hBs)).trans hcC)
                | (at_builtin; refine wpList_app rfl (.tmp 63) (.tmp 73) _ _ rfl TU8 (hown2.alloc (.cells #[bv cb] 5)) rfl (Src_rv (news := [bv cb]) Tryd.underlying22 rfl (Rv_new w2 _ _ _ rfl) (by simp [Value.oneCell', bv]) (by omega)) rfl (by omega) (by simp; omega) ?_; intro v3 w3 hown3 hgr3 hat3; have hb3 := below_app (hb2.alloc hs2 (.cells #[bv cb] 5)) (hown2.alloc _) hgr3 (by simp; omega) (Nat.le_refl _); have hs3 := hb3.size; have hR3 := hRB.below hb3)
                | (at_builtin; refine wpList_app rfl (.tmp 75) (.tmp 78) _ _ rfl TU8 hown3 rfl (Src_rb (l := ys.drop q) Tryd.underlying22 (by simp [HY.out]) (by rw [HDX.out]; exact Rb.nil _ _)) rfl (by omega) hs3 ?_; intro v4 w4 hown4 hgr4 hat4; have hb4 := below_app hb3 hown3 hgr4 hs3 (Nat.le_refl _)))
              have hl6 : (ys.take q ++ [cb] ++ ys.drop q).length = q + 1 := by simp [HY.out]
              have hown6 : w4.ownsRow wr.heap.size 5 1 v4 (q + 1) ((ys.take q ++ [cb] ++ ys.drop q).map bv) := by
                have e : 0 + q + 1 + 0 = q + 1 := by omega
                rw [← e, List.map_append, List.map_append]
                exact hown4
              obtain ⟨A6, c6, rfl, hc6, _, hR6, _⟩ := own_slice hown6
              go_wp2_with fail
              go_roundw
              case rel => exact ⟨j + 1, A6, q + 1, c6, _, by go_num, rfl, by omega, hl6, hc6, by omega, hR6, by rw [nob_put _ _ _ hcbb, HNY.out], hB.trans (hb4.mono hBs), own_kind hown6⟩
              case measure => simp [intOf]; omega
      · go_wp2_with fail
        go_meet
        exact ⟨B, u, q, ys, rfl, HY.out, huq, by omega, hRB, HNY.out, hB⟩
  case rest =>
    obtain ⟨B, u, q, ys, rfl, hyl, huq, hu, hRB, hny, hB⟩ := hcut
    have HY := Lib.hid hyl
    have HNY := Lib.hid hny
    clear hyl hny hR5
    go_wp2_with fail
    refine (read_any B ys u q wc (tabs_below hT hB) HY.out hRB huq (by omega)).mono ?_
    rintro e w7 hd
    obtain ⟨A7, n7, c7, a7, k7, rfl, h71, h72, h73, h74, h75, hb7⟩ := dec_form hd
    rw [HNY.out, ← HES.out] at h75
    obtain ⟨rfl, h76⟩ : k7 = 0 ∧ enc a7 = enc a3 := by
      rcases h75 with h | ⟨_, h⟩
      · exact h
      · exact absurd rfl (h a3)
    obtain rfl := enc_inj _ _ h76
    obtain rfl : n7 = n3 := by rw [← h71, HN.out]
    have hB7 := hB.trans (hb7.mono hB.size)
    clear hd h71 h75 h76
    go_wp2_with fail
    refine (same_any A7 A a7 a7 n7 n7 c7 c w7 HN.out HN.out h74 (hA.below hB7) (by omega)).mono ?_
    rintro e w8 ⟨rfl, hb8⟩
    rw [decide_eq_true rfl]
    go_wp2_with fail
    go_ret
    exact ⟨rfl, hB7.trans ((hb8.below w7.heap.size).mono hB7.size)⟩
end Go.Proofs.YtdnlelmajepleaaDoor
