/- TalkOrder's walk. -/
import Derived.Test.YtddjabjloplhiaaDoorY8
namespace Go.Proofs.YtddjabjloplhiaaDoor
set_option linter.unusedVariables false
set_option linter.unusedSimpArgs false
open Go.RowKit

theorem Mx.base {w : World} (h : Mx w) : MxB w w.heap.size := by
  obtain ⟨m, hm⟩ := h
  exact ⟨⟨m, hm⟩, cell_lt hm⟩
theorem MxB.below {w w' : World} {base : Nat} (h : MxB w base) (hb : Below w.heap.size w w') : MxB w' base := ⟨h.1.below hb, h.2⟩
theorem MxB.belowB {w w' : World} {base : Nat} (h : MxB w base) (hb : Below base w w') : MxB w' base := by
  obtain ⟨⟨m, hm⟩, hl⟩ := h
  exact ⟨⟨m, (hb.cell (p := ⟨0, 0, none⟩) hl).trans hm⟩, hl⟩
theorem ex_late : cmd ⟨0, [], []⟩ [100, 97, 116, 97] = (lateB, ⟨0, [], []⟩) := by kernel_rfl

set_option maxRecDepth 100000 in
set_option maxHeartbeats 1000000 in
theorem speaks21_any (w : World) (hw : Mx w) : Calls Tryd.prog 4 #[] w fun e w' => e = .returned (.bool true) ∧ Below w.heap.size w w' := by
  have kc := fun (w : World) (C : Array Value) (n c : Nat) => Lib.run_convert_bytes_const (P := Tryd.prog) w 27 5 C n c Tryd.underlying27 Tryd.underlying5
  go_enter Tryd.func4, Tryd.ntmps4
  go_wp2_with fail
  refine (newPost_any w).mono ?_
  rintro e w1 ⟨rfl, hP, hb1, hlt⟩
  have hb2 : Below w1.heap.size w1 (w1.alloc (.cells #[.int .u8 100, .int .u8 97, .int .u8 116, .int .u8 97, .int .u8 13, .int .u8 10] 5 (6, 7))) := (Below.refl _ _).alloc (Nat.le_refl _) _
  have hf := feedLine_any w.heap.size w.heap.size ⟨0, [], []⟩ [100, 97, 116, 97] (.slice none 0 0) (some ⟨w1.heap.size, 0, none⟩) 6 6 (w1.alloc (.cells #[.int .u8 100, .int .u8 97, .int .u8 116, .int .u8 97, .int .u8 13, .int .u8 10] 5 (6, 7)))
    ((hw.base.below hb1).below hb2) (by decide) rfl rfl (show Rb _ _ [100, 97, 116, 97, 13, 10] from Rb_new w1 [100, 97, 116, 97, 13, 10] _ _ rfl 6 (6, 7)) (Nat.le_refl _) (hP.below hb2) (by have := hb2.size; omega) (by decide) (by decide) (by decide) (by rw [ex_late]; decide)
  rw [ex_late] at hf
  have hB2 := hb1.trans (hb2.mono hb1.size)
  clear hP hb2
  go_wp2_with fail
  refine hf.mono ?_
  rintro e w3 ⟨⟨v, rfl, ho⟩, _, hb3⟩
  obtain ⟨A5, c5, rfl, _, _, hR5, _, _, _⟩ := ho.form
  have hcs := conv_str (P := Tryd.prog) (src := 27) (dst := 9) (e := 5) (c := c5) (n := lateB.length + 2) Tryd.underlying27 Tryd.underlying5 Tryd.underlying9 (show Rb w3 A5 (lateB ++ [13, 10]) from hR5) rfl
  clear hf ho hR5
  go_wp2_with fail
  go_ret
  exact ⟨ret_bool (by first | rfl | decide), hB2.trans hb3⟩

set_option maxHeartbeats 400000 in
theorem mails_none (w : World) (base p : Nat) (s : Ps) (left : List UInt8) (h : PostAt w base p s left (.slice none 0 0)) :
    Calls Tryd.prog 9 #[.pointer (some ⟨p, 0, none⟩)] w fun e w' => e = .returned (.slice none 0 0) ∧ w' = w := by
  obtain ⟨lv, tv, h, _⟩ := h
  have c5 := h.cell (j := 5) rfl
  clear h
  go_enter Tryd.func9, Tryd.ntmps9
  go_wp2_with fail
  go_loopw [2, 4, 10] (fun v _ i wr => i = .int .i64 0 ∧ v = .slice none 0 0 ∧ wr = w) (fun _ _ i _ => 0)
  case atStart => exact ⟨rfl, rfl, rfl⟩
  case round =>
    obtain ⟨rfl, rfl, rfl⟩ := hrel
    go_wp2_with fail
    go_ret
    exact ⟨rfl, rfl⟩

theorem crlf_tests (c : UInt8) : ((c.toNat : Int) == 13) = true ∨ (((c.toNat : Int) == 13) = false ∧ ((c.toNat : Int) == 10) = true) ∨ (((c.toNat : Int) == 13) = false ∧ ((c.toNat : Int) == 10) = false ∧ (c ≠ 13 ∧ c ≠ 10)) := by
  have e1 : ((c.toNat : Int) == 13) = (c == 13) := u8_test c 13 rfl
  have e2 : ((c.toNat : Int) == 10) = (c == 10) := u8_test c 10 rfl
  rw [e1, e2]
  by_cases h1 : c = 13
  · exact .inl (by simp [h1])
  · by_cases h2 : c = 10
    · exact .inr (.inl ⟨by simp [h1], by simp [h2]⟩)
    · exact .inr (.inr ⟨by simp [h1], by simp [h2], h1, h2⟩)
theorem takeAll {α : Type} {P : α → Prop} {l : List α} {k : Nat} {x : α} (h : l[k]? = some x) (ha : ∀ p ∈ l.take k, P p) (hx : P x) : ∀ p ∈ l.take (k + 1), P p := by
  intro p hp
  rw [take_succ_of h] at hp
  rcases List.mem_append.1 hp with hp | hp
  · exact ha p hp
  · simp at hp
    rw [hp]
    exact hx

set_option maxRecDepth 100000 in
set_option maxHeartbeats 8000000 in
theorem talkOrder_any (A : Option Addr) (ls : List (List UInt8)) (z : Int) (n c : Nat) (w : World) (hn : ls.length = n) (hA : Rv w A (ls.map sv)) (hw : Mx w) (hb : n ≤ 9223372036854775807) (hll : ∀ p ∈ ls, p.length ≤ 9223372036854775807) :
    Calls Tryd.prog 3 #[.slice A n c, .int .i64 z] w fun e w' => e = .returned (.bool true) ∧ Below w.heap.size w w' := by
  have HN := Lib.hid hn
  have HLL := Lib.hid hll
  obtain ⟨m, hm, hm3⟩ : ∃ m : Nat, z % 4 = (m : Int) ∧ m ≤ 3 := ⟨(z % 4).toNat, by omega, by omega⟩
  have hand : bits BinOp.and IntKind.i64 z 3 = (m : Int) := by rw [i64_and3, hm]
  clear hn hll hm
  go_enter Tryd.func3, Tryd.ntmps3
  go_wp2_with fail
  refine (speaks21_any w hw).mono ?_
  rintro e w1 ⟨rfl, hB1⟩
  have hA1 := hA.below hB1
  have hw1 := hw.below hB1
  by_cases h40 : 40 < n
  · go_wp2_with fail
    go_ret
    exact ⟨rfl, hB1⟩
  go_upto_region 5 with fail
  go_cut [5] (fun v wx => v = .string (bs (skipW m)) ∧ ∃ w2 : World, w2 = wx ∧ Below w1.heap.size w1 w2)
  case first => as_aux_lemma =>
    clear HN HLL hA hA1 hw hw1 hB1 hb
    obtain rfl | rfl | rfl | rfl : m = 0 ∨ m = 1 ∨ m = 2 ∨ m = 3 := by omega
    all_goals
      have hand' := hand
      try simp only [Int.natCast_zero, Int.natCast_one] at hand'
      go_wp2_with fail
      go_meet
      exact ⟨rfl, _, rfl, (Below.refl _ w1).alloc (Nat.le_refl _) _⟩
  case rest =>
    obtain ⟨rfl, w2, rfl, hb2⟩ := hcut
    have hB2 := hB1.trans (hb2.mono hB1.size)
    have hA2 := hA1.below hb2
    have hw2 := hw1.below hb2
    clear hA1 hw hw1 hB1 hb2 hand
    go_wp2_with fail
    refine (newPost_any _).mono ?_
    rintro e w3 ⟨rfl, hP, hb3, hlt3⟩
    have hw3 := hw2.below hb3
    have hB3 := hB2.trans (hb3.mono hB2.size)
    have hwp := hB2.size
    have hgl : 0 < w2.heap.size := hw2.base.2
    obtain ⟨p, hp⟩ : ∃ p, w2.heap.size = p := ⟨_, rfl⟩
    rw [hp] at hP hlt3 hwp hgl ⊢
    obtain ⟨sk, hsk⟩ : ∃ sk, skipW m = sk := ⟨_, rfl⟩
    have hskl : sk.length ≤ 10 := by
      rw [← hsk]
      obtain rfl | rfl | rfl | rfl : m = 0 ∨ m = 1 ∨ m = 2 ∨ m = 3 := by omega
      all_goals decide
    rw [hsk]
    have HSK := Lib.hid hsk
    have HM3 := Lib.hid hm3
    clear hb3 hp hsk hm3 hw2 hB2 hA2
    go_wp2_with fail
    go_loopw [8, 9, 10, 24] (fun _ _ _ i wr => ∃ (k : Nat) (s : Ps) (l2 : List UInt8), i = .int .i64 k ∧ k ≤ n ∧ PostAt wr p p s l2 (.slice none 0 0) ∧ Hid ((s.st ≠ 5 → l2 = [] ∧ s.st ≤ m) ∧ s.tos.length ≤ 10) ∧ Below w.heap.size w wr ∧ p ≤ wr.heap.size ∧ MxB wr p) (fun _ _ _ i _ => n - (intOf i).toNat)
    case atStart => exact ⟨0, ⟨0, [], []⟩, [], rfl, by omega, hP, Lib.hid ⟨fun _ => ⟨rfl, Nat.zero_le _⟩, by decide⟩, hB3, by omega, hw3, hgl⟩
    case round =>
      obtain ⟨k, s, l2, rfl, hk, hP', hS, hB, hps, hmx⟩ := hrel
      clear hP hB3 hlt3 hw3
      by_cases hlt : k < n
      · have hlt2 : k < (ls.map sv).length := by rw [List.length_map, HN.out]; exact hlt
        obtain ⟨b, o, v1, rfl, hv1, hc1⟩ := (hA.below hB).one hlt2
        obtain ⟨line, hx⟩ : ∃ x, ls[k]? = some x := ⟨_, List.getElem?_eq_getElem (by simpa using hlt2)⟩
        have e1 : v1 = .string (bs line) := by
          have := hv1.out
          rw [List.getElem?_map, hx] at this
          exact (Option.some.inj this).symm
        subst e1
        have hlen := HLL.out line (List.mem_of_getElem? hx)
        have hcl := closed_any wr p p s l2 (.slice none 0 0) hP'
        have HP := Lib.hid hP'
        clear hv1 hlt2 hx hP'
        by_cases h600 : 600 < line.length
        · go_wp2_with fail
          go_ret
          exact ⟨rfl, hB⟩
        by_cases h5 : s.st = 5
        · rw [decide_eq_true h5] at hcl
          clear h5
          go_wp2_with fail
          refine hcl.mono ?_
          rintro e wz ⟨rfl, hz⟩
          rw [hz]
          clear hz wz hcl
          go_wp2_with fail
          go_ret
          exact ⟨rfl, hB⟩
        rw [decide_eq_false h5] at hcl
        obtain ⟨hl2, hst⟩ := hS.out.1 h5
        subst hl2
        have hto := hS.out.2
        have H5 := Lib.hid h5
        clear h5 hS
        go_wp2_with fail
        refine hcl.mono ?_
        rintro e wz ⟨rfl, hz⟩
        rw [hz]
        clear hz wz hcl
        obtain ⟨wo, rfl⟩ : ∃ wo : World, wo = wr := ⟨_, rfl⟩
        go_wp2_with fail
        go_loopw [9] (fun i wr => ∃ j : Nat, i = .int .i64 j ∧ j ≤ line.length ∧ Hid (∀ x ∈ line.take j, x ≠ 13 ∧ x ≠ 10) ∧ wr = wo) (fun i _ => line.length - (intOf i).toNat)
        case atStart => exact ⟨0, rfl, by omega, Lib.hid (by simp), rfl⟩
        case round =>
          obtain ⟨j, rfl, hj, ha, rfl⟩ := hrel
          by_cases hjl : j < line.length
          · obtain ⟨x, hx⟩ : ∃ x, line[j]? = some x := ⟨_, List.getElem?_eq_getElem hjl⟩
            have hi := str_index (P := Tryd.prog) Tryd.underlying9 hx .i64
            rcases crlf_tests x with g1 | ⟨g1, g2⟩ | ⟨g1, g2, g3⟩
            · clear hx ha
              go_wp2_with fail
              go_ret
              exact ⟨rfl, hB⟩
            · clear hx ha
              go_wp2_with fail
              go_ret
              exact ⟨rfl, hB⟩
            · have HT : Hid (∀ x ∈ line.take (j + 1), x ≠ 13 ∧ x ≠ 10) := Lib.hid (takeAll hx ha.out g3)
              clear hx ha g3
              go_wp2_with fail
              go_roundw
              case rel => exact ⟨j + 1, by go_num, by omega, HT, by first | rfl | trivial⟩
              case measure => simp [intOf]; omega
          · obtain rfl : j = line.length := by omega
            have HCL : Hid (∀ x ∈ line, x ≠ 13 ∧ x ≠ 10) := Lib.hid (by have := ha.out; rwa [List.take_length] at this)
            clear ha hj hjl
            by_cases hlen2 : line.length < sk.length
            · have HA : Hid (aft line (skipW m) = none) := Lib.hid (by unfold aft; rw [HSK.out, if_neg (by omega)])
              have hskp := cmd_skip HM3.out hst hto HA.out
              have hal := answer_len s line
              obtain ⟨N, hN⟩ : ∃ N, (line ++ [13, 10]).length = N := ⟨_, rfl⟩
              have hNl1 : N ≤ line.length + 2 := by rw [← hN]; simp
              have hNl2 : line.length + 2 ≤ N := by rw [← hN]; simp
              obtain ⟨cb, W6, hcv, hO6, hB6, hs6⟩ := conv_bs (P := Tryd.prog) (src := 9) (dst := 27) (e := 5) Tryd.underlying9 Tryd.underlying27 Tryd.underlying5 wr (line ++ [13, 10]) (by unfold maxLen; omega)
              have hcv' : (convert 9 27 (.string (bs line ++ ⟨#[13, 10]⟩))).run Tryd.prog wr = .ok (.slice (some ⟨(wr).heap.size, 0, none⟩) N cb) W6 := by
                rw [show (⟨#[13, 10]⟩ : ByteArray) = bs [13, 10] from rfl, bs_add, hcv, hN]
              rw [hN] at hO6
              obtain ⟨A', c', he, hNc, _, hR6, _, _, _⟩ := hO6.form
              cases he
              have hf := feedLine_any p p s line (.slice none 0 0) (some ⟨(wr).heap.size, 0, none⟩) N cb W6 (hmx.below hB6) (by omega) (cutE_clean HCL.out) hN hR6 hNc (HP.out.below hB6) (by have := hB6.size; omega) (by omega) H5.out (by have := HM3.out; omega) (by have := HM3.out; omega)
              have hB6w := hB.trans (hB6.mono hB.size)
              have hmx6 := hmx.below hB6
              have hs6p : p ≤ W6.heap.size := by have := hB6.size; omega
              obtain ⟨L, hL⟩ : ∃ L, (cmd s line).1.length = L := ⟨_, rfl⟩
              have HL := Lib.hid hL
              rw [hL] at hf hal
              have HN2 := Lib.hid hN
              have HSP := Lib.hid hskp
              clear hcv hO6 hR6 hB6 hN hL hskp
              go_wp2_with fail
              refine hf.mono ?_
              rintro e w7 ⟨⟨v, rfl, hov⟩, ⟨l3, hP7, hl3⟩, hb7⟩
              obtain ⟨A7, c7, rfl, hc7, _, hR7, _, hA70, hA7b⟩ := hov.form
              obtain ⟨g7, rfl⟩ : ∃ b, A7 = some ⟨b, 0, none⟩ := hA7b.resolve_left fun h => by have := hA70 h; omega
              have hRd : Rb w7 (some ⟨g7, L, none⟩) [13, 10] := by
                have := Rb.drop (show Rb w7 (some ⟨g7, 0, none⟩) ((cmd s line).1 ++ [13, 10]) from hR7) L
                rwa [List.drop_left' HL.out, Nat.zero_add] at this
              have hcs := conv_str (P := Tryd.prog) (src := 27) (dst := 9) (e := 5) (c := c7 - L) (n := 2) Tryd.underlying27 Tryd.underlying5 Tryd.underlying9 hRd rfl
              have hsub : ((L + 2 : Nat) : Int) - 2 = (L : Int) := by omega
              have hsub2 : (L : Int) + 2 - 2 = (L : Int) := by omega
              have hne : ¬ c7 = L := by omega
              have HP7 := Lib.hid hP7
              have hsz7 := hb7.size
              have hB7 : Below w.heap.size w w7 := hB6w.trans (hb7.mono hwp)
              have hmx7 := hmx6.belowB hb7
              clear hf hov hR7 hA70 hA7b hRd hP7 hcv' hb7 hB6w
              go_wp2_with fail
              go_roundw
              case rel => exact ⟨k + 1, (cmd s line).2, l3, by go_num, by omega, HP7.out, Lib.hid ⟨fun h => ⟨hl3 h, HSP.out.1.resolve_left h⟩, HSP.out.2⟩, hB7, by omega, hmx7⟩
              case measure => simp [intOf]; omega
            · have hbig := fun W => rbig_any (line.take sk.length) W (by rw [List.length_take]; omega)
              by_cases hbe : (line.take sk.length).map big = sk
              · rw [hbe] at hbig
                clear hbe
                go_wp2_with fail
                refine (hbig _).mono ?_
                rintro e w5 ⟨rfl, hb5⟩
                have hP5 := HP.out.below hb5
                have hmx5 := hmx.below hb5
                have hBB := hB.trans (hb5.mono hB.size)
                clear hbig
                go_wp2_with fail
                go_roundw
                case rel => exact ⟨k + 1, s, [], by go_num, by omega, hP5, Lib.hid ⟨fun _ => ⟨rfl, hst⟩, hto⟩, hBB, by have := hb5.size; omega, hmx5⟩
                case measure => simp [intOf]; omega
              · have HA : Hid (aft line (skipW m) = none) := Lib.hid (by unfold aft; rw [HSK.out, if_neg (fun h => hbe h.2)])
                obtain ⟨u, hu⟩ : ∃ u, (line.take sk.length).map big = u := ⟨_, rfl⟩
                rw [hu] at hbig hbe
                have hne0 : (u == sk) = false := by simpa using hbe
                clear hu hbe
                go_wp2_with fail
                refine (hbig _).mono ?_
                rintro e w5 ⟨rfl, hb5⟩
                have hP5 := HP.out.below hb5
                have hmx5 := hmx.below hb5
                have hBB := hB.trans (hb5.mono hB.size)
                have hps5 : p ≤ w5.heap.size := by have := hb5.size; omega
                clear hbig
                have hskp := cmd_skip HM3.out hst hto HA.out
                have hal := answer_len s line
                obtain ⟨N, hN⟩ : ∃ N, (line ++ [13, 10]).length = N := ⟨_, rfl⟩
                have hNl1 : N ≤ line.length + 2 := by rw [← hN]; simp
                have hNl2 : line.length + 2 ≤ N := by rw [← hN]; simp
                obtain ⟨cb, W6, hcv, hO6, hB6, hs6⟩ := conv_bs (P := Tryd.prog) (src := 9) (dst := 27) (e := 5) Tryd.underlying9 Tryd.underlying27 Tryd.underlying5 w5 (line ++ [13, 10]) (by unfold maxLen; omega)
                have hcv' : (convert 9 27 (.string (bs line ++ ⟨#[13, 10]⟩))).run Tryd.prog w5 = .ok (.slice (some ⟨(w5).heap.size, 0, none⟩) N cb) W6 := by
                  rw [show (⟨#[13, 10]⟩ : ByteArray) = bs [13, 10] from rfl, bs_add, hcv, hN]
                rw [hN] at hO6
                obtain ⟨A', c', he, hNc, _, hR6, _, _, _⟩ := hO6.form
                cases he
                have hf := feedLine_any p p s line (.slice none 0 0) (some ⟨(w5).heap.size, 0, none⟩) N cb W6 (hmx5.below hB6) (by omega) (cutE_clean HCL.out) hN hR6 hNc (hP5.below hB6) (by have := hB6.size; omega) (by omega) H5.out (by have := HM3.out; omega) (by have := HM3.out; omega)
                have hB6w := hBB.trans (hB6.mono hBB.size)
                have hmx6 := hmx5.below hB6
                have hs6p : p ≤ W6.heap.size := by have := hB6.size; omega
                obtain ⟨L, hL⟩ : ∃ L, (cmd s line).1.length = L := ⟨_, rfl⟩
                have HL := Lib.hid hL
                rw [hL] at hf hal
                have HN2 := Lib.hid hN
                have HSP := Lib.hid hskp
                clear hcv hO6 hR6 hB6 hN hL hskp
                go_wp2_with fail
                refine hf.mono ?_
                rintro e w7 ⟨⟨v, rfl, hov⟩, ⟨l3, hP7, hl3⟩, hb7⟩
                obtain ⟨A7, c7, rfl, hc7, _, hR7, _, hA70, hA7b⟩ := hov.form
                obtain ⟨g7, rfl⟩ : ∃ b, A7 = some ⟨b, 0, none⟩ := hA7b.resolve_left fun h => by have := hA70 h; omega
                have hRd : Rb w7 (some ⟨g7, L, none⟩) [13, 10] := by
                  have := Rb.drop (show Rb w7 (some ⟨g7, 0, none⟩) ((cmd s line).1 ++ [13, 10]) from hR7) L
                  rwa [List.drop_left' HL.out, Nat.zero_add] at this
                have hcs := conv_str (P := Tryd.prog) (src := 27) (dst := 9) (e := 5) (c := c7 - L) (n := 2) Tryd.underlying27 Tryd.underlying5 Tryd.underlying9 hRd rfl
                have hsub : ((L + 2 : Nat) : Int) - 2 = (L : Int) := by omega
                have hsub2 : (L : Int) + 2 - 2 = (L : Int) := by omega
                have hne : ¬ c7 = L := by omega
                have HP7 := Lib.hid hP7
                have hsz7 := hb7.size
                have hB7 : Below w.heap.size w w7 := hB6w.trans (hb7.mono hwp)
                have hmx7 := hmx6.belowB hb7
                clear hf hov hR7 hA70 hA7b hRd hP7 hcv' hb7 hB6w
                go_wp2_with fail
                go_roundw
                case rel => exact ⟨k + 1, (cmd s line).2, l3, by go_num, by omega, HP7.out, Lib.hid ⟨fun h => ⟨hl3 h, HSP.out.1.resolve_left h⟩, HSP.out.2⟩, hB7, by omega, hmx7⟩
                case measure => simp [intOf]; omega
      · obtain rfl : k = n := by omega
        have hma := mails_none wr p p s l2 hP'
        go_wp2_with fail
        refine hma.mono ?_
        rintro e wz ⟨rfl, hz⟩
        rw [hz]
        go_wp2_with fail
        go_ret
        exact ⟨rfl, hB⟩
end Go.Proofs.YtddjabjloplhiaaDoor
