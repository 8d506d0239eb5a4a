/- The document's command. -/
import Derived.Test.YtddjabjloplhiaaGreatDoorZ6
namespace Go.Proofs.YtddjabjloplhiaaGreatDoor
set_option linter.unusedVariables false
set_option linter.unusedSimpArgs false
open Go.RowKit

theorem rcOut_same {t base : Nat} {s : Ps} {out a : List UInt8} {tv mv : Value} {w w' : World} (hst : s.st < 4) (hr : Row w' t 33 [.int .i64 s.st, .string (bs s.frm), tv, .string (bs (out ++ a ++ [13, 10])), mv, .bool false])
    (ho : OwnM w' base 9 1 tv s.tos.length (s.tos.map sv)) (hx : Ext (fun k => k = t) w w') : RcOut t base (a, s) s out tv mv w (.returned (.bool false)) w' := by
  refine ⟨?_, ⟨s, tv, ?_, ho, fun _ => rfl, fun _ => rfl, fun k hk => .inl hk⟩, hx.mono fun b e => .inl e⟩
  · rw [decide_eq_false (show ¬ s.st = 4 by omega)]
  · rw [decide_eq_false (show ¬ s.st = 5 by omega)]
    exact hr
theorem stB_cases (l ws : List UInt8) : stB l ws = true ∨ stB l ws = false := by cases stB l ws <;> simp

set_option maxRecDepth 100000 in
set_option maxHeartbeats 8000000 in
theorem rcommand_any (t base : Nat) (s : Ps) (l out : List UInt8) (tv mv : Value) (w : World) (hl : l.length ≤ 100000) (hol : out.length ≤ 1000000) (h : Row w t 33 [.int .i64 s.st, .string (bs s.frm), tv, .string (bs out), mv, .bool false])
    (hown : OwnM w base 9 1 tv s.tos.length (s.tos.map sv)) (hpb : ¬ nb tv t) (hbase : base ≤ w.heap.size) (htl : s.tos.length ≤ 10) (hst : s.st < 4) :
    Calls Tryz.prog 17 #[.pointer (some ⟨t, 0, none⟩), .string (bs l)] w (RcOut t base (cmd s l) s out tv mv w) := by
  have H := Lib.hid h
  have HO := Lib.hid hown
  have HPB := Lib.hid hpb
  have HST := Lib.hid hst
  have hsay := fun W a0 a1 a2 a4 a5 x hx hR => say_any t a0 a1 a2 a4 a5 out x W hx hR
  have HSAY := Lib.hid hsay
  clear h hown hpb hsay
  have hstart := fun ws W hws => starts_any l ws W (by omega) hws
  have HS := Lib.hid hstart
  clear hstart
  have same : ∀ (W : World) (a : List UInt8), Below w.heap.size w W → a.length ≤ 100 → Calls Tryz.prog 19 #[.pointer (some ⟨t, 0, none⟩), .string (bs a)] W fun e w' => e = .returned (.tuple #[]) ∧ RcOut t base (a, s) s out tv mv w (.returned (.bool false)) w' := fun W a hb ha => by
    refine (HSAY.out W _ _ _ _ _ a (by omega) (H.out.below hb)).mono ?_
    rintro e w' ⟨rfl, hr, hx⟩
    exact ⟨rfl, rcOut_same HST.out hr (hx.own (HO.out.below hb) fun k h1 h2 => HPB.out (h2 ▸ h1)) (Ext.belowL hb hx)⟩
  have SAME := Lib.hid same
  clear same
  by_cases h512 : 512 < l.length
  · have HC : Hid (cmd s l = (whatB, s)) := Lib.hid (rc_long h512)
    rw [HC.out]
    have hi : (512 : Int) < (l.length : Int) := by omega
    have hs := SAME.out w whatB (Below.refl _ _) (by decide)
    clear HC h512
    go_enter Tryz.func17, Tryz.ntmps17
    go_wp2_with fail
    refine hs.mono ?_
    rintro e w1 ⟨rfl, ho⟩
    clear hs
    go_wp2_with fail
    go_ret
    exact ho
  have hi : ¬ (512 : Int) < (l.length : Int) := by omega
  have HM := HS.out mailW
  have HR := HS.out rcptW
  have HH := HS.out heloSp
  rcases stB_cases l mailW with qm | qm
  · have hc := rc_mail (s := s) h512 qm
    have hm : ∀ W, Calls Tryz.prog 34 #[.string (bs l), .string ⟨#[77, 65, 73, 76, 32, 70, 82, 79, 77, 58]⟩] W fun e w' => e = .returned (.bool true) ∧ Below W.heap.size W w' := fun W => by
      have := HM W (by decide)
      rw [qm] at this
      exact this
    have h10 : 10 ≤ l.length := by unfold stB at qm; exact (of_decide_eq_true qm).1
    have hi10 : (10 : Int) ≤ (l.length : Int) := by omega
    have hadr := fun W => raddress_any (l.drop 10) W (by rw [List.length_drop]; omega)
    have htk : (l.drop 10).take (l.length - 10) = l.drop 10 := List.take_of_length_le (by rw [List.length_drop]; exact Nat.le_refl _)
    have HC := Lib.hid hc
    clear hc qm HM HR HH h10
    rcases Bool.eq_false_or_eq_true (adrOk (l.drop 10)) with q | q
    · by_cases h1 : s.st = 1
      · have hc : cmd s l = (okayB, ⟨2, adr (l.drop 10), s.tos⟩) := by rw [HC.out, if_pos q, if_pos h1]
        have HC2 := Lib.hid hc
        have HQ := Lib.hid q
        rw [q] at hadr
        clear hc q
        go_enter Tryz.func17, Tryz.ntmps17
        go_wp2_with fail
        refine (hm _).mono ?_
        rintro e w1 ⟨rfl, hb1⟩
        go_wp2_with fail
        try simp only [htk]
        refine (hadr _).mono ?_
        rintro e w2 ⟨⟨a, rfl, ha⟩, hb2'⟩
        have hb2 := hb1.trans (hb2'.mono hb1.size)
        have hr2 := H.out.below hb2
        have hne : ((s.st : Int) != 1) = false := by rw [h1]; rfl
        have c0 := hr2.cell (j := 0) rfl
        have c1 := hr2.cell (j := 1) rfl
        have f0 := hr2.frozen 0
        have f1 := hr2.frozen 1
        have hsy := HSAY.out ((w2.setCell ⟨t, 1, none⟩ (.string (bs a))).setCell ⟨t, 0, none⟩ (.int .i64 2)) _ _ _ _ _ okayB (by have : okayB.length = 6 := rfl; omega) ((hr2.set 1 _).set 0 _)
        have hx2 : Ext (fun k => k = t) w ((w2.setCell ⟨t, 1, none⟩ (.string (bs a))).setCell ⟨t, 0, none⟩ (.int .i64 2)) := ((Ext.of_below (fun k => k = t) hb2).set ⟨t, 1, none⟩ _ rfl).set ⟨t, 0, none⟩ _ rfl
        have HA := Lib.hid (ha trivial)
        have H1 := Lib.hid h1
        clear hm hadr htk hb1 hb2' hr2 ha h1
        go_wp2_with fail
        refine hsy.mono ?_
        rintro e w3 ⟨rfl, hr3, hx3⟩
        clear hsy
        go_wp2_with fail
        go_ret
        rw [HC2.out]
        have hxx : Ext (fun k => k = t) w w3 := hx2.trans hx3 fun b e => .inl e
        refine ⟨rfl, ⟨⟨2, adr (l.drop 10), s.tos⟩, tv, ?_, hxx.own HO.out fun k h1 h2 => HPB.out (h2 ▸ h1), fun _ => rfl, fun h => absurd h (by show ¬ 4 ≤ 2; omega), fun k hk => .inl hk⟩, hxx.mono fun b e => .inl e⟩
        rw [← HA.out]
        exact hr3
      · have hc : cmd s l = (lateB, s) := by rw [HC.out, if_pos q, if_neg h1]
        have HC2 := Lib.hid hc
        have hne : ((s.st : Int) != 1) = true := by rw [bne_iff_ne]; omega
        rw [q] at hadr
        clear hc q h1
        go_enter Tryz.func17, Tryz.ntmps17
        go_wp2_with fail
        refine (hm _).mono ?_
        rintro e w1 ⟨rfl, hb1⟩
        go_wp2_with fail
        try simp only [htk]
        refine (hadr _).mono ?_
        rintro e w2 ⟨⟨a, rfl, ha⟩, hb2'⟩
        have hb2 := hb1.trans (hb2'.mono hb1.size)
        have hr2 := H.out.below hb2
        have c0 := hr2.cell (j := 0) rfl
        have hsy := SAME.out w2 lateB hb2 (by decide)
        clear hm hadr htk hb1 hb2' hr2 ha
        go_wp2_with fail
        refine hsy.mono ?_
        rintro e w3 ⟨rfl, ho⟩
        clear hsy
        go_wp2_with fail
        go_ret
        rw [HC2.out]
        exact ho
    · have hc : cmd s l = (formB, s) := by rw [HC.out, if_neg (by rw [q]; decide)]
      have HC2 := Lib.hid hc
      rw [q] at hadr
      clear hc q
      go_enter Tryz.func17, Tryz.ntmps17
      go_wp2_with fail
      refine (hm _).mono ?_
      rintro e w1 ⟨rfl, hb1⟩
      go_wp2_with fail
      try simp only [htk]
      refine (hadr _).mono ?_
      rintro e w2 ⟨⟨a, rfl, ha⟩, hb2'⟩
      have hb2 := hb1.trans (hb2'.mono hb1.size)
      have hsy := SAME.out w2 formB hb2 (by decide)
      clear hm hadr htk hb1 hb2' ha
      go_wp2_with fail
      refine hsy.mono ?_
      rintro e w3 ⟨rfl, ho⟩
      clear hsy
      go_wp2_with fail
      go_ret
      rw [HC2.out]
      exact ho
  have hm : ∀ W, Calls Tryz.prog 34 #[.string (bs l), .string ⟨#[77, 65, 73, 76, 32, 70, 82, 79, 77, 58]⟩] W fun e w' => e = .returned (.bool false) ∧ Below W.heap.size W w' := fun W => by
    have := HM W (by decide)
    rw [qm] at this
    exact this
  rcases stB_cases l rcptW with qr | qr
  · have hc := rc_rcpt (s := s) h512 qm qr
    have hrc : ∀ W, Calls Tryz.prog 34 #[.string (bs l), .string ⟨#[82, 67, 80, 84, 32, 84, 79, 58]⟩] W fun e w' => e = .returned (.bool true) ∧ Below W.heap.size W w' := fun W => by
      have := HR W (by decide)
      rw [qr] at this
      exact this
    have h8 : 8 ≤ l.length := by unfold stB at qr; exact (of_decide_eq_true qr).1
    have hi8 : (8 : Int) ≤ (l.length : Int) := by omega
    have hadr := fun W => raddress_any (l.drop 8) W (by rw [List.length_drop]; omega)
    have htk : (l.drop 8).take (l.length - 8) = l.drop 8 := List.take_of_length_le (by rw [List.length_drop]; exact Nat.le_refl _)
    have HC := Lib.hid hc
    clear hc qm qr HM HR HH h8
    rcases Bool.eq_false_or_eq_true (adrOk (l.drop 8)) with q | q
    · rw [q] at hadr
      by_cases h23 : s.st = 2 ∨ s.st = 3
      · have hge : ¬ (s.st : Int) < 2 := by omega
        obtain ⟨At, ct, htv, _, _, _, _, _, _⟩ := HO.out.form
        subst htv
        by_cases h10 : s.tos.length = 10
        · have hc : cmd s l = (manyB, s) := by rw [HC.out, if_pos q, if_pos h23, if_pos h10]
          have HC2 := Lib.hid hc
          have h10b : ((s.tos.length : Int) == 10) = true := by rw [beq_iff_eq]; omega
          clear hc q h23 h10
          go_enter Tryz.func17, Tryz.ntmps17
          go_wp2_with fail
          refine (hm _).mono ?_
          rintro e w0 ⟨rfl, hb0⟩
          go_wp2_with fail
          refine (hrc _).mono ?_
          rintro e w1 ⟨rfl, hb1'⟩
          have hb1 := hb0.trans (hb1'.mono hb0.size)
          go_wp2_with fail
          try simp only [htk]
          refine (hadr _).mono ?_
          rintro e w2 ⟨⟨a, rfl, ha⟩, hb2'⟩
          have hb2 := hb1.trans (hb2'.mono hb1.size)
          have hr2 := H.out.below hb2
          have c0 := hr2.cell (j := 0) rfl
          have c2 := hr2.cell (j := 2) rfl
          have hsy := SAME.out w2 manyB hb2 (by decide)
          clear hm hrc hadr htk hb0 hb1 hb1' hb2' hr2 ha
          go_wp2_with fail
          refine hsy.mono ?_
          rintro e w3 ⟨rfl, ho⟩
          clear hsy
          go_wp2_with fail
          go_ret
          rw [HC2.out]
          exact ho
        · have hc : cmd s l = (okayB, ⟨3, s.frm, s.tos ++ [adr (l.drop 8)]⟩) := by rw [HC.out, if_pos q, if_pos h23, if_neg h10]
          have HC2 := Lib.hid hc
          have h10b : ((s.tos.length : Int) == 10) = false := by rw [beq_eq_false_iff_ne]; omega
          clear hc q h23 h10
          go_enter Tryz.func17, Tryz.ntmps17
          go_wp2_with fail
          refine (hm _).mono ?_
          rintro e w0 ⟨rfl, hb0⟩
          go_wp2_with fail
          refine (hrc _).mono ?_
          rintro e w1 ⟨rfl, hb1'⟩
          have hb1 := hb0.trans (hb1'.mono hb0.size)
          go_wp2_with fail
          try simp only [htk]
          refine (hadr _).mono ?_
          rintro e w2 ⟨⟨a, rfl, ha⟩, hb2'⟩
          have hb2 := hb1.trans (hb2'.mono hb1.size)
          have hr2 := H.out.below hb2
          have ho2 := HO.out.below hb2
          have HA := Lib.hid (ha trivial)
          have hsz2 := hb2.size
          have hoA := ho2.alloc (.cells #[sv a] 9)
          have hrA := hr2.alloc (.cells #[sv a] 9)
          have hxA : Ext (fun k => k = t ∨ nb (.slice At s.tos.length ct) k) w (w2.alloc (.cells #[sv a] 9)) := (Ext.of_below _ hb2).alloc _
          have c0 := hr2.cell (j := 0) rfl
          have c2 := hr2.cell (j := 2) rfl
          have hlt2 := hr2.lt
          clear hm hrc hadr htk hb0 hb1 hb1' hb2' hr2 ha ho2 hb2
          go_wp2_with (at_builtin; refine wpList_appM rfl _ _ _ _ rfl TStr4 hoA rfl (Src_rv (news := [sv a]) Tryz.underlying30 rfl (Rv_new w2 _ _ _ rfl) (by simp [Value.oneCell', sv]) (by omega)) rfl (by omega) (by simp; omega) ?_; intro v3 w3 hown3 hgr3 hat3; have hx3 := Ext.of_grown (S := fun k => nb (.slice At s.tos.length ct) k) hgr3 (fun k e => e); have hr3 := hx3.row hrA HPB.out; have d0 := hr3.cell (j := 0) rfl; have d2 := hr3.cell (j := 2) rfl; have f0 := hr3.frozen 0; have f2 := hr3.frozen 2; have HO3 := Lib.hid hown3; have HA3 := Lib.hid hat3; have HX3 := Lib.hid hx3; obtain ⟨A3, c3, rfl, _, _, _, _, _, _⟩ := hown3.form; have HR3 := Lib.hid hr3; clear hown3 hr3 hat3 hgr3 hx3)
          have hsy := HSAY.out ((w3.setCell ⟨t, 2, none⟩ (.slice A3 (s.tos.length + 1) c3)).setCell ⟨t, 0, none⟩ (.int .i64 3)) _ _ _ _ _ okayB (by have : okayB.length = 6 := rfl; omega) ((HR3.out.set 2 _).set 0 _)
          refine hsy.mono ?_
          rintro e w5 ⟨rfl, hr5, hx5⟩
          clear hsy
          go_wp2_with fail
          go_ret
          rw [HC2.out]
          have hv : ∀ k, nb (.slice A3 (s.tos.length + 1) c3) k → nb (.slice At s.tos.length ct) k ∨ w2.heap.size + 1 ≤ k := fun k hk => by
            unfold nb at hk ⊢
            rcases HA3.out with h | h
            · rw [h] at hk; exact .inl hk
            · rw [h] at hk
              have := Option.some.inj hk
              simp at this
              exact .inr (by omega)
          have hxx : Ext (fun k => k = t) w3 w5 := (((Ext.refl (fun k => k = t) w3).set ⟨t, 2, none⟩ _ rfl).set ⟨t, 0, none⟩ _ rfl).trans hx5 fun b e => .inl e
          refine ⟨rfl, ⟨⟨3, s.frm, s.tos ++ [adr (l.drop 8)]⟩, _, hr5, ?_, fun _ => rfl, fun h => absurd h (by show ¬ 4 ≤ 3; omega), fun k hk => (hv k hk).elim .inl fun h => .inr (by omega)⟩, (hxA.trans (HX3.out.mono fun b e => .inr e) fun b e => .inl e).trans (hxx.mono fun b e => .inl e) fun b e => .inl e⟩
          refine ownM_eq (hxx.own HO3.out fun k hk e => ?_) (by simp) (by rw [← HA.out]; simp)
          rcases hv k hk with h | h
          · exact HPB.out (e ▸ h)
          · omega
      · have hc : cmd s l = (lateB, s) := by rw [HC.out, if_pos q, if_neg h23]
        have HC2 := Lib.hid hc
        have hlt2 : (s.st : Int) < 2 := by omega
        clear hc q h23
        go_enter Tryz.func17, Tryz.ntmps17
        go_wp2_with fail
        refine (hm _).mono ?_
        rintro e w0 ⟨rfl, hb0⟩
        go_wp2_with fail
        refine (hrc _).mono ?_
        rintro e w1 ⟨rfl, hb1'⟩
        have hb1 := hb0.trans (hb1'.mono hb0.size)
        go_wp2_with fail
        try simp only [htk]
        refine (hadr _).mono ?_
        rintro e w2 ⟨⟨a, rfl, ha⟩, hb2'⟩
        have hb2 := hb1.trans (hb2'.mono hb1.size)
        have hr2 := H.out.below hb2
        have c0 := hr2.cell (j := 0) rfl
        have hsy := SAME.out w2 lateB hb2 (by decide)
        clear hm hrc hadr htk hb0 hb1 hb1' hb2' hr2 ha
        go_wp2_with fail
        refine hsy.mono ?_
        rintro e w3 ⟨rfl, ho⟩
        clear hsy
        go_wp2_with fail
        go_ret
        rw [HC2.out]
        exact ho
    · have hc : cmd s l = (formB, s) := by rw [HC.out, if_neg (by rw [q]; decide)]
      have HC2 := Lib.hid hc
      rw [q] at hadr
      clear hc q
      go_enter Tryz.func17, Tryz.ntmps17
      go_wp2_with fail
      refine (hm _).mono ?_
      rintro e w0 ⟨rfl, hb0⟩
      go_wp2_with fail
      refine (hrc _).mono ?_
      rintro e w1 ⟨rfl, hb1'⟩
      have hb1 := hb0.trans (hb1'.mono hb0.size)
      go_wp2_with fail
      try simp only [htk]
      refine (hadr _).mono ?_
      rintro e w2 ⟨⟨a, rfl, ha⟩, hb2'⟩
      have hb2 := hb1.trans (hb2'.mono hb1.size)
      have hsy := SAME.out w2 formB hb2 (by decide)
      clear hm hrc hadr htk hb0 hb1 hb1' hb2' ha
      go_wp2_with fail
      refine hsy.mono ?_
      rintro e w3 ⟨rfl, ho⟩
      clear hsy
      go_wp2_with fail
      go_ret
      rw [HC2.out]
      exact ho
  have hrc : ∀ W, Calls Tryz.prog 34 #[.string (bs l), .string ⟨#[82, 67, 80, 84, 32, 84, 79, 58]⟩] W fun e w' => e = .returned (.bool false) ∧ Below W.heap.size W w' := fun W => by
    have := HR W (by decide)
    rw [qr] at this
    exact this
  rcases stB_cases l heloSp with qh | qh
  · have hc := rc_helo (s := s) h512 qm qr qh
    have hhe : ∀ W, Calls Tryz.prog 34 #[.string (bs l), .string ⟨#[72, 69, 76, 79, 32]⟩] W fun e w' => e = .returned (.bool true) ∧ Below W.heap.size W w' := fun W => by
      have := HH W (by decide)
      rw [qh] at this
      exact this
    have HC2 := Lib.hid hc
    have han := fun W hB hR => anew_any t base 1 (.int .i64 s.st) (.string (bs s.frm)) tv (.string (bs out)) mv (.bool false) W hB hR
    clear hc qm qr qh HM HR HH
    go_enter Tryz.func17, Tryz.ntmps17
    go_wp2_with fail
    refine (hm _).mono ?_
    rintro e w0 ⟨rfl, hb0⟩
    go_wp2_with fail
    refine (hrc _).mono ?_
    rintro e w1 ⟨rfl, hb1'⟩
    have hb1 := hb0.trans (hb1'.mono hb0.size)
    go_wp2_with fail
    refine (hhe _).mono ?_
    rintro e w2 ⟨rfl, hb2'⟩
    have hb2 := hb1.trans (hb2'.mono hb1.size)
    have hs2 := hb2.size
    go_wp2_with fail
    refine (han _ (by omega) (H.out.below hb2)).mono ?_
    rintro e w3 ⟨rfl, tv3, hr3, ho3, hv3, hx3⟩
    have hsy := HSAY.out w3 _ _ _ _ _ okayB (by have : okayB.length = 6 := rfl; omega) hr3
    have HO3 := Lib.hid ho3
    have HV3 := Lib.hid hv3
    clear hm hrc hhe han hb0 hb1 hb1' hb2' hr3 ho3 hv3
    go_wp2_with fail
    refine hsy.mono ?_
    rintro e w4 ⟨rfl, hr4, hx4⟩
    clear hsy
    go_wp2_with fail
    go_ret
    rw [HC2.out]
    have htl2 : t < w2.heap.size := Nat.lt_of_lt_of_le H.out.lt hs2
    refine ⟨rfl, ⟨⟨1, [], []⟩, tv3, hr4, hx4.own HO3.out fun k h1 h2 => ?_, fun _ => rfl, fun h => absurd h (by decide), fun k hk => .inr (Nat.le_trans hs2 (HV3.out k hk))⟩, ((Ext.belowL hb2 hx3).trans hx4 fun b e => .inl e).mono fun b e => .inl e⟩
    have := HV3.out k h1
    omega
  have hhe : ∀ W, Calls Tryz.prog 34 #[.string (bs l), .string ⟨#[72, 69, 76, 79, 32]⟩] W fun e w' => e = .returned (.bool false) ∧ Below W.heap.size W w' := fun W => by
    have := HH W (by decide)
    rw [qh] at this
    exact this
  have hbg := fun W => rbig_any l W (by omega)
  obtain ⟨wd, hwd⟩ : ∃ wd, l.map big = wd := ⟨_, rfl⟩
  rw [hwd] at hbg
  have HWD := Lib.hid hwd
  clear hwd HM HR HH
  by_cases hq : wd = quitW
  · have hc := rc_quit (s := s) h512 qm qr (HWD.out.trans hq)
    have HC2 := Lib.hid hc
    have hb1 : (wd == [81, 85, 73, 84]) = true := by rw [hq]; rfl
    clear hc qm qr qh hq
    go_enter Tryz.func17, Tryz.ntmps17
    go_wp2_with fail
    refine (hm _).mono ?_
    rintro e w0 ⟨rfl, hb0⟩
    go_wp2_with fail
    refine (hrc _).mono ?_
    rintro e w1 ⟨rfl, hb1'⟩
    have hb1 := hb0.trans (hb1'.mono hb0.size)
    go_wp2_with fail
    refine (hhe _).mono ?_
    rintro e w2 ⟨rfl, hb2'⟩
    have hb2 := hb1.trans (hb2'.mono hb1.size)
    go_wp2_with fail
    refine (hbg _).mono ?_
    rintro e w3 ⟨rfl, hb3'⟩
    have hb3 := hb2.trans (hb3'.mono hb2.size)
    have hr3 := H.out.below hb3
    have c5 := hr3.cell (j := 5) rfl
    have f5 := hr3.frozen 5
    have hsy := HSAY.out (w3.setCell ⟨t, 5, none⟩ (.bool true)) _ _ _ _ _ byeB (by have : byeB.length = 7 := rfl; omega) (hr3.set 5 _)
    clear hm hrc hhe hbg hb0 hb1' hb2' hb3' hr3
    go_wp2_with fail
    refine hsy.mono ?_
    rintro e w4 ⟨rfl, hr4, hx4⟩
    clear hsy
    go_wp2_with fail
    go_ret
    rw [HC2.out]
    have hxx : Ext (fun k => k = t) w w4 := ((Ext.of_below (fun k => k = t) hb3).set ⟨t, 5, none⟩ _ rfl).trans hx4 fun b e => .inl e
    exact ⟨rfl, ⟨s, tv, hr4, hxx.own HO.out fun k h1 h2 => HPB.out (h2 ▸ h1), fun h => absurd h (by decide), fun _ => rfl, fun k hk => .inl hk⟩, hxx.mono fun b e => .inl e⟩
  have hq1 : (wd == [81, 85, 73, 84]) = false := by rw [beq_eq_false_iff_ne]; exact hq
  by_cases hrs : wd = rsetW
  · have hc := rc_rset (s := s) h512 qm qr (HWD.out.trans hrs)
    have HC2 := Lib.hid hc
    have hb1 : (wd == [82, 83, 69, 84]) = true := by rw [hrs]; rfl
    have hmin := fun W at_ ty => run_min_st (P := Tryz.prog) W at_ ty s.st
    have hmst : min s.st 1 < 4 := by omega
    obtain ⟨k1, hk1⟩ : ∃ k, min s.st 1 = k := ⟨_, rfl⟩
    rw [hk1] at hmin hmst
    have HK1 := Lib.hid hk1
    have han := fun W hB hR => anew_any t base (k1 : Int) (.int .i64 s.st) (.string (bs s.frm)) tv (.string (bs out)) mv (.bool false) W hB hR
    clear hc qm qr qh hq hrs hk1
    go_enter Tryz.func17, Tryz.ntmps17
    go_wp2_with fail
    refine (hm _).mono ?_
    rintro e w0 ⟨rfl, hb0⟩
    go_wp2_with fail
    refine (hrc _).mono ?_
    rintro e w1 ⟨rfl, hb1'⟩
    have hb1 := hb0.trans (hb1'.mono hb0.size)
    go_wp2_with fail
    refine (hhe _).mono ?_
    rintro e w2 ⟨rfl, hb2'⟩
    have hb2 := hb1.trans (hb2'.mono hb1.size)
    go_wp2_with fail
    refine (hbg _).mono ?_
    rintro e w3 ⟨rfl, hb3'⟩
    have hb3 := hb2.trans (hb3'.mono hb2.size)
    have hr3 := H.out.below hb3
    have hs3 := hb3.size
    have c0 := hr3.cell (j := 0) rfl
    clear hm hrc hhe hbg hb0 hb1' hb2' hb3' hr3
    go_wp2_with fail
    refine (han _ (by omega) (H.out.below hb3)).mono ?_
    rintro e w4 ⟨rfl, tv4, hr4, ho4, hv4, hx4⟩
    have hsy := HSAY.out w4 _ _ _ _ _ okayB (by have : okayB.length = 6 := rfl; omega) hr4
    have HO4 := Lib.hid ho4
    have HV4 := Lib.hid hv4
    clear han hr4 ho4 hv4 hmin c0
    go_wp2_with fail
    refine hsy.mono ?_
    rintro e w5 ⟨rfl, hr5, hx5⟩
    clear hsy
    go_wp2_with fail
    go_ret
    rw [HC2.out, HK1.out]
    have htl2 : t < w3.heap.size := Nat.lt_of_lt_of_le H.out.lt hs3
    refine ⟨?_, ⟨⟨k1, [], []⟩, tv4, ?_, hx5.own HO4.out fun k h1 h2 => ?_, fun _ => rfl, fun h => by simp only at h; omega, fun k hk => .inr (Nat.le_trans hs3 (HV4.out k hk))⟩, ((Ext.belowL hb3 hx4).trans hx5 fun b e => .inl e).mono fun b e => .inl e⟩
    · show _ = Ending.returned (.bool (decide (k1 = 4)))
      rw [decide_eq_false (show ¬ k1 = 4 by omega)]
      rfl
    · simp only
      rw [decide_eq_false (show ¬ k1 = 5 by omega)]
      exact hr5
    · have := HV4.out k h1
      omega
  have hr1 : (wd == [82, 83, 69, 84]) = false := by rw [beq_eq_false_iff_ne]; exact hrs
  by_cases hda : wd = dataW
  · have hc := rc_data (s := s) h512 qm qr (HWD.out.trans hda)
    have HC := Lib.hid hc
    have hd1 : (wd == [68, 65, 84, 65]) = true := by rw [hda]; rfl
    clear hc qm qr qh hq hrs hda
    by_cases h3 : s.st = 3
    · have hc : cmd s l = (dataB, ⟨4, s.frm, s.tos⟩) := by rw [HC.out, if_pos h3]
      have HC2 := Lib.hid hc
      have h3b : ((s.st : Int) == 3) = true := by rw [beq_iff_eq]; omega
      clear hc h3
      go_enter Tryz.func17, Tryz.ntmps17
      go_wp2_with fail
      refine (hm _).mono ?_
      rintro e w0 ⟨rfl, hb0⟩
      go_wp2_with fail
      refine (hrc _).mono ?_
      rintro e w1 ⟨rfl, hb1'⟩
      have hb1 := hb0.trans (hb1'.mono hb0.size)
      go_wp2_with fail
      refine (hhe _).mono ?_
      rintro e w2 ⟨rfl, hb2'⟩
      have hb2 := hb1.trans (hb2'.mono hb1.size)
      go_wp2_with fail
      refine (hbg _).mono ?_
      rintro e w3 ⟨rfl, hb3'⟩
      have hb3 := hb2.trans (hb3'.mono hb2.size)
      have hr3 := H.out.below hb3
      have c0 := hr3.cell (j := 0) rfl
      have hsy := HSAY.out w3 _ _ _ _ _ dataB (by have : dataB.length = 6 := rfl; omega) hr3
      clear hm hrc hhe hbg hb0 hb1' hb2' hb3' hr3
      go_wp2_with fail
      refine hsy.mono ?_
      rintro e w4 ⟨rfl, hr4, hx4⟩
      clear hsy
      go_wp2_with fail
      go_ret
      rw [HC2.out]
      have hxx : Ext (fun k => k = t) w w4 := Ext.belowL hb3 hx4
      exact ⟨rfl, ⟨s, tv, hr4, hxx.own HO.out fun k h1 h2 => HPB.out (h2 ▸ h1), fun h => absurd h (by simp), fun _ => rfl, fun k hk => .inl hk⟩, hxx.mono fun b e => .inl e⟩
    · have hc : cmd s l = (lateB, s) := by rw [HC.out, if_neg h3]
      have HC2 := Lib.hid hc
      have h3b : ((s.st : Int) == 3) = false := by rw [beq_eq_false_iff_ne]; omega
      clear hc h3
      go_enter Tryz.func17, Tryz.ntmps17
      go_wp2_with fail
      refine (hm _).mono ?_
      rintro e w0 ⟨rfl, hb0⟩
      go_wp2_with fail
      refine (hrc _).mono ?_
      rintro e w1 ⟨rfl, hb1'⟩
      have hb1 := hb0.trans (hb1'.mono hb0.size)
      go_wp2_with fail
      refine (hhe _).mono ?_
      rintro e w2 ⟨rfl, hb2'⟩
      have hb2 := hb1.trans (hb2'.mono hb1.size)
      go_wp2_with fail
      refine (hbg _).mono ?_
      rintro e w3 ⟨rfl, hb3'⟩
      have hb3 := hb2.trans (hb3'.mono hb2.size)
      have c0 := (H.out.below hb3).cell (j := 0) rfl
      have hsy := SAME.out w3 lateB hb3 (by decide)
      clear hm hrc hhe hbg hb0 hb1' hb2' hb3'
      go_wp2_with fail
      refine hsy.mono ?_
      rintro e w4 ⟨rfl, ho⟩
      clear hsy
      go_wp2_with fail
      go_ret
      rw [HC2.out]
      exact ho
  have hd1 : (wd == [68, 65, 84, 65]) = false := by rw [beq_eq_false_iff_ne]; exact hda
  have hw4 : ∀ W, Calls Tryz.prog 34 #[.string (bs l), .string ⟨#[72, 69, 76, 79]⟩] W fun e w' => e = .returned (.bool (stB l heloW)) ∧ Below W.heap.size W w' := fun W => HS.out heloW W (by decide)
  have hw5 : ∀ W, Calls Tryz.prog 34 #[.string (bs l), .string ⟨#[81, 85, 73, 84]⟩] W fun e w' => e = .returned (.bool (stB l quitW)) ∧ Below W.heap.size W w' := fun W => HS.out quitW W (by decide)
  have hw6 : ∀ W, Calls Tryz.prog 34 #[.string (bs l), .string ⟨#[82, 83, 69, 84]⟩] W fun e w' => e = .returned (.bool (stB l rsetW)) ∧ Below W.heap.size W w' := fun W => HS.out rsetW W (by decide)
  have hw7 : ∀ W, Calls Tryz.prog 34 #[.string (bs l), .string ⟨#[68, 65, 84, 65]⟩] W fun e w' => e = .returned (.bool (stB l dataW)) ∧ Below W.heap.size W w' := fun W => HS.out dataW W (by decide)
  have hform : stB l heloW = true ∨ stB l quitW = true ∨ stB l rsetW = true ∨ stB l dataW = true → cmd s l = (formB, s) := fun h => rc_form h512 qm qr qh (by rw [HWD.out]; exact hq) (by rw [HWD.out]; exact hrs) (by rw [HWD.out]; exact hda) h
  have hwhat := rc_what (s := s) h512 qm qr
  have HF := Lib.hid hform
  have HW := Lib.hid hwhat
  clear hform hwhat qm qr qh hq hrs hda
  obtain ⟨z4, hz4⟩ : ∃ z, stB l heloW = z := ⟨_, rfl⟩
  obtain ⟨z5, hz5⟩ : ∃ z, stB l quitW = z := ⟨_, rfl⟩
  obtain ⟨z6, hz6⟩ : ∃ z, stB l rsetW = z := ⟨_, rfl⟩
  obtain ⟨z7, hz7⟩ : ∃ z, stB l dataW = z := ⟨_, rfl⟩
  rw [hz4, hz5, hz6, hz7] at HF
  rw [hz4, hz5, hz6, hz7] at HW
  rw [hz4] at hw4
  rw [hz5] at hw5
  rw [hz6] at hw6
  rw [hz7] at hw7
  clear hz4 hz5 hz6 hz7
  go_enter Tryz.func17, Tryz.ntmps17
  go_wp2_with fail
  refine (hm _).mono ?_
  rintro e w0 ⟨rfl, hb0⟩
  go_wp2_with fail
  refine (hrc _).mono ?_
  rintro e w1 ⟨rfl, hb1'⟩
  have hb1 := hb0.trans (hb1'.mono hb0.size)
  go_wp2_with fail
  refine (hhe _).mono ?_
  rintro e w2 ⟨rfl, hb2'⟩
  have hb2 := hb1.trans (hb2'.mono hb1.size)
  go_wp2_with fail
  refine (hbg _).mono ?_
  rintro e w3 ⟨rfl, hb3'⟩
  have hb3 := hb2.trans (hb3'.mono hb2.size)
  clear hm hrc hhe hbg hb0 hb1 hb1' hb2 hb2' hb3'
  go_wp2_with fail
  refine (hw4 _).mono ?_
  rintro e w4 ⟨rfl, hb4'⟩
  have hb4 := hb3.trans (hb4'.mono hb3.size)
  clear hw4 hb4' hb3
  cases z4 with
  | true =>
    have hsy := SAME.out w4 formB hb4 (by decide)
    have HC := Lib.hid (HF.out (.inl rfl))
    clear hw5 hw6 hw7 HF HW
    go_wp2_with fail
    refine hsy.mono ?_
    rintro e w8 ⟨rfl, ho⟩
    clear hsy
    go_wp2_with fail
    go_ret
    rw [HC.out]
    exact ho
  | false =>
    go_wp2_with fail
    refine (hw5 _).mono ?_
    rintro e w5 ⟨rfl, hb5'⟩
    have hb5 := hb4.trans (hb5'.mono hb4.size)
    clear hw5 hb5' hb4
    cases z5 with
    | true =>
      have hsy := SAME.out w5 formB hb5 (by decide)
      have HC := Lib.hid (HF.out (.inr (.inl rfl)))
      clear hw6 hw7 HF HW
      go_wp2_with fail
      refine hsy.mono ?_
      rintro e w8 ⟨rfl, ho⟩
      clear hsy
      go_wp2_with fail
      go_ret
      rw [HC.out]
      exact ho
    | false =>
      go_wp2_with fail
      refine (hw6 _).mono ?_
      rintro e w6 ⟨rfl, hb6'⟩
      have hb6 := hb5.trans (hb6'.mono hb5.size)
      clear hw6 hb6' hb5
      cases z6 with
      | true =>
        have hsy := SAME.out w6 formB hb6 (by decide)
        have HC := Lib.hid (HF.out (.inr (.inr (.inl rfl))))
        clear hw7 HF HW
        go_wp2_with fail
        refine hsy.mono ?_
        rintro e w8 ⟨rfl, ho⟩
        clear hsy
        go_wp2_with fail
        go_ret
        rw [HC.out]
        exact ho
      | false =>
        go_wp2_with fail
        refine (hw7 _).mono ?_
        rintro e w7 ⟨rfl, hb7'⟩
        have hb7 := hb6.trans (hb7'.mono hb6.size)
        clear hw7 hb7' hb6
        cases z7 with
        | true =>
          have hsy := SAME.out w7 formB hb7 (by decide)
          have HC := Lib.hid (HF.out (.inr (.inr (.inr rfl))))
          clear HF HW
          go_wp2_with fail
          refine hsy.mono ?_
          rintro e w8 ⟨rfl, ho⟩
          clear hsy
          go_wp2_with fail
          go_ret
          rw [HC.out]
          exact ho
        | false =>
          have hsy := SAME.out w7 whatB hb7 (by decide)
          have HC := Lib.hid (HW.out (by first | rfl | trivial) (by first | rfl | trivial) (by first | rfl | trivial) (by first | rfl | trivial))
          clear HF HW
          go_wp2_with fail
          refine hsy.mono ?_
          rintro e w8 ⟨rfl, ho⟩
          clear hsy
          go_wp2_with fail
          go_ret
          rw [HC.out]
          exact ho
end Go.Proofs.YtddjabjloplhiaaGreatDoor
