/- TalkSends: the walk. -/
import Derived.Test.YtddjabjloplhiaaGreatDoorChecked
import Derived.Test.YtddjabjloplhiaaGreatDoorK
import Derived.Test.YtddjabjloplhiaaGreatDoorU6
import Derived.Test.YtddjabjloplhiaaGreatDoorSl
import Derived.Deep.Slices
import Derived.ChangeSame
import Derived.Test.YtddjabjloplhiaaGreatDoorW12
import Derived.Test.YtddjabjloplhiaaGreatDoorZS
import Derived.Test.YtddjabjloplhiaaGreatDoorZB
namespace Go.Proofs.YtddjabjloplhiaaGreatDoor
set_option linter.unusedVariables false
set_option linter.unusedSimpArgs false
open Go.RowKit

set_option maxHeartbeats 400000 in
theorem same_any (A B : Option Addr) (xs ys : List UInt8) (n m c d : Nat) (w : World) (hn : xs.length = n) (hm : ys.length = m) (hA : Rb w A xs) (hB : Rb w B ys) (hl : n ≤ 9223372036854775807) :
    Calls Tryz.prog 14 #[.slice A n c, .slice B m d] w fun e w' => e = .returned (.bool (decide (xs = ys))) ∧ Dn w w' := by
  by_cases hnm : n = m
  · have HN := Lib.hid hn
    have HM := Lib.hid hm
    subst hnm
    clear hn hm
    go_enter Tryz.func14, Tryz.ntmps14
    go_wp2
    go_loopw [5] (fun i wr => ∃ k : Nat, k ≤ n ∧ i = .int .i64 k ∧ xs.take k = ys.take k ∧ ∃ q, wr = w.drewN q) (fun i _ => n - (intOf i).toNat)
    case atStart => exact ⟨0, Nat.zero_le _, rfl, by simp, 0, rfl⟩
    case round =>
      obtain ⟨k, hk, rfl, ht, q, rfl⟩ := hrel
      have HT := Lib.hid ht
      clear ht
      by_cases hlt : k < n
      · obtain ⟨b, o, x, rfl, HX, hxk⟩ := hA.one (k := k) (by rw [HN.out]; omega)
        obtain ⟨b', o', y, rfl, HY, hyk⟩ := hB.one (k := k) (by rw [HM.out]; omega)
        go_wp2_with fail
        go_quiet (fail)
        go_wp2
        · have h : ((x.toNat : Int) != y.toNat) = true := by assumption
          have hxy : ¬ xs = ys := fun e => by
            subst e
            have := HX.out.symm.trans HY.out
            simp_all
          go_ret
          exact ⟨ret_bool (decide_eq_false hxy).symm, Dn.of2 _ _ _⟩
        · have h : ((x.toNat : Int) != y.toNat) = false := by assumption
          have he : x = y := u8_eq.1 (by simpa using h)
          go_roundw
          case rel => exact ⟨k + 1, by omega, by go_num, by rw [take_succ_of HX.out, take_succ_of HY.out, HT.out, he], _, rfl⟩
          case measure => simp [intOf]; omega
      · have hxy : xs = ys := by
          have h := HT.out
          rwa [List.take_of_length_le (by rw [HN.out]; omega), List.take_of_length_le (by rw [HM.out]; omega)] at h
        go_wp2
        go_ret
        exact ⟨ret_bool (decide_eq_true hxy).symm, Dn.of _ _⟩
  · have hxy : ¬ xs = ys := fun e => by subst e; omega
    clear hn hm
    go_enter Tryz.func14, Tryz.ntmps14
    go_wp2
    go_ret
    exact ⟨ret_bool (decide_eq_false hxy).symm, Dn.refl _⟩
end Go.Proofs.YtddjabjloplhiaaGreatDoor

namespace Go.Proofs.YtddjabjloplhiaaGreatDoor
set_option linter.unusedVariables false
set_option linter.unusedSimpArgs false
open Go.RowKit Go.ChangeShapes Go.WideShapes Go.Deep

theorem sv_of (s : ByteArray) : sv s.data.toList = .string s := by unfold sv; rw [bs_of]
theorem Rs_row {H : Type} {enc : TypeId × Value → H} {P : Program} {W : World} {t st : TypeId} {a : Option Addr} {len cap : Nat} {d : DataW H} {ps : List MemPlace} (ht : P.underlying t = some (.slice st)) (hs : P.underlying st = some .string)
    (hc : P.cellsOf st = 1) (h : DataW.Trod enc P W 0 (fun _ => true) true t (.slice a len cap) d ps) :
    ∃ l : List (List UInt8), l.length = len ∧ len ≤ cap ∧ cap ≤ maxLen ∧ Rv W a (l.map sv) ∧ ∀ p ∈ l, p.length ≤ 9223372036854775807 := by
  obtain ⟨fuel, hf⟩ := h
  rcases open_slice ht hf with ⟨hcs, _⟩ | ⟨a', len', cap', m, n, D, Pl, hcs, _, hl, hm, hmm, _, hi⟩
  · simp [Value.cells] at hcs
    obtain ⟨rfl, rfl, rfl⟩ := hcs
    exact ⟨[], rfl, Nat.le_refl _, by unfold maxLen; omega, Rv.nil _ _, by simp⟩
  · simp [Value.cells] at hcs
    obtain ⟨rfl, rfl, rfl⟩ := hcs
    simp at hmm
    subst hmm
    rw [hc] at hi
    have each : ∀ i, i < m → ∃ p : List UInt8, W.cell? (a'.add i) = some (sv p) ∧ p.length ≤ maxLen := by
      intro i him
      obtain ⟨cs', h1, h2⟩ := hi i him
      obtain ⟨_, hlen, hat⟩ := World.cells?_some h1
      obtain ⟨s0, e0, _, z0⟩ := DataW.trod_string hs h2
      subst e0
      have g0 := hat 0 (by omega)
      refine ⟨s0.data.toList, ?_, ?_⟩
      · rw [sv_of]
        rw [add_zero] at g0
        simpa [Nat.mul_one] using g0
      · have e := bs_size s0.data.toList
        rw [bs_of] at e
        exact e ▸ z0
    obtain ⟨V, hV⟩ := choose_lt (p := fun i (p : List UInt8) => W.cell? (a'.add i) = some (sv p) ∧ p.length ≤ maxLen) each
    refine ⟨(List.range len).map V, by simp, hl, hm, fun hp => ?_, fun p hp => ?_⟩
    · rw [List.length_map] at hp
      simp at hp
      have h0 := (hV 0 (by omega)).1
      obtain ⟨b, o, s⟩ := a'
      have hs0 : s = none := by
        have := Addr_spot h0
        unfold Addr.add at this
        split at this <;> simp_all
      subst hs0
      refine ⟨b, o, rfl, fun j v hj => ?_⟩
      have hjl := lt_of_get hj
      rw [List.length_map] at hjl
      simp at hjl
      have hg : ((List.range len).map V)[j]? = some (V j) := by
        rw [List.getElem?_map, List.getElem?_range hjl]
        rfl
      rw [List.getElem?_map, hg] at hj
      have hv : v = sv (V j) := (Option.some.inj hj).symm
      rw [hv]
      have := (hV j (by omega)).1
      rwa [show (⟨b, o, none⟩ : Addr).add j = ⟨b, o + j, none⟩ by unfold Addr.add; split <;> simp_all] at this
    · obtain ⟨i, hi', rfl⟩ := List.mem_map.1 hp
      have := (hV i (by have := List.mem_range.1 hi'; omega)).2
      unfold maxLen at this
      exact this
end Go.Proofs.YtddjabjloplhiaaGreatDoor

namespace Go.Proofs.YtddjabjloplhiaaGreatDoor
set_option linter.unusedVariables false
set_option linter.unusedSimpArgs false
open Go.RowKit

theorem feed_0 : feed ⟨0, [], []⟩ [] = ⟨[], ⟨0, [], []⟩, [], []⟩ := feed_none rfl
theorem row_loadS {w : World} {g : Nat} {e : TypeId} {a b c : Value} (h : Row w g e [a, b, c]) : w.heap[g]? = some (.cells #[a, b, c] e) := h
theorem kcell_dr {w : World} {p : Addr} {v : Value} (h : w.cell? p = some v) : w.drew.cell? p = some v := h
theorem kcell_sc {w : World} {a p : Addr} {u v : Value} (h : w.cell? p = some v) (ha : a.block ≠ p.block) : (w.setCell a u).cell? p = some v := by
  rw [World.cell?_setCell_other _ _ _ _ (fun e => ha (by rw [e]))]
  exact h
theorem kbel_sc {w W : World} {p : Addr} (h : Below w.heap.size w W) (hp : w.heap.size ≤ p.block) (v : Value) : Below w.heap.size w (W.setCell p v) := h.setCell hp v
theorem kbel_al {w W : World} (h : Below w.heap.size w W) (o : Obj) : Below w.heap.size w (W.alloc o) := h.alloc h.size o
theorem kcells {W w1 : World} (hb : Below W.heap.size W w1) : (∀ b o, b < W.heap.size → w1.cell? ⟨b, o, none⟩ = W.cell? ⟨b, o, none⟩) ∧ (∀ b o, b < W.heap.size → w1.frozen? ⟨b, o, none⟩ = W.frozen? ⟨b, o, none⟩) :=
  ⟨fun b o h => hb.cell (p := ⟨b, o, none⟩) h, fun b o h => hb.frozen (p := ⟨b, o, none⟩) h⟩
theorem rv_far3 {w : World} {A : Option Addr} {xs : List Value} {g : Nat} {x y z : Value} (h : Rv w A xs) (hne : ∀ b o, A = some ⟨b, o, none⟩ → g ≠ b) : Rv (((w.setCell ⟨g, 0, none⟩ x).setCell ⟨g, 1, none⟩ y).setCell ⟨g, 2, none⟩ z) A xs := by
  intro hp
  obtain ⟨b, o, rfl, _⟩ := h hp
  have h1 := Rv.setFar h (p := ⟨g, 0, none⟩) (hne b o rfl) x
  have h2 := Rv.setFar h1 (p := ⟨g, 1, none⟩) (hne b o rfl) y
  have h3 := Rv.setFar h2 (p := ⟨g, 2, none⟩) (hne b o rfl) z
  exact h3 hp
/-- the three ways of Send -/
theorem sendOut_cases (frm : List UInt8) (tos : List (List UInt8)) (b : List UInt8) :
    (∃ cc : Int, (cc = 2 ∨ cc = 3) ∧ ∀ w e w', SendOut frm tos b w e w' → e = .returned (.tuple #[.slice none 0 0, .int .i64 cc])) ∨
    (sendOk frm tos = true ∧ tos ≠ [] ∧ tos.length ≤ 10 ∧ ∀ w e w', SendOut frm tos b w e w' → ∃ v, e = .returned (.tuple #[v, .int .i64 0]) ∧ OwnM w' w.heap.size 5 1 v (sendP frm tos b).length ((sendP frm tos b).map bv)) := by
  unfold SendOut
  by_cases h : sendOk frm tos = true
  · by_cases h2 : tos = [] ∨ 10 < tos.length
    · refine .inl ⟨2, .inl rfl, fun w e w' => ?_⟩
      rw [if_pos h, if_pos h2]
      exact id
    · refine .inr ⟨h, fun e => h2 (.inl e), by rw [not_or] at h2; omega, fun w e w' => ?_⟩
      rw [if_pos h, if_neg h2]
      exact id
  · refine .inl ⟨3, .inr rfl, fun w e w' => ?_⟩
    rw [if_neg h]
    exact id

theorem sendP_len (frm : List UInt8) (tos : List (List UInt8)) (b : List UInt8) (hf : frm.length ≤ 1000) (ht : tos.length ≤ 10) (hts : ∀ a ∈ tos, a.length ≤ 1000) (hb : b.length ≤ 3000) : (sendP frm tos b).length ≤ 50000 := by
  have hrl : ∀ l ∈ sendL frm tos, l.length ≤ 1100 := fun l hl => by
    unfold sendL at hl
    rcases List.mem_append.1 hl with hl | hl
    · simp at hl
      rcases hl with rfl | rfl
      · decide
      · simp [mailL, angle]; omega
    · obtain ⟨x, hx, rfl⟩ := List.mem_map.1 hl
      have := hts x hx
      simp [rcptL, angle]; omega
  have h1 := joinE_bound _ hrl
  have h2 : (sendL frm tos).length = tos.length + 2 := by unfold sendL; simp; try omega
  rw [h2] at h1
  have h3 := stuff_len b
  unfold sendP
  simp only [List.length_append, List.length_cons, List.length_nil]
  omega

set_option maxRecDepth 100000 in
set_option maxHeartbeats 4000000 in
theorem talkSends_any (frm : List UInt8) (tos : List (List UInt8)) (b : List UInt8) (T Bb : Option Addr) (nt ct nb' cb : Nat) (w : World) (hw : Mx w) (hnt : tos.length = nt) (hntc : nt ≤ ct) (hT : Rv w T (tos.map sv)) (hnb : b.length = nb') (hnbc : nb' ≤ cb) (hBb : Rb w Bb b) (hf : frm.length ≤ 9223372036854775807) (ht : nt ≤ 9223372036854775807) (hb3 : nb' ≤ 9223372036854775807) (hts : ∀ a ∈ tos, a.length ≤ 9223372036854775807) :
    Calls Tryz.prog 4 #[.agg #[.string (bs frm), .slice T nt ct, .slice Bb nb' cb]] w fun e w' => e = .returned (.bool true) ∧ Below w.heap.size w w' := by
  have HNT := Lib.hid hnt
  have HNB := Lib.hid hnb
  have HTS := Lib.hid hts
  clear hnt hnb hts
  have hbox : Row (w.alloc (.cells #[.string (bs frm), .slice T nt ct, .slice Bb nb' cb] 38)) w.heap.size 38 [.string (bs frm), .slice T nt ct, .slice Bb nb' cb] := Row.new w _ _
  have hbb : Below w.heap.size w (w.alloc (.cells #[.string (bs frm), .slice T nt ct, .slice Bb nb' cb] 38)) := (Below.refl _ _).alloc (Nat.le_refl _) _
  go_enter Tryz.func4, Tryz.ntmps4
  go_wp2_with fail
  refine (speaks21_any _ (hw.below hbb)).mono ?_
  rintro e w1 ⟨rfl, hB1'⟩
  have hB1 := hbb.trans (hB1'.mono hbb.size)
  have hrow1 := hbox.below hB1'
  have hs1 := hB1.size
  have hg1 : w.heap.size < w1.heap.size := hrow1.lt
  have hw1 := hw.below hB1
  have hT1 := hT.below hB1
  have hBb1 := hBb.below hB1
  have c0 := hrow1.cell (j := 0) rfl
  have c1 := hrow1.cell (j := 1) rfl
  have c2 := hrow1.cell (j := 2) rfl
  clear hbox hbb hB1' hT hBb hw
  by_cases h1 : 1000 < frm.length
  · have hi : (1000 : Int) < (frm.length : Int) := by omega
    clear h1
    go_wp2_with fail
    go_ret
    exact ⟨rfl, hB1⟩
  have hi1 : ¬ (1000 : Int) < (frm.length : Int) := by omega
  by_cases h2 : 30 < nt
  · have hi : (30 : Int) < (nt : Int) := by omega
    clear h2 h1
    go_wp2_with fail
    go_ret
    exact ⟨rfl, hB1⟩
  have hi2 : ¬ (30 : Int) < (nt : Int) := by omega
  by_cases h3 : 3000 < nb'
  · have hi : (3000 : Int) < (nb' : Int) := by omega
    clear h3 h2 h1
    go_wp2_with fail
    go_ret
    exact ⟨rfl, hB1⟩
  have hi3 : ¬ (3000 : Int) < (nb' : Int) := by omega
  have hf1 : frm.length ≤ 1000 := by omega
  have ht30 : nt ≤ 30 := by omega
  have hb30 : nb' ≤ 3000 := by omega
  clear h1 h2 h3 hf ht hb3
  go_wp2_with fail
  go_loopw [33] (fun i wr => ∃ q : Nat, i = .int .i64 q ∧ q ≤ nt ∧ Hid (∀ y ∈ tos.take q, y.length ≤ 1000) ∧ Dn w1 wr) (fun i _ => nt - (intOf i).toNat)
  case atStart => exact ⟨0, rfl, by omega, Lib.hid (by simp), Dn.refl _⟩
  case round =>
    obtain ⟨q, rfl, hq, hok, hDn⟩ := hrel
    have hBr : Below w1.heap.size w1 wr := hDn.below _
    by_cases hlt : q < nt
    · obtain ⟨bt, ot, xv, rfl, hxv, cx⟩ := (hT1.below hBr).one (k := q) (by rw [List.length_map, HNT.out]; exact hlt)
      obtain ⟨a, ha⟩ : ∃ a, tos[q]? = some a := ⟨_, List.getElem?_eq_getElem (by rw [HNT.out]; exact hlt)⟩
      have exv : xv = .string (bs a) := by
        have := hxv.out
        rw [List.getElem?_map, ha] at this
        exact (Option.some.inj this).symm
      subst exv
      have hal := HTS.out a (List.mem_of_getElem? ha)
      have HA := Lib.hid ha
      clear hxv ha
      by_cases h5 : 1000 < a.length
      · have hi : (1000 : Int) < (a.length : Int) := by omega
        clear h5
        go_wp2_with fail
        go_ret
        exact ⟨rfl, hB1.trans (hBr.mono hs1)⟩
      · have hi : ¬ (1000 : Int) < (a.length : Int) := by omega
        have HOK2 : Hid (∀ y ∈ tos.take (q + 1), y.length ≤ 1000) := Lib.hid (by
          rw [take_succ_of HA.out]
          intro y hy
          rcases List.mem_append.1 hy with h | h
          · exact hok.out y h
          · rw [List.mem_singleton.1 h]; omega)
        clear h5
        go_wp2_with fail
        go_roundw
        case rel => exact ⟨q + 1, by go_num, by omega, HOK2, hDn⟩
        case measure => simp [intOf]; omega
    · obtain rfl : q = nt := by omega
      have hTS : ∀ y ∈ tos, y.length ≤ 1000 := fun y hy => hok.out y (by rw [List.take_of_length_le (by rw [HNT.out]; exact Nat.le_refl _)]; exact hy)
      have HTSS := Lib.hid hTS
      have hBw := hB1.trans (hBr.mono hs1)
      have hrow := hrow1.below hBr
      have hwr := hw1.below hBr
      have hTr := hT1.below hBr
      have hBbr := hBb1.below hBr
      clear hTS hok hrow1 c0 c1 c2 hT1 hBb1 hw1 hDn hBr hlt
      have c0 := hrow.cell (j := 0) rfl
      have c1 := hrow.cell (j := 1) rfl
      have c2 := hrow.cell (j := 2) rfl
      have hps := psend_any frm tos b T Bb q ct nb' cb wr hwr HNT.out hTr HNB.out hBbr hf1 ht30 hb30 HTSS.out
      have hrs := fun W (hW : Below wr.heap.size wr W) => rsend_any frm tos b T Bb q ct nb' cb W HNT.out (hTr.below hW) HNB.out (hBbr.below hW) hf1 ht30 hb30 HTSS.out
      rcases sendOut_cases frm tos b with ⟨cc, hcc, hso⟩ | ⟨hok1, hne, hle, hso⟩
      · have hsame := fun W => same_any none none [] [] 0 0 0 0 W rfl rfl (Rb.nil _ _) (Rb.nil _ _) (by omega)
        go_wp2_with fail
        refine hps.mono ?_
        rintro e w2 ⟨he, hb2⟩
        obtain rfl := hso _ _ _ he
        have hrow2 := hrow.below hb2
        have d0 := hrow2.cell (j := 0) rfl
        have d1 := hrow2.cell (j := 1) rfl
        have d2 := hrow2.cell (j := 2) rfl
        clear he hps
        go_wp2_with fail
        refine (hrs _ hb2).mono ?_
        rintro e w3 ⟨he, hb3⟩
        obtain rfl := hso _ _ _ he
        clear he hrs hso
        have hB3 := hBw.trans ((hb2.trans (hb3.mono hb2.size)).mono hBw.size)
        rcases hcc with rfl | rfl
        all_goals
          go_wp2_with fail
          refine (hsame _).mono ?_
          rintro e w4 ⟨rfl, hd4⟩
          clear hsame
          go_wp2_with fail
          go_ret
          exact ⟨rfl, hB3.trans (hd4.below _)⟩
      · obtain ⟨fo, hfs⟩ := feed_send b hok1 hne hle
        have hPl : (sendP frm tos b).length ≤ 50000 := sendP_len frm tos b hf1 (by omega) HTSS.out (by rw [HNB.out]; omega)
        obtain ⟨P, hP⟩ : ∃ P, sendP frm tos b = P := ⟨_, rfl⟩
        rw [hP] at hso hfs hPl
        obtain ⟨n1, hn1⟩ : ∃ n, P.length = n := ⟨_, rfl⟩
        rw [hn1] at hso hPl
        have HN1 := Lib.hid hn1
        have HFS := Lib.hid hfs
        have HNE := Lib.hid hne
        have hll := laid_len b
        rw [HNB.out] at hll
        clear hP hn1 hfs hne hok1
        go_wp2_with fail
        refine hps.mono ?_
        rintro e w2 ⟨he, X2⟩
        obtain ⟨v2, rfl, own2⟩ := hso _ _ _ he
        obtain ⟨A2, c2', rfl, _, _, hR2, _, _, _⟩ := own2.form
        have hrow2 := hrow.below X2
        have d0 := hrow2.cell (j := 0) rfl
        have d1 := hrow2.cell (j := 1) rfl
        have d2 := hrow2.cell (j := 2) rfl
        clear he hps own2 hrow2
        go_wp2_with fail
        refine (hrs _ X2).mono ?_
        rintro e w3 ⟨he, hb3⟩
        obtain ⟨v3, rfl, own3⟩ := hso _ _ _ he
        obtain ⟨A3, c3, rfl, _, _, hR3, _, _, _⟩ := own3.form
        have X3 := X2.trans (hb3.mono X2.size)
        have hR23 : Rb w3 A2 P := (show Rb w2 A2 P from hR2).below hb3
        have hsame := same_any A2 A3 P P n1 n1 c2' c3 w3 HN1.out HN1.out hR23 hR3 (by omega)
        rw [show decide (P = P) = true from decide_eq_true rfl] at hsame
        clear he hrs hso own3 hR2 hb3
        go_wp2_with fail
        refine hsame.mono ?_
        rintro e w4 ⟨rfl, hd4⟩
        have X4 := X3.trans (hd4.below _)
        have hR4 := hR23.below (hd4.below w3.heap.size)
        clear hsame hR23 hR3 hd4
        go_wp2_with fail
        refine (newPost2_any w4).mono ?_
        rintro e w5 ⟨rfl, hr5, hb5, hs5⟩
        have X5 := X4.trans (hb5.mono X4.size)
        have hmx5 : MxB w5 w4.heap.size := ⟨hwr.below X5, (hwr.below X4).base.2⟩
        have hR5 := hR4.below hb5
        have hpo5 := post_new hr5 (xv := .slice none 0 0) (xo := []) (Below.refl _ _) (OwnM.nil _ _ _ _)
        have hfe := feedStep_any w4.heap.size [] P [] (.slice none 0 0) A2 n1 c2' w5 hmx5 HN1.out hR5 (by simp; omega) (by rw [feed_0]; exact hpo5) (by rw [feed_0]; rfl) hb5.size
        have hs4 := X4.size
        have hs45 : w4.heap.size < w5.heap.size := by omega
        clear hpo5 hmx5 hR4 hb5 hs5 hr5
        go_wp2_with fail
        refine hfe.mono ?_
        rintro e w6 ⟨⟨v6, o6, rfl, _, _, ts, hpo6, hts6⟩, hb6⟩
        have X6 := X5.trans (hb6.mono hs4)
        rw [List.nil_append, HFS.out] at hpo6 hts6
        have htl : ts.length = 1 := by have := congrArg List.length hts6; simpa using this
        have hsz6 : ∀ t ∈ ts, t.1.tos.length ≤ 1000 ∧ t.1.body.length ≤ 1000000 := fun t ht => by
          have h1 : t.1 ∈ ts.map (·.1) := List.mem_map_of_mem ht
          rw [hts6, List.mem_singleton] at h1
          rw [h1]
          show tos.length ≤ 1000 ∧ (laidP b).length ≤ 1000000
          rw [HNT.out]
          omega
        have hml := mails_any _ _ _ _ _ _ _ w6 hpo6 (by omega) hsz6
        clear hfe hsz6
        have HPO := Lib.hid hpo6
        have HT6 := Lib.hid hts6
        clear hpo6 hts6
        go_wp2_with fail
        refine hml.mono ?_
        rintro e w7 ⟨⟨Am, cm, um, rfl, hma, hmf⟩, hb7⟩
        have X7 := X6.trans (hb7.mono X6.size)
        rw [htl]
        have hrow7 := hrow.below X7
        have e0 := hrow7.cell (j := 0) rfl
        have e1 := hrow7.cell (j := 1) rfl
        have e2 := hrow7.cell (j := 2) rfl
        have hBB7 := hBbr.below X7
        have hld : ∀ W, Below w7.heap.size w7 W → Calls Tryz.prog 15 #[.slice Bb nb' cb] W fun e w' => (∃ v, e = .returned v ∧ OwnM w' W.heap.size 5 1 v (laidP b).length ((laidP b).map bv)) ∧ Below w7.heap.size w7 w' ∧ Below W.heap.size W w' := fun W hW => (rlaid_any Bb b nb' cb W HNB.out (hBB7.below hW) (by omega)).mono fun e w' h => ⟨h.1, hW.trans (h.2.mono hW.size), h.2⟩
        have HMA := Lib.hid hma
        have HMF := Lib.hid hmf
        have hs7 := X7.size
        have hlt7 := hrow7.lt
        have hsw := hBw.size
        clear hml htl hma hmf hb6 d0 d1 d2 c0 c1 c2
        go_upto_region 20 with fail
        go_cut [11] (fun s11 wx => ∃ g A c, s11 = .pointer (some ⟨g, 0, none⟩) ∧ Row wx g 38 [.string (bs frm), .slice T q ct, .slice A (laidP b).length c] ∧ Rb wx A (laidP b) ∧ (laidP b).length ≤ c ∧ Pl A c ∧ Below w7.heap.size w7 wx)
        case first =>
          have hbase := Below.refl w7.heap.size w7
          go_region_held_law (fun w' => Below w7.heap.size w7 w' ∧ w'.cell? ⟨w.heap.size, 0, none⟩ = some (.string (bs frm)) ∧ w'.cell? ⟨w.heap.size, 1, none⟩ = some (.slice T q ct) ∧ w'.cell? ⟨w.heap.size, 2, none⟩ = some (.slice Bb nb' cb))
            (refine ⟨?_, ?_, ?_, ?_⟩ <;> (repeat (first | (with_reducible assumption) | (with_reducible refine cell_alz _ ?_) | (with_reducible refine kcell_dr ?_) | (with_reducible refine kcell_sc ?_ (by simp; omega)) | (with_reducible refine Below.drew ?_) | (with_reducible refine kbel_al ?_ _) | (with_reducible refine kbel_sc ?_ (by simp <;> omega) _))))
            (first
            | (go_at_call 15; (with_reducible refine (hld _ (And.left (by assumption))).mono ?_); rintro e w8 ⟨⟨v8, rfl, ho8⟩, hx8, hy8⟩; obtain ⟨A8, c8, rfl, hc8, _, hR8, _, hn8, hp8⟩ := ho8.form; have k0 := (hrow7.below hx8).cell (j := 0) rfl; have k1 := (hrow7.below hx8).cell (j := 1) rfl; have k2 := (hrow7.below hx8).cell (j := 2) rfl; have hs8 := hx8.size; obtain ⟨kF, kfF⟩ := kcells hy8; have sy8 := hy8.size; (try simp at sy8); (try have := (by omega : w7.heap.size < w8.heap.size)); (try have := (by omega : w7.heap.size ≠ w8.heap.size)); (try have := (by omega : w.heap.size ≠ w8.heap.size)); (try have := (by omega : w.heap.size ≠ w7.heap.size))))
          all_goals
            go_wp2_with fail
            go_meet
            first
            | exact ⟨w8.heap.size, A8, c8, rfl, Row.new w8 _ _, hR8.below ((Below.refl _ w8).alloc (Nat.le_refl _) _), hc8, pl_of hn8 hp8, kbel_al hx8 _⟩
            | (refine ⟨w7.heap.size, A8, c8, rfl, (((Row.below (show Row (w7.alloc (.cells #[.string ⟨#[]⟩, .slice none 0 0, .slice none 0 0] 38)).drew w7.heap.size 38 _ from Row.new w7 _ _) hy8).set 0 _).set 1 _).set 2 _, rv_far3 hR8 (fun b o h => ?_), hc8, pl_of hn8 hp8, kbel_sc (kbel_sc (kbel_sc hx8 (Nat.le_refl _) _) (Nat.le_refl _) _) (Nat.le_refl _) _⟩
               subst h
               have hb8 := (ho8.lt b rfl).1
               simp at hb8
               omega)
        case rest =>
          obtain ⟨g2, A8, c8, rfl, hrowq, hRq, hlc, hpl, hbq⟩ := hcut
          obtain ⟨lv, tv, kv, hPG⟩ := HPO.out
          have hb67 := hb7.trans (hbq.mono hb7.size)
          have hcl := closed2_any wc w4.heap.size 5 _ _ _ _ _ (hPG.row.below hb67)
          rw [show decide (5 = 5) = true from rfl] at hcl
          have f0 := hrowq.cell (j := 0) rfl
          have f1 := hrowq.cell (j := 1) rfl
          have f2 := hrowq.cell (j := 2) rfl
          have hbW : Below wc.heap.size wc (wc.alloc (.cells #[.string (bs frm), .slice T q ct, .slice A8 (laidP b).length c8] 38)) := (Below.refl _ _).alloc (Nat.le_refl _) _
          have hml : um.map (·.1) = [⟨frm, tos, laidP b⟩] := HMF.out.trans HT6.out
          have hul : um.length = 1 := by have := congrArg List.length hml; simpa using this
          have hTW : Rv (wc.alloc (.cells #[.string (bs frm), .slice T q ct, .slice A8 (laidP b).length c8] 38)) T (tos.map sv) := ((hTr.below X7).below hbq).below hbW
          have hpT : Pl T ct := by
            obtain ⟨bt, ot, e, _⟩ := hTr (by rw [List.length_map]; exact List.length_pos_iff.2 HNE.out)
            exact .inr ⟨bt, ot, e⟩
          have hms : MsAt (wc.alloc (.cells #[.string (bs frm), .slice T q ct, .slice A8 (laidP b).length c8] 38)) (some ⟨wc.heap.size, 0, none⟩) [(⟨frm, tos, laidP b⟩, .slice T q ct, .slice A8 (laidP b).length c8)] := by
            refine ⟨Rv_new wc _ _ _ rfl, fun t ht => ?_⟩
            rw [List.mem_singleton] at ht
            subst ht
            exact ⟨T, ct, A8, c8, by rw [HNT.out], hTW, by rw [HNT.out]; exact hntc, hpT, rfl, hRq.below hbW, hlc, hpl⟩
          have hsm := rsame_any Am (some ⟨wc.heap.size, 0, none⟩) um [(⟨frm, tos, laidP b⟩, .slice T q ct, .slice A8 (laidP b).length c8)] 1 cm 1 1 (wc.alloc (.cells #[.string (bs frm), .slice T q ct, .slice A8 (laidP b).length c8] 38)) ((HMA.out.below hbq).below hbW) hms hul rfl hml (by omega) (fun t ht => by
            have h1 : t.1 ∈ um.map (·.1) := List.mem_map_of_mem ht
            rw [hml, List.mem_singleton] at h1
            rw [h1]
            show tos.length ≤ 1000000
            rw [HNT.out]
            omega)
          have hBf := hBw.trans ((X7.trans ((hbq.trans (hbW.mono hbq.size)).mono hs7)).mono hBw.size)
          clear hms hml hul hPG hrowq hRq hpl hb67
          go_wp2_with fail
          refine hcl.mono ?_
          rintro e w9 ⟨rfl, rfl⟩
          clear hcl
          go_wp2_with fail
          refine hsm.mono ?_
          rintro e w10 ⟨rfl, hd10⟩
          clear hsm
          go_wp2_with fail
          go_ret
          exact ⟨rfl, hBf.trans (hd10.below _)⟩
end Go.Proofs.YtddjabjloplhiaaGreatDoor
