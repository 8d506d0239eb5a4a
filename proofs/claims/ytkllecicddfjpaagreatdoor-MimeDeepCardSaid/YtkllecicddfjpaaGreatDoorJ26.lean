/- Signs as bytes: armor.Decode. · The statements of layer 6 that need no more than Encode and Decode: speaks, ArmorParts. · Bytes as lines of signs: what armor.Lines gives. · Lines of signs, in plain words: no line is longer than 76 signs. Nothing of the program. · Lines and Decode, in one form. -/
import Derived.Test.YtkllecicddfjpaaGreatDoorJ25
import Derived.Test.YtkllecicddfjpaaGreatDoorJ02
import Derived.Test.YtkllecicddfjpaaGreatDoorJ24
namespace Go.Proofs.YtkllecicddfjpaaGreatDoor
namespace Ar
set_option linter.unusedVariables false
set_option linter.unusedSimpArgs false
open Go.RowKit


/-- what Decode answers -/
def DecOut (l : List UInt8) (w : World) (e : Ending) (w' : World) : Prop :=
  ((∃ A n c a, e = .returned (.tuple #[.slice A n c, .int .i64 0]) ∧ a.length = n ∧ n ≤ c ∧ n ≤ l.length ∧ Rb w' A a ∧ enc a = l) ∨
    (e = .returned (.tuple #[.slice none 0 0, .int .i64 3]) ∧ ∀ a, enc a ≠ l)) ∧ Below w.heap.size w w'

theorem dec_group {l a : List UInt8} {k q : Nat} (e : enc a = l) (hq : q = 4 * k) (h : q < l.length) :
    1 ≤ (chk a 3 k).length ∧ (chk a 3 k).length ≤ 3 ∧ enc (chk a 3 k) = (l.drop q).take 4 ∧ (q + 4 < l.length → (chk a 3 k).length = 3) := by
  subst hq
  have hl := enc_length a
  rw [e] at hl
  have hlen : (chk a 3 k).length = min 3 (a.length - k * 3) := by simp [chk]
  have h1 : 1 ≤ (chk a 3 k).length := by omega
  have h3 : (chk a 3 k).length ≤ 3 := by omega
  refine ⟨h1, h3, ?_, fun h4 => by omega⟩
  rw [enc_one _ h1 h3, ← enc_group a k (by omega), e]

theorem take_add4 {l : List UInt8} {q : Nat} : l.take (q + 4) = l.take q ++ (l.drop q).take 4 := by rw [List.take_add]

set_option maxRecDepth 100000 in
set_option maxHeartbeats 2000000 in
theorem dec_any (l : List UInt8) (w : World) (hl : l.length ≤ 100000000) :
    Calls Tryz.prog 90 #[.string (bs l)] w (DecOut l w) := by
  go_enter Tryz.func90, Tryz.ntmps90
  by_cases h4 : l.length % 4 = 0
  · have hb : (((l.length : Int) % 4) != 0) = false := by
      have : (l.length : Int) % 4 = 0 := by omega
      simp [this]
    have H4 := Lib.hid h4
    clear h4
    go_wp2_with fail
    go_loopw [4, 5] (fun v i wr => ∃ (k q : Nat) (os : List UInt8), i = .int .i64 q ∧ q ≤ 4 * k ∧ 4 * k ≤ q ∧ q ≤ l.length ∧ wr.ownsRow w.heap.size 5 1 v os.length (os.map bv) ∧ Below w.heap.size w wr ∧ enc os = l.take q ∧ (q < l.length → os.length = 3 * k) ∧ os.length ≤ 3 * k) (fun _ i _ => l.length - (intOf i).toNat)
    case atStart => exact ⟨0, 0, [], rfl, by omega, by omega, by omega, World.ownsRow_nil _ _ _ _, Below.refl _ _, rfl, fun _ => rfl, by simp⟩
    case round =>
      obtain ⟨k, q, os, rfl, hq1, hq2, hql, hown, hB, henc, hos, hos2⟩ := hrel
      have HE := Lib.hid henc
      have HO := Lib.hid hos
      clear henc hos
      obtain ⟨wo, rfl⟩ : ∃ wo : World, wo = wr := ⟨_, rfl⟩
      by_cases hlt : q < l.length
      · have hq4 : q + 4 ≤ l.length := by have := H4.out; omega
        have hg : ((l.drop q).take 4).length = 4 := by simp; omega
        have hos := HO.out hlt
        go_wp2_with fail
        refine (part_any _ _ hg).mono ?_
        rintro e w1 ⟨A, n, c, ok, ys, rfl, hn, hnc, hc, hrb, hyes, hno, hb1⟩
        have HN := Lib.hid hn
        have HNO := Lib.hid hno
        have HY := Lib.hid hyes
        clear hn hno hyes hg hos
        rcases ok with _ | _
        · go_wp2
          go_ret2
          refine ⟨.inr ⟨rfl, fun a ha => ?_⟩, hB.trans (hb1.mono hB.size)⟩
          obtain ⟨d1, d2, d3, _⟩ := dec_group (k := k) ha (by omega) hlt
          exact HNO.out (by trivial) _ d1 d2 d3
        · obtain ⟨hn1, hey⟩ := HY.out rfl
          have HEY := Lib.hid hey
          clear hey
          by_cases hbad : n < 3 ∧ q + 4 < l.length
          · obtain ⟨hb3, hb4⟩ := hbad
            go_wp2
            go_ret2
            refine ⟨.inr ⟨rfl, fun a ha => ?_⟩, hB.trans (hb1.mono hB.size)⟩
            obtain ⟨d1, d2, d3, d4⟩ := dec_group (k := k) ha (by omega) hlt
            have h3 := d4 hb4
            have hy3 : ys.length ≤ 3 := by rw [HN.out]; omega
            have e2 : enc3 ys = enc3 (chk a 3 k) := by rw [← enc_one _ (by rw [HN.out]; omega) hy3, ← enc_one _ d1 d2, d3, HEY.out]
            have e3 := enc3_inj (by rw [HN.out]; omega) hy3 d1 d2 e2
            have := HN.out
            rw [e3, h3] at this
            omega
          · have hown1 := own_below hown hb1
            have hos3 := hos2
            by_cases hn3 : n < 3
            · have hq4' : ¬ q + 4 < l.length := fun h => hbad ⟨hn3, h⟩
              clear hbad
              go_wp2_with (at_builtin; refine wpList_app rfl _ _ _ _ rfl TU8 hown1 rfl (Src_rb Tryz.underlying22 HN.out hrb) rfl (by omega) (by have := hB.size; have := hb1.size; omega) ?_; intro v2 w2 hown2 hgr2 _)
              have hl2 : os.length + n = (os ++ ys).length := by rw [List.length_append, HN.out]
              have hB2 : Below w.heap.size w w2 := below_app (hB.trans (hb1.mono hB.size)) hown1 hgr2 (by have := hB.size; have := hb1.size; omega) (Nat.le_refl _)
              have he2 : enc (os ++ ys) = l.take (q + 4) := by
                rw [enc_append _ _ (by have := HO.out hlt; omega), HE.out, HEY.out]
                exact take_add4.symm
              have hown3 : w2.ownsRow w.heap.size 5 1 v2 (os ++ ys).length ((os ++ ys).map bv) := by rw [← hl2, List.map_append]; exact hown2
              have hlos : (os ++ ys).length ≤ 3 * (k + 1) := by have := HO.out hlt; omega
              have hl3 : q + 4 < l.length → (os ++ ys).length = 3 * (k + 1) := fun h => absurd h hq4'
              go_roundw
              case rel => exact ⟨k + 1, q + 4, os ++ ys, by go_num, by omega, by omega, by omega, hown3, hB2, he2, hl3, hlos⟩
              case measure => simp [intOf]; omega
            · clear hbad
              go_wp2_with (at_builtin; refine wpList_app rfl _ _ _ _ rfl TU8 hown1 rfl (Src_rb Tryz.underlying22 HN.out hrb) rfl (by omega) (by have := hB.size; have := hb1.size; omega) ?_; intro v2 w2 hown2 hgr2 _)
              have hl2 : os.length + n = (os ++ ys).length := by rw [List.length_append, HN.out]
              have hB2 : Below w.heap.size w w2 := below_app (hB.trans (hb1.mono hB.size)) hown1 hgr2 (by have := hB.size; have := hb1.size; omega) (Nat.le_refl _)
              have he2 : enc (os ++ ys) = l.take (q + 4) := by
                rw [enc_append _ _ (by have := HO.out hlt; omega), HE.out, HEY.out]
                exact take_add4.symm
              have hown3 : w2.ownsRow w.heap.size 5 1 v2 (os ++ ys).length ((os ++ ys).map bv) := by rw [← hl2, List.map_append]; exact hown2
              have hlos : (os ++ ys).length ≤ 3 * (k + 1) := by have := HO.out hlt; omega
              have hl3 : q + 4 < l.length → (os ++ ys).length = 3 * (k + 1) := fun h => by have := HO.out hlt; omega
              go_roundw
              case rel => exact ⟨k + 1, q + 4, os ++ ys, by go_num, by omega, by omega, by omega, hown3, hB2, he2, hl3, hlos⟩
              case measure => simp [intOf]; omega
      · have hq : q = l.length := by omega
        obtain ⟨Av, cv, rfl, hvc, _, hvr, _⟩ := own_slice hown
        have hee : enc os = l := by rw [HE.out, hq, List.take_length]
        have hll : os.length ≤ l.length := by omega
        have HEE := Lib.hid hee
        clear hee hq
        go_wp2
        go_ret2
        exact ⟨.inl ⟨_, _, _, os, rfl, rfl, hvc, hll, hvr, HEE.out⟩, hB⟩
  · have hb : (((l.length : Int) % 4) != 0) = true := by
      have : (l.length : Int) % 4 ≠ 0 := by omega
      simpa using this
    have H4 := Lib.hid h4
    clear h4
    go_wp2
    go_ret2
    refine ⟨.inr ⟨rfl, fun a ha => ?_⟩, Below.refl _ _⟩
    have := enc_length a
    rw [ha] at this
    exact H4.out (by omega)
end Ar
end Go.Proofs.YtkllecicddfjpaaGreatDoor

namespace Go.Proofs.YtkllecicddfjpaaGreatDoor
namespace Ar
set_option linter.unusedVariables false
set_option linter.unusedSimpArgs false
open Go.RowKit

end Ar
end Go.Proofs.YtkllecicddfjpaaGreatDoor

namespace Go.Proofs.YtkllecicddfjpaaGreatDoor
namespace Ar
set_option linter.unusedVariables false
set_option linter.unusedSimpArgs false
open Go.RowKit Go.Shelf

attribute [local go_sem] Oper.semAt_some

/-- the lines after some chunks -/
def linF (l : List UInt8) (n : Nat) (pre : List (Cj 76 n)) : List UInt8 := pre.flatMap fun j => chk l 76 j.1 ++ [13, 10]
theorem linF_length (l : List UInt8) (n : Nat) (pre : List (Cj 76 n)) : (linF l n pre).length ≤ 78 * pre.length := by
  induction pre with
  | nil => simp [linF]
  | cons j pre ih =>
    have h : (chk l 76 j.1).length ≤ 76 := by unfold chk; simp; omega
    have e : linF l n (j :: pre) = (chk l 76 j.1 ++ [13, 10]) ++ linF l n pre := by simp [linF]
    rw [e, List.length_append, List.length_cons, List.length_append]
    simp only [List.length_cons, List.length_nil]
    omega
theorem Rb_lower {B : Nat} {W W' : World} {b o : Nat} {l : List UInt8} (hb : Below B W W') (h : b < B) (hr : Rb W (some ⟨b, o, none⟩) l) : Rb W' (some ⟨b, o, none⟩) l := fun hp => by
  obtain ⟨b', o', e, hc⟩ := hr hp
  cases e
  exact ⟨b, o, rfl, fun j v hj => (hb.cell (p := ⟨b, o + j, none⟩) h).trans (hc j v hj)⟩
theorem keeps_app {W W' : World} {base e size n : Nat} {v : Value} {xs : List Value} (hrow : W.ownsRow base e size v n xs) (hg : W.grownBy W' v.ownBlock) : KeepsOthers W W' :=
  KeepsOthers.of_grownBy hg fun j o ej hj => by
    rcases hrow.2 with ⟨rfl, _⟩ | ⟨g, cap, cur, rfl, _, hgb, _⟩
    · simp [Value.ownBlock] at ej
    · obtain rfl : g = j := by simpa [Value.ownBlock] using ej
      rw [hgb] at hj; cases hj; rfl
theorem Cj_last {k n m : Nat} {pre : List (Cj k n)} (hk : 1 ≤ k) (h : pre.map Subtype.val = List.range m) (hm : n ≤ m * k) : m = (n + (k - 1)) / k := by
  rcases m with _ | m
  · have : n = 0 := by omega
    subst this
    rw [Nat.zero_add, Nat.div_eq_of_lt (by omega)]
  · have : m ∈ pre.map Subtype.val := by rw [h]; simp
    obtain ⟨⟨j, hj⟩, _, e⟩ := List.mem_map.1 this
    simp only at e
    subst e
    symm
    apply Nat.div_eq_of_lt_le
    · rw [Nat.add_mul] at *; omega
    · rw [Nat.add_mul, Nat.add_mul] at *; omega
theorem linF_all {l : List UInt8} {n m : Nat} {pre : List (Cj 76 n)} (hn : l.length = n) (h : pre.map Subtype.val = List.range m) (hm : n ≤ m * 76) : linF l n pre = lin l := by
  have e1 : linF l n pre = (pre.map Subtype.val).flatMap fun j => chk l 76 j ++ [13, 10] := by simp [linF, List.flatMap_map]
  rw [e1, h, lin, hn, Cj_last (by omega) h hm]

set_option maxRecDepth 100000 in
set_option maxHeartbeats 2000000 in
theorem lines_in (f : Nat) (hf : 5 ≤ f) (A : Option Addr) (xs : List UInt8) (n c : Nat) (w : World) (hn : xs.length = n) (hA : Rb w A xs) (hnc : n ≤ c) (hc : n ≤ 1000000000) :
    CallsIn Fence.wide f Tryz.prog 128 #[.slice A n c] w fun e w' => (∃ v, e = .returned v ∧ w'.ownsRow w.heap.size 5 1 v (lin (enc xs)).length ((lin (enc xs)).map bv)) ∧ Below w.heap.size w w' := by
  have HN := Lib.hid hn
  clear hn
  refine callsIn_of_wp_marks Tryz.func128 rfl trivial ?_ rfl
  simp only [Tryz.ntmps128, List.size_toArray, List.length_cons, List.length_nil, Nat.reduceAdd, Nat.reduceSub, Array.replicate_succ, Array.replicate_zero, List.push_toArray, List.append_toArray, List.nil_append, List.cons_append]
  gi_wp2
  refine ⟨trivial, fun h => by simp [Fence.wide] at h, ?_⟩
  have hA1 : Rb (w.alloc (.cells #[.slice none 0 0] 22)) A xs := hA.below ((Below.refl _ _).alloc (Nat.le_refl _) _)
  refine (callsIn_wide.2 (enc_any A xs n c _ HN.out hA1 hnc (by omega))).mono ?_
  rintro e w1 ⟨rfl, hb1⟩
  have hel : (enc xs).length ≤ 4 * n + 4 := by have := enc_length xs; rw [HN.out] at this; omega
  generalize hes : enc xs = es at *
  have HES := Lib.hid hes
  clear hes
  obtain ⟨cb, X, fr, hcv, hcb, hrb⟩ := conv_bytes (P := Tryz.prog) (src := 9) (dst := 22) (e := 5) Tryz.underlying9 Tryz.underlying22 Tryz.underlying5 es w1
  have bO1 := box_below (Boxed.new w 22 (.slice none 0 0)) hb1
  have hsz1 : w.heap.size + 1 ≤ w1.heap.size := by have := hb1.size; simpa using this
  have hB1 : Below w.heap.size w w1 := ((Below.refl _ w).alloc (Nat.le_refl _) _).trans (hb1.mono (by simp))
  gi_wp2
  refine ⟨trivial, fun h => by simp [Fence.wide] at h, ?_⟩
  refine (chunk_in (f - 1) _ _ _ 76 (by omega) _).mono ?_
  rintro e w' ⟨rfl, rfl⟩
  gi_wp2
  have bS := Boxed.new (w1.alloc (.cells X 5 fr)) 22 (.slice (some ⟨w1.heap.size, 0, none⟩) es.length cb)
  have bK := Boxed.new ((w1.alloc (.cells X 5 fr)).alloc (.cells #[.slice (some ⟨w1.heap.size, 0, none⟩) es.length cb] 22)) 3 (.int .i64 76)
  rw [World.size_alloc] at bS
  rw [World.size_alloc, World.size_alloc] at bK
  obtain ⟨W0, hW0⟩ : ∃ W0, (((w1.alloc (.cells X 5 fr)).alloc (.cells #[.slice (some ⟨w1.heap.size, 0, none⟩) es.length cb] 22)).alloc (.cells #[.int .i64 76] 3)).drew = W0 := ⟨_, rfl⟩
  have hB10 : Below w1.heap.size w1 W0 := by
    rw [← hW0]
    exact ((((Below.refl _ w1).alloc (Nat.le_refl _) _).alloc (by simp) _).alloc (by simp; omega) _).drew
  have hB0 : Below w.heap.size w W0 := hB1.trans (hB10.mono (by omega))
  have hsz : W0.heap.size = w1.heap.size + 3 := by rw [← hW0]; exact (by simp : (((w1.alloc (.cells X 5 fr)).alloc (.cells #[.slice (some ⟨w1.heap.size, 0, none⟩) es.length cb] 22)).alloc (.cells #[.int .i64 76] 3)).heap.size = w1.heap.size + 3)
  have hr0 : Rb W0 (some ⟨w1.heap.size, 0, none⟩) es := by
    rw [← hW0]
    exact Rb.below (w := w1.alloc (.cells X 5 fr)) hrb ((((Below.refl _ _).alloc (Nat.le_refl _) _).alloc (by simp) _).drew)
  have hI0 : (∃ v, Boxed W0 w.heap.size 22 v ∧ W0.ownsRow W0.heap.size 5 1 v (linF es es.length []).length ((linF es es.length []).map bv)) ∧ Boxed W0 (w1.heap.size + 1) 22 (.slice (some ⟨w1.heap.size, 0, none⟩) es.length cb) ∧ Boxed W0 (w1.heap.size + 1 + 1) 3 (.int .i64 76) := by
    refine ⟨⟨_, box_below bO1 hB10, World.ownsRow_nil _ _ _ _⟩, ?_, ?_⟩
    · rw [← hW0]; exact bS.alloc _
    · rw [← hW0]; exact bK
  rw [hW0]
  refine wpIn_rangeFunc_ownG (α := Cj 76 es.length) rfl (by omega) (gf := 170) (lb := #[.pointer (some ⟨w1.heap.size + 1, 0, none⟩), .pointer (some ⟨w1.heap.size + 1 + 1, 0, none⟩)]) rfl trivial (enters_of Tryz.func170 (by kernel_rfl) rfl)
    (chunk_stops (f - 1) (w1.heap.size + 1) w1.heap.size 0 es.length cb 76 (some ⟨w1.heap.size, 0, none⟩) (fun _ => rfl) (by omega) (by omega) hcb (by omega) W0 (by omega) hI0.2.1.cell hI0.2.2.cell) (fun h k => h.trans k) (fun W l o o' hl h _ _ => Kept.putObj W (.inr (by omega)) _) (Below.refl _ _) (fun _ => rfl)
    (fun pre W => ((∃ v, Boxed W w.heap.size 22 v ∧ W.ownsRow W0.heap.size 5 1 v (linF es es.length pre).length ((linF es es.length pre).map bv)) ∧ Boxed W (w1.heap.size + 1) 22 (.slice (some ⟨w1.heap.size, 0, none⟩) es.length cb) ∧ Boxed W (w1.heap.size + 1 + 1) 3 (.int .i64 76)) ∧ Rb W (some ⟨w1.heap.size, 0, none⟩) es ∧ Below w.heap.size w W ∧ W0.heap.size ≤ W.heap.size)
    (fun _ _ _ => False)
    ?own
    (fun _ _ _ _ _ hs _ _ => hs)
    ⟨hI0, hr0, hB0, Nat.le_refl _⟩
    (fun x => { tmps := #[.slice A n c, undef, .pointer (some ⟨w.heap.size, 0, none⟩), chv w1.heap.size 0 76 es.length x.1, .slice A n c, .string (bs es), .slice (some ⟨w1.heap.size, 0, none⟩) es.length cb, .func (.func 170) #[] #[.pointer (some ⟨w1.heap.size + 1, 0, none⟩), .pointer (some ⟨w1.heap.size + 1 + 1, 0, none⟩)], chv w1.heap.size 0 76 es.length x.1, undef, undef, undef, undef, undef], defers := [] }) ?assign ?body ?done ?stop
  case own =>
    refine OwnFrom.and (OwnFrom.and (fun s W W' row hs hg hr => ?_) (OwnFrom.and (Own.from (boxed_own _ _ _) _) (Own.from (boxed_own _ _ _) _))) (OwnFrom.and (fun s W W' row hs hg hr => ?_) (OwnFrom.and (ownFrom_below (Nat.le_refl _) (by omega)) (fun s W W' row hs hg hr => Nat.le_trans hs hg.size)))
    · obtain ⟨v, h1, h2⟩ := hs
      obtain ⟨v', a, b, _⟩ := (Own.from (holdsRow_own W0.heap.size w.heap.size 22 5 1 (fun pre => (linF es es.length pre).length) (fun pre => (linF es es.length pre).map bv) (fun _ _ => True)) _) s W W' row ⟨v, h1, h2, trivial⟩ hg hr
      exact ⟨v', a, b⟩
    · exact Rb_own hs hg (fun r e => (hr r e).2)
  case assign =>
    intro l x W K hK
    gi_wp2
    exact hK
  case body =>
    rintro l pre x W ⟨⟨⟨v, hv, hrow⟩, hbS, hbK⟩, hres, hB, hWs⟩ hlt
    have hsz2 : w1.heap.size + 3 ≤ W0.heap.size := by omega
    clear hW0 hsz bO1 bS bK hr0 hI0 hrb hcv hB0
    obtain ⟨j, hj⟩ := x
    obtain ⟨hyl, hyr⟩ := hres.chunk rfl (fun _ => rfl) hj
    simp only [chv]
    have hpre : linF es es.length (pre ++ [⟨j, hj⟩]) = linF es es.length pre ++ chk es 76 j ++ [13, 10] := by simp [linF]
    have HP := Lib.hid hpre
    clear hpre
    have hplen : (linF es es.length pre).length ≤ 78 * es.length := Nat.le_trans (linF_length es es.length pre) (by omega)
    have hm1 : min 76 (es.length - j * 76) ≤ 76 := by omega
    generalize chk es 76 j = ys at *
    generalize min 76 (es.length - j * 76) = m at *
    generalize 0 + j * 76 = p at *
    generalize linF es es.length pre = ps at *
    have HY := Lib.hid hyl
    clear hyl
    have hc := hv.cell
    gi_wp2_with (first
      | (gi_at_builtin; refine wpListIn_app rfl (.tmp 9) (.tmp 10) _ _ rfl TU8 hrow rfl (Src_rb Tryz.underlying22 HY.out hyr) rfl (by omega) hWs ?_; intro v2 w2 hown2 hgr2 hat2; have hb2 := below_app (Below.refl W0.heap.size W) hrow hgr2 hWs (Nat.le_refl _); have hs2 := hb2.size)
      | (gi_at_builtin; refine wpListIn_app rfl (.tmp 11) _ _ _ rfl TU8 hown2 rfl (Src_str Tryz.underlying9 [13, 10]) rfl (by simp only [List.length_cons, List.length_nil]; omega) (by omega) ?_; intro v3 w3 hown3 hgr3 hat3; have hb3 := below_app hb2 hown2 hgr3 (by omega) (Nat.le_refl _); have hs3 := hb3.size; have hown4 : w3.ownsRow W0.heap.size 5 1 v3 (ps.length + m + [13, 10].length) ((ps ++ ys ++ [13, 10]).map bv) := (by rw [List.map_append, List.map_append]; exact hown3); obtain ⟨A3, c3, rfl, _, _, _, hl3⟩ := own_slice hown4; have hv3 : Boxed w3 w.heap.size 22 v := (hb3.block _ (by omega)).trans hv; have hc3 := hv3.cell; have hf3 := hv3.frozen))
    have hB4 : Below w.heap.size W (w3.setCell ⟨w.heap.size, 0, none⟩ (.slice A3 (ps.length + m + [13, 10].length) c3)) := (hb3.mono (B' := w.heap.size) (by omega)).setCell (p := ⟨w.heap.size, 0, none⟩) (by simp) _
    have hbS3 : Boxed w3 (w1.heap.size + 1) 22 (.slice (some ⟨w1.heap.size, 0, none⟩) es.length cb) := (hb3.block _ (by omega)).trans hbS
    have hbK3 : Boxed w3 (w1.heap.size + 1 + 1) 3 (.int .i64 76) := (hb3.block _ (by omega)).trans hbK
    refine ⟨?_, ?_, ⟨⟨_, hv3.set _, ?_⟩, hbS3.other (by omega) _, hbK3.other (by omega) _⟩, Rb.setFar (Rb_lower hb3 (by omega) hres) (by simp; omega) _, hB.trans hB4, by simp; omega⟩
    · exact ((keeps_app hrow hgr2).trans ((keeps_app hown2 hgr3).trans (KeepsOthers.setCell _ _ _))).from _
    · exact fun q h1 h2 => by
        rcases (by omega : q = w1.heap.size + 1 ∨ q = w1.heap.size + 1 + 1) with rfl | rfl
        · exact (show _ = _ from hbS3.other (by omega) _).trans (show _ = _ from hbS).symm
        · exact (show _ = _ from hbK3.other (by omega) _).trans (show _ = _ from hbK).symm
    · rw [HP.out, hl3]
      exact ownsRow_setCell_below hown4 (by simp; omega) _
  case done =>
    rintro D ys W hD ⟨m, hm1, hm2⟩ ⟨⟨⟨v, hv, hrow⟩, _, _⟩, _, hB, hWs⟩ hK
    rw [linF_all rfl hm1 hm2] at hrow
    obtain ⟨Av, cv, rfl, _, _, hvr, hll⟩ := own_slice hrow
    have hc := hv.cell
    have hf := hv.frozen
    have hv2 := hv.set (.slice Av (lin es).length cv)
    have hrow2 := ownsRow_setCell_below hrow (a := ⟨w.heap.size, 0, none⟩) (by simp; omega) (.slice Av (lin es).length cv)
    have hK2 := (KeepsOthers.setCell W ⟨w.heap.size, 0, none⟩ (.slice Av (lin es).length cv)).same D _ hK rfl
    gi_wp2
    refine ⟨by simp, .inl ⟨_, _, rfl, run_takeDeferred hK2, ?_⟩⟩
    have hc5 := cell_kept hv2.cell (grownBy_putObj' _ D (.deferred none)) (fun r e => by cases e; exact ⟨_, hK2, rfl⟩)
    refine ⟨.slice Av (lin es).length cv, ?_, ⟨_, rfl, ?_⟩, ?_⟩
    · simp [results, Tryz.f128, go_sem, hc5]
    · rw [HES.out]
      exact own_base (ownsRow_putObj hrow2 _ hK2 rfl) (by omega)
    · exact (hB.setCell (p := ⟨w.heap.size, 0, none⟩) (by simp) _).trans (belowK_b (w := W0) (by omega) _ D _ _ hD hK2 rfl rfl)
  case stop =>
    rintro D c pre W _ _ h _
    exact h.elim
end Ar
end Go.Proofs.YtkllecicddfjpaaGreatDoor

namespace Go.Proofs.YtkllecicddfjpaaGreatDoor
namespace Ar
set_option linter.unusedVariables false
set_option linter.unusedSimpArgs false

/-- how many bytes since the last line's end -/
def cnt (l : List UInt8) : Nat := l.foldl (fun n c => if c = 10 then 0 else n + 1) 0
theorem cnt_snoc (l : List UInt8) (c : UInt8) : cnt (l ++ [c]) = if c = 10 then 0 else cnt l + 1 := by simp [cnt]
theorem cnt_plain (L s : List UInt8) (h : ∀ c ∈ s, c ≠ 10) : cnt (L ++ s) = cnt L + s.length := by
  induction s generalizing L with
  | nil => simp
  | cons c s ih =>
    have e : L ++ c :: s = (L ++ [c]) ++ s := by simp
    rw [e, ih (L ++ [c]) (fun x hx => h x (by simp [hx])), cnt_snoc, if_neg (h c (by simp)), List.length_cons]
    omega
/-- no line is too long -/
def Short (L : List UInt8) : Prop := (∀ k, cnt (L.take k) ≤ 77) ∧ cnt L = 0
theorem Short.nil : Short [] := ⟨fun k => by simp [cnt], rfl⟩
theorem Short.line {L s : List UInt8} (h : Short L) (hs : ∀ c ∈ s, c ≠ 10) (hl : s.length ≤ 76) : Short (L ++ (s ++ [13, 10])) := by
  have h13 : ∀ t : List UInt8, (∀ c ∈ t, c ≠ 10) → cnt (L ++ t) = t.length := fun t ht => by rw [cnt_plain L t ht, h.2]; omega
  have hend : cnt (L ++ (s ++ [13, 10])) = 0 := by
    have e : L ++ (s ++ [13, 10]) = (L ++ (s ++ [13])) ++ [10] := by simp
    rw [e, cnt_snoc, if_pos rfl]
  refine ⟨fun k => ?_, hend⟩
  by_cases h1 : k ≤ L.length
  · rw [List.take_append_of_le_length h1]
    exact h.1 k
  · obtain ⟨q, rfl⟩ : ∃ q, k = L.length + q := ⟨k - L.length, by omega⟩
    rw [List.take_length_add_append]
    by_cases h2 : q ≤ s.length + 1
    · have e : (s ++ [13, 10]).take q = (s ++ [13]).take q := by
        have : s ++ [13, 10] = (s ++ [13]) ++ [10] := by simp
        rw [this, List.take_append_of_le_length (by simp; omega)]
      rw [e, h13 _ (fun c hc => by
        have := List.mem_of_mem_take hc
        rcases List.mem_append.1 this with h' | h'
        · exact hs c h'
        · simp at h'
          subst h'
          decide)]
      simp
      omega
    · rw [List.take_of_length_le (by simp; omega), hend]
      omega
theorem sgs_10 : ∀ c ∈ sgs, c ≠ 10 := by decide
theorem gsign_10 (ys : List UInt8) (i : Nat) : gsign ys i ≠ 10 := by
  unfold gsign
  split
  · decide
  · have hT : gnum ys 3 / 2 ^ (18 - 6 * i) % 64 < 64 := Nat.mod_lt _ (by omega)
    generalize gnum ys 3 / 2 ^ (18 - 6 * i) % 64 = T at *
    have hl : T < sgs.length := hT
    rw [List.getD_eq_getElem?_getD, List.getElem?_eq_getElem hl]
    exact sgs_10 _ (List.getElem_mem hl)
theorem enc_10 (xs : List UInt8) : ∀ c ∈ enc xs, c ≠ 10 := by
  intro c hc
  unfold enc at hc
  obtain ⟨j, _, h⟩ := List.mem_flatMap.1 hc
  unfold enc3 at h
  split at h
  · simp at h
  · obtain ⟨i, _, rfl⟩ := List.mem_map.1 h
    exact gsign_10 _ _
theorem lin_short (l : List UInt8) (h : ∀ c ∈ l, c ≠ 10) : Short (lin l) := by
  unfold lin
  generalize (l.length + 75) / 76 = m
  induction m with
  | zero => exact Short.nil
  | succ m ih =>
    rw [List.range_succ, List.flatMap_append]
    simp only [List.flatMap_cons, List.flatMap_nil, List.append_nil]
    exact ih.line (fun c hc => h c (List.mem_of_mem_drop (List.mem_of_mem_take hc))) (by unfold chk; simp; omega)
theorem lin_len (l : List UInt8) : (lin l).length ≤ 78 * ((l.length + 75) / 76) := by
  unfold lin
  generalize (l.length + 75) / 76 = m
  induction m with
  | zero => simp
  | succ m ih =>
    have hc : (chk l 76 m).length ≤ 76 := by unfold chk; simp; omega
    rw [List.range_succ, List.flatMap_append, List.length_append]
    simp only [List.flatMap_cons, List.flatMap_nil, List.append_nil, List.length_append, List.length_cons, List.length_nil]
    omega
theorem enc_inj (a b : List UInt8) (h : enc a = enc b) : a = b := by
  generalize hn : a.length = n
  induction n using Nat.strongRecOn generalizing a b with
  | _ n ih =>
    have hl := congrArg List.length h
    rw [enc_length, enc_length] at hl
    by_cases ha : a = []
    · subst ha
      have : b.length = 0 := by simp at hl; omega
      exact (List.eq_nil_of_length_eq_zero this).symm
    · by_cases hb : b = []
      · subst hb
        have : a.length = 0 := by simp at hl; omega
        exact List.eq_nil_of_length_eq_zero this
      · have ta : 1 ≤ (a.take 3).length := by
          rcases a with _ | ⟨x, r⟩
          · exact absurd rfl ha
          · simp
        have tb : 1 ≤ (b.take 3).length := by
          rcases b with _ | ⟨x, r⟩
          · exact absurd rfl hb
          · simp
        have ta3 : (a.take 3).length ≤ 3 := by simp; omega
        have tb3 : (b.take 3).length ≤ 3 := by simp; omega
        have na : a.take 3 ≠ [] := by intro e; rw [e] at ta; simp at ta
        have nb : b.take 3 ≠ [] := by intro e; rw [e] at tb; simp at tb
        rw [enc_cons a ha, enc_cons b hb] at h
        obtain ⟨e1, e2⟩ := List.append_inj h (by rw [enc3_len _ na, enc3_len _ nb])
        have e3 := enc3_inj ta ta3 tb tb3 e1
        have e4 := ih (a.length - 3) (by simp at ta; omega) (a.drop 3) (b.drop 3) e2 (by simp)
        rw [← List.take_append_drop 3 a, ← List.take_append_drop 3 b, e3, e4]
end Ar
end Go.Proofs.YtkllecicddfjpaaGreatDoor

namespace Go.Proofs.YtkllecicddfjpaaGreatDoor
namespace Ar
set_option linter.unusedVariables false
set_option linter.unusedSimpArgs false
open Go.RowKit

theorem lines_any (A : Option Addr) (xs : List UInt8) (n c : Nat) (w : World) (hn : xs.length = n) (hA : Rb w A xs) (hnc : n ≤ c) (hc : n ≤ 1000000000) :
    Calls Tryz.prog 128 #[.slice A n c] w fun e w' => (∃ v, e = .returned v ∧ w'.ownsRow w.heap.size 5 1 v (lin (enc xs)).length ((lin (enc xs)).map bv)) ∧ Below w.heap.size w w' :=
  callsIn_wide.1 (lines_in 5 (by omega) A xs n c w hn hA hnc hc)

/-- what Decode answers, in one form -/
theorem dec_form {l : List UInt8} {w w' : World} {e : Ending} (h : DecOut l w e w') : ∃ A n c a k, e = .returned (.tuple #[.slice A n c, .int .i64 k]) ∧ a.length = n ∧ n ≤ c ∧ n ≤ l.length ∧ Rb w' A a ∧
    ((k = 0 ∧ enc a = l) ∨ (k = 3 ∧ ∀ a, enc a ≠ l)) ∧ Below w.heap.size w w' := by
  obtain ⟨⟨A, n, c, a, rfl, h1, hc, h2, h3, h4⟩ | ⟨rfl, h1⟩, hb⟩ := h
  · exact ⟨A, n, c, a, 0, rfl, h1, hc, h2, h3, .inl ⟨rfl, h4⟩, hb⟩
  · exact ⟨none, 0, 0, [], 3, rfl, rfl, Nat.le_refl _, by omega, Rb.nil _ _, .inr ⟨rfl, h1⟩, hb⟩
end Ar
end Go.Proofs.YtkllecicddfjpaaGreatDoor
