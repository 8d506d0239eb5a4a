/- armor.Read: what stands between blanks, joined, as bytes. · armor's Decode and Read: what they hand back lies in blocks of the call's own. · A range over a function whose iterator may write one block of its own (a captured variable), and tells its consumer which elements may come. Nothing of the program. -/
import Derived.Test.YtkllecicddfjpaaGreatDoorJ31
import Derived.Test.YtkllecicddfjpaaGreatDoorJ26
import Derived.Test.YtkllecicddfjpaaGreatDoorJ03
import Derived.RangeFuncNested
import Derived.RangeFuncBox
namespace Go.Proofs.YtkllecicddfjpaaGreatDoor
namespace Ar
set_option linter.unusedVariables false
set_option linter.unusedSimpArgs false
open Go.RowKit

theorem Rb_fresh {B : Nat} {w : World} {v : Value} {l : List UInt8} (h : Lib.FreshBytes B w v l) : ∃ A c, v = .slice A l.length c ∧ l.length ≤ c ∧ Rb w A l := by
  obtain ⟨g, cap, zs, rfl, hg, hlc, hcm, hz, hzb, hl, hc, hf⟩ := h
  refine ⟨_, cap, rfl, hlc, fun hp => ⟨g, 0, rfl, fun j v hj => ?_⟩⟩
  have hlt := lt_of_get hj
  simp only [List.length_map] at hlt
  rw [Nat.zero_add, hc j (by omega), ← hj]
  have hjz : j < (zs.take l.length).length := by simp; omega
  have hb := hzb (zs.getD j 0) (by rw [List.getD_eq_getElem?_getD, List.getElem?_eq_getElem (by omega : j < zs.length)]; exact List.getElem_mem _)
  have hz' : zs.getD j 0 = zs[j]'(by omega) := by rw [List.getD_eq_getElem?_getD, List.getElem?_eq_getElem (by omega : j < zs.length)]; rfl
  have e : l[j]? = some (UInt8.ofNat (zs.getD j 0).toNat) := by
    rw [hz']
    have h1 : (Lib.bytesOf (zs.take l.length))[j]? = l[j]? := by rw [hl]
    rw [← h1]
    simp [Lib.bytesOf, hlt, List.getElem?_eq_getElem (by omega : j < zs.length)]
  rw [List.getElem?_map, e]
  simp only [Option.map_some, bv]
  rw [UInt8.toNat_ofNat']
  congr 2
  omega

theorem join_flat (ls : List (List UInt8)) : Lib.join ls [] = ls.flatten := by
  rcases ls with _ | ⟨x, r⟩
  · rfl
  · rw [Lib.join_cons, Lib.joinTail]
    simp

theorem join_any (g c : Nat) (vs : List Value) (ls : List (List UInt8)) (n : Nat) (w : World) (hn : ls.length = n) (hP : Lib.PartsAt w ⟨g, 0, none⟩ vs ls) (hc : n ≤ c) (h47 : n ≤ 140737488355328) (hlen : ls.flatten.length ≤ 140737488355328) :
    Calls Tryz.prog 91 #[.slice (some ⟨g, 0, none⟩) n c, .slice none 0 0] w fun e w' => (∃ A c', e = .returned (.slice A ls.flatten.length c') ∧ ls.flatten.length ≤ c' ∧ Rb w' A ls.flatten) ∧ Below w.heap.size w w' := by
  have pl : ∀ (b o j : Nat), (⟨b, o, none⟩ : Addr).add j = ⟨b, o + j, none⟩ := fun b o j => by unfold Addr.add; split <;> simp_all
  rcases (by omega : n = 0 ∨ n = 1 ∨ 2 ≤ n) with rfl | rfl | h2
  · obtain rfl : ls = [] := List.eq_nil_of_length_eq_zero hn
    refine (Tryz.bytes_Join_none _ _ _ _).mono ?_
    rintro e w' ⟨rfl, rfl⟩
    exact ⟨⟨_, _, rfl, Nat.le_refl _, Rb.nil _ _⟩, (Below.refl _ _).alloc (Nat.le_refl _) _⟩
  · obtain ⟨l0, rfl⟩ : ∃ l0, ls = [l0] := List.length_eq_one_iff.1 hn
    obtain ⟨p, cap, l, hl, hcell, hp0, hbs⟩ := hP.get 0 (by simp)
    simp at hl
    subst hl
    simp only [List.flatten_cons, List.flatten_nil, List.append_nil] at hlen ⊢
    rw [pl] at hcell
    rcases Nat.eq_zero_or_pos l0.length with h0 | h0
    · obtain rfl : l0 = [] := List.eq_nil_of_length_eq_zero h0
      refine (Tryz.bytes_Join_one_empty g 0 c p cap _ w hcell).mono ?_
      rintro e w' ⟨rfl, rfl⟩
      exact ⟨⟨_, _, rfl, Nat.le_refl _, Rb.nil _ _⟩, Below.refl _ _⟩
    · rcases p with _ | a
      · rw [hp0 rfl] at h0
        simp at h0
      refine (Tryz.bytes_Join_one g 0 c a cap l0 _ w hcell (hbs a rfl) h0 hlen).mono ?_
      rintro e w' ⟨v, rfl, hv, hb⟩
      obtain ⟨A, c', rfl, h1, h2⟩ := Rb_fresh hv
      exact ⟨⟨_, _, rfl, h1, h2⟩, hb⟩
  · have hS : Lib.HoldsBytes w (.slice none 0 0) [] := ⟨none, 0, rfl, fun _ => rfl, by simp⟩
    refine (Tryz.bytes_Join_many g 0 n c vs ls _ [] w hn h2 hP hc hS h47 (by simpa [Lib.lens, List.length_flatten] using hlen)).mono ?_
    rintro e w' ⟨v, rfl, hv, hb⟩
    rw [join_flat] at hv
    obtain ⟨A, c', rfl, h1, h2⟩ := Rb_fresh hv
    exact ⟨⟨_, _, rfl, h1, h2⟩, hb⟩

theorem nob_length (l : List UInt8) : (nob l).length ≤ l.length := List.length_filter_le _ _

set_option maxRecDepth 100000 in
set_option maxHeartbeats 2000000 in
theorem read_any (A : Option Addr) (l : List UInt8) (n c : Nat) (w : World) (hT : Lib.Utf8Tabs 2 3 w) (hn : l.length = n) (hA : Rb w A l) (hnc : n ≤ c) (hb : n ≤ 100000000) :
    Calls Tryz.prog 44 #[.slice A n c] w (DecOut (nob l) w) := by
  have HN := Lib.hid hn
  clear hn
  go_enter Tryz.func44, Tryz.ntmps44
  go_wp2_with fail
  refine (fields_any A l n c w hT HN.out hA hnc (by omega)).mono ?_
  rintro e w1 ⟨⟨g, vs, ls, c', rfl, hc', hll, hP, hf⟩, hb1⟩
  have hnl := nob_length l
  rw [HN.out] at hnl
  have hfl : ls.flatten.length ≤ 100000000 := by rw [hf]; omega
  go_wp2_with fail
  refine (join_any g c' vs ls _ w1 rfl hP hc' (by omega) (by omega)).mono ?_
  rintro e w2 ⟨⟨A2, c2, rfl, hc2, hR2⟩, hb2⟩
  have hcv := conv_str (P := Tryz.prog) (src := 22) (dst := 9) (e := 5) Tryz.underlying22 Tryz.underlying5 Tryz.underlying9 (n := ls.flatten.length) (c := c2) hR2 rfl
  have HF := Lib.hid hf
  have hB2 := hb1.trans (hb2.mono hb1.size)
  clear hf
  generalize ls.flatten = m at *
  go_wp2_with fail
  refine (dec_any m _ hfl).mono ?_
  intro e w3 hd
  rw [HF.out] at hd
  obtain ⟨hd1, hb3⟩ := hd
  rcases hd1 with ⟨A3, n3, c3, a3, rfl, h1, h2, h3, h4, h5⟩ | ⟨rfl, h1⟩
  · have H1 := Lib.hid h1
    have H5 := Lib.hid h5
    clear h1 h5
    go_wp2
    go_ret2
    exact ⟨.inl ⟨_, _, _, _, rfl, H1.out, h2, h3, h4, H5.out⟩, hB2.trans (hb3.mono hB2.size)⟩
  · have H1 := Lib.hid h1
    clear h1
    go_wp2
    go_ret2
    exact ⟨.inr ⟨rfl, H1.out⟩, hB2.trans (hb3.mono hB2.size)⟩
end Ar
end Go.Proofs.YtkllecicddfjpaaGreatDoor

namespace Go.Proofs.YtkllecicddfjpaaGreatDoor
set_option linter.unusedVariables false
set_option linter.unusedSimpArgs false
open Go.RowKit
namespace Ar

def DecOwn (l : List UInt8) (w : World) (e : Ending) (w' : World) : Prop :=
  ((∃ A n c a, e = .returned (.tuple #[.slice A n c, .int .i64 0]) ∧ a.length = n ∧ n ≤ c ∧ n ≤ l.length ∧ Rb w' A a ∧ enc a = l ∧ ∀ b o, A = some ⟨b, o, none⟩ → w.heap.size ≤ b ∧ b < w'.heap.size) ∨
    (e = .returned (.tuple #[.slice none 0 0, .int .i64 3]) ∧ ∀ a, enc a ≠ l)) ∧ Below w.heap.size w w'

set_option maxRecDepth 100000 in
set_option maxHeartbeats 2000000 in
theorem dec_own (l : List UInt8) (w : World) (hl : l.length ≤ 100000000) :
    Calls Tryz.prog 90 #[.string (bs l)] w (DecOwn l w) := by
  go_enter Tryz.func90, Tryz.ntmps90
  by_cases h4 : l.length % 4 = 0
  · have hb : (((l.length : Int) % 4) != 0) = false := by
      have : (l.length : Int) % 4 = 0 := by omega
      simp [this]
    have H4 := Lib.hid h4
    clear h4
    go_wp2_with fail
    go_loopw [4, 5] (fun v i wr => ∃ (k q : Nat) (os : List UInt8), i = .int .i64 q ∧ q ≤ 4 * k ∧ 4 * k ≤ q ∧ q ≤ l.length ∧ wr.ownsRow w.heap.size 5 1 v os.length (os.map bv) ∧ Below w.heap.size w wr ∧ enc os = l.take q ∧ (q < l.length → os.length = 3 * k) ∧ os.length ≤ 3 * k) (fun _ i _ => l.length - (intOf i).toNat)
    case atStart => exact ⟨0, 0, [], rfl, by omega, by omega, by omega, World.ownsRow_nil _ _ _ _, Below.refl _ _, rfl, fun _ => rfl, by simp⟩
    case round =>
      obtain ⟨k, q, os, rfl, hq1, hq2, hql, hown, hB, henc, hos, hos2⟩ := hrel
      have HE := Lib.hid henc
      have HO := Lib.hid hos
      clear henc hos
      obtain ⟨wo, rfl⟩ : ∃ wo : World, wo = wr := ⟨_, rfl⟩
      by_cases hlt : q < l.length
      · have hq4 : q + 4 ≤ l.length := by have := H4.out; omega
        have hg : ((l.drop q).take 4).length = 4 := by simp; omega
        have hos := HO.out hlt
        go_wp2_with fail
        refine (part_any _ _ hg).mono ?_
        rintro e w1 ⟨A, n, c, ok, ys, rfl, hn, hnc, hc, hrb, hyes, hno, hb1⟩
        have HN := Lib.hid hn
        have HNO := Lib.hid hno
        have HY := Lib.hid hyes
        clear hn hno hyes hg hos
        rcases ok with _ | _
        · go_wp2
          go_ret2
          refine ⟨.inr ⟨rfl, fun a ha => ?_⟩, hB.trans (hb1.mono hB.size)⟩
          obtain ⟨d1, d2, d3, _⟩ := dec_group (k := k) ha (by omega) hlt
          exact HNO.out (by trivial) _ d1 d2 d3
        · obtain ⟨hn1, hey⟩ := HY.out rfl
          have HEY := Lib.hid hey
          clear hey
          by_cases hbad : n < 3 ∧ q + 4 < l.length
          · obtain ⟨hb3, hb4⟩ := hbad
            go_wp2
            go_ret2
            refine ⟨.inr ⟨rfl, fun a ha => ?_⟩, hB.trans (hb1.mono hB.size)⟩
            obtain ⟨d1, d2, d3, d4⟩ := dec_group (k := k) ha (by omega) hlt
            have h3 := d4 hb4
            have hy3 : ys.length ≤ 3 := by rw [HN.out]; omega
            have e2 : enc3 ys = enc3 (chk a 3 k) := by rw [← enc_one _ (by rw [HN.out]; omega) hy3, ← enc_one _ d1 d2, d3, HEY.out]
            have e3 := enc3_inj (by rw [HN.out]; omega) hy3 d1 d2 e2
            have := HN.out
            rw [e3, h3] at this
            omega
          · have hown1 := own_below hown hb1
            have hos3 := hos2
            by_cases hn3 : n < 3
            · have hq4' : ¬ q + 4 < l.length := fun h => hbad ⟨hn3, h⟩
              clear hbad
              go_wp2_with (at_builtin; refine wpList_app rfl _ _ _ _ rfl TU8 hown1 rfl (Src_rb Tryz.underlying22 HN.out hrb) rfl (by omega) (by have := hB.size; have := hb1.size; omega) ?_; intro v2 w2 hown2 hgr2 _)
              have hl2 : os.length + n = (os ++ ys).length := by rw [List.length_append, HN.out]
              have hB2 : Below w.heap.size w w2 := below_app (hB.trans (hb1.mono hB.size)) hown1 hgr2 (by have := hB.size; have := hb1.size; omega) (Nat.le_refl _)
              have he2 : enc (os ++ ys) = l.take (q + 4) := by
                rw [enc_append _ _ (by have := HO.out hlt; omega), HE.out, HEY.out]
                exact take_add4.symm
              have hown3 : w2.ownsRow w.heap.size 5 1 v2 (os ++ ys).length ((os ++ ys).map bv) := by rw [← hl2, List.map_append]; exact hown2
              have hlos : (os ++ ys).length ≤ 3 * (k + 1) := by have := HO.out hlt; omega
              have hl3 : q + 4 < l.length → (os ++ ys).length = 3 * (k + 1) := fun h => absurd h hq4'
              go_roundw
              case rel => exact ⟨k + 1, q + 4, os ++ ys, by go_num, by omega, by omega, by omega, hown3, hB2, he2, hl3, hlos⟩
              case measure => simp [intOf]; omega
            · clear hbad
              go_wp2_with (at_builtin; refine wpList_app rfl _ _ _ _ rfl TU8 hown1 rfl (Src_rb Tryz.underlying22 HN.out hrb) rfl (by omega) (by have := hB.size; have := hb1.size; omega) ?_; intro v2 w2 hown2 hgr2 _)
              have hl2 : os.length + n = (os ++ ys).length := by rw [List.length_append, HN.out]
              have hB2 : Below w.heap.size w w2 := below_app (hB.trans (hb1.mono hB.size)) hown1 hgr2 (by have := hB.size; have := hb1.size; omega) (Nat.le_refl _)
              have he2 : enc (os ++ ys) = l.take (q + 4) := by
                rw [enc_append _ _ (by have := HO.out hlt; omega), HE.out, HEY.out]
                exact take_add4.symm
              have hown3 : w2.ownsRow w.heap.size 5 1 v2 (os ++ ys).length ((os ++ ys).map bv) := by rw [← hl2, List.map_append]; exact hown2
              have hlos : (os ++ ys).length ≤ 3 * (k + 1) := by have := HO.out hlt; omega
              have hl3 : q + 4 < l.length → (os ++ ys).length = 3 * (k + 1) := fun h => by have := HO.out hlt; omega
              go_roundw
              case rel => exact ⟨k + 1, q + 4, os ++ ys, by go_num, by omega, by omega, by omega, hown3, hB2, he2, hl3, hlos⟩
              case measure => simp [intOf]; omega
      · have hq : q = l.length := by omega
        obtain ⟨Av, cv, rfl, hvc, _, hvr, _⟩ := own_slice hown
        have hee : enc os = l := by rw [HE.out, hq, List.take_length]
        have hll : os.length ≤ l.length := by omega
        have HEE := Lib.hid hee
        clear hee hq
        go_wp2
        go_ret2
        exact ⟨.inl ⟨_, _, _, os, rfl, rfl, hvc, hll, hvr, HEE.out, fun b o e => (OwnM.of hown).lt b (by rw [e]; rfl)⟩, hB⟩
  · have hb : (((l.length : Int) % 4) != 0) = true := by
      have : (l.length : Int) % 4 ≠ 0 := by omega
      simpa using this
    have H4 := Lib.hid h4
    clear h4
    go_wp2
    go_ret2
    refine ⟨.inr ⟨rfl, fun a ha => ?_⟩, Below.refl _ _⟩
    have := enc_length a
    rw [ha] at this
    exact H4.out (by omega)

set_option maxRecDepth 100000 in
set_option maxHeartbeats 2000000 in
theorem read_own (A : Option Addr) (l : List UInt8) (n c : Nat) (w : World) (hT : Lib.Utf8Tabs 2 3 w) (hn : l.length = n) (hA : Rb w A l) (hnc : n ≤ c) (hb : n ≤ 100000000) :
    Calls Tryz.prog 44 #[.slice A n c] w (DecOwn (nob l) w) := by
  have HN := Lib.hid hn
  clear hn
  go_enter Tryz.func44, Tryz.ntmps44
  go_wp2_with fail
  refine (fields_any A l n c w hT HN.out hA hnc (by omega)).mono ?_
  rintro e w1 ⟨⟨g, vs, ls, c', rfl, hc', hll, hP, hf⟩, hb1⟩
  have hnl := nob_length l
  rw [HN.out] at hnl
  have hfl : ls.flatten.length ≤ 100000000 := by rw [hf]; omega
  go_wp2_with fail
  refine (join_any g c' vs ls _ w1 rfl hP hc' (by omega) (by omega)).mono ?_
  rintro e w2 ⟨⟨A2, c2, rfl, hc2, hR2⟩, hb2⟩
  have hcv := conv_str (P := Tryz.prog) (src := 22) (dst := 9) (e := 5) Tryz.underlying22 Tryz.underlying5 Tryz.underlying9 (n := ls.flatten.length) (c := c2) hR2 rfl
  have HF := Lib.hid hf
  have hB2 := hb1.trans (hb2.mono hb1.size)
  clear hf
  generalize ls.flatten = m at *
  go_wp2_with fail
  refine (dec_own m _ hfl).mono ?_
  intro e w3 hd
  rw [HF.out] at hd
  obtain ⟨hd1, hb3⟩ := hd
  rcases hd1 with ⟨A3, n3, c3, a3, rfl, h1, h2, h3, h4, h5, h6⟩ | ⟨rfl, h1⟩
  · have H1 := Lib.hid h1
    have H5 := Lib.hid h5
    clear h1 h5
    go_wp2
    go_ret2
    exact ⟨.inl ⟨_, _, _, _, rfl, H1.out, h2, h3, h4, H5.out, fun b o e => ⟨Nat.le_trans hB2.size (h6 b o e).1, (h6 b o e).2⟩⟩, hB2.trans (hb3.mono hB2.size)⟩
  · have H1 := Lib.hid h1
    clear h1
    go_wp2
    go_ret2
    exact ⟨.inr ⟨rfl, H1.out⟩, hB2.trans (hb3.mono hB2.size)⟩
end Ar
end Go.Proofs.YtkllecicddfjpaaGreatDoor

namespace Go.Proofs.YtkllecicddfjpaaGreatDoor
set_option linter.unusedVariables false
set_option linter.unusedSimpArgs false
open Go.RowKit
variable {F : Fence} {n : Nat} {P : Program}

/-- what an iterator promises: J abides what it does itself (it may write the block 'row'); only elements that fit (Pr) come -/
def SeqRow {α : Type} (F : Fence) (n : Nat) (P : Program) (g : Nat) (lb : Array Value) (encs : α → Array Value) (Kp : World → World → Prop) (row : Option Nat) (S Sp : List α → Prop) (Pr : List α → α → Prop) (w : World) : Prop :=
  ∀ (l : Nat) (J Jx : List α → World → Prop) (W : World), Below w.heap.size w W → (∀ s A B, J s A → A.grownBy B row → J s B) → (∀ s A B, Jx s A → A.grownBy B row → Jx s B) →
    (∀ pre x W1, J pre W1 → Pr pre x → YieldAt F (n - 1) P l (encs x) W1 fun e W' =>
      (e = .returned (.bool true) ∧ J (pre ++ [x]) W' ∧ Kp W1 W') ∨ (e = .returned (.bool false) ∧ Jx (pre ++ [x]) W')) →
    J [] W →
    CallsIn F n P g (#[.func (.yield l) #[] #[]] ++ lb) W fun e W' => (∃ v, e = .returned v) ∧ ((∃ xs, S xs ∧ J xs W') ∨ (∃ pre, Sp pre ∧ Jx pre W'))

/-- what holds behind the turn of a block that is no cells, from B on -/
def Turns {β : Type} (B : Nat) (I : β → World → Prop) : Prop := ∀ s W l o o', I s W → B ≤ l → W.heap[l]? = some o → o.isCells = false → I s (W.putObj l o')

theorem wpIn_rangeFunc_row {α : Type} {g : Operand} {ps : Array Tmp} {assign body : Code} {Q : Exit → Act → World → Prop} {a : Act} {w : World}
    (hro : F.round = none) (h1 : 1 ≤ n) {gf : Nat} {lb : Array Value} (hg : a.eval g = .func (.func gf) #[] lb) (hFg : F.fn gf) (eg : ∀ args w, (callFunc gf args).run P w = .ok (.enter gf args) w)
    {encs : α → Array Value} {Kp : World → World → Prop} {row : Option Nat} {S Sp : List α → Prop} {Pr : List α → α → Prop} {w0 : World} (hseq : SeqRow F (n - 1) P gf lb encs Kp row S Sp Pr w0)
    (hrow : ∀ r, row = some r → r < w.heap.size)
    (hKt : ∀ {A B C : World}, Kp A B → Kp B C → Kp A C) (hKb : ∀ (W : World) (l : Nat) (o o' : Obj), w.heap.size ≤ l → W.heap[l]? = some o → o.isCells = false → Kp W (W.putObj l o')) (hb0 : Below w0.heap.size w0 w) (hps : ∀ x, (encs x).size = ps.size)
    (I : List α → World → Prop) (Ix : Code → List α → World → Prop)
    (hI : ∀ s A B, I s A → A.grownBy B row → I s B) (hIx : ∀ c s A B, Ix c s A → A.grownBy B row → Ix c s B) (hIt : Turns w.heap.size I) (hIxt : ∀ c, Turns w.heap.size (Ix c)) (h0 : I [] w)
    (Ax : α → Act → World → Prop) (hAx : ∀ x a', Turns w.heap.size (fun (_ : Unit) W => Ax x a' W))
    (hassign : ∀ (l : Nat) (pre : List α) (x : α) (W : World) (K : Act → World → Prop), I pre W → Pr pre x → (∀ a' W', KeepsFrom w.heap.size W W' → Kp W W' → I pre W' → Ax x a' W' → K a' W') →
      assign.wpIn (F.inRound l) (n - 1 - 1) P (Exit.then K (fun _ _ _ => False)) { tmps := (ps.zip (encs x)).foldl (fun t (p, v) => t.setIfInBounds p v) a.tmps, defers := [] } W)
    (hbody : ∀ (l : Nat) (pre : List α) (x : α) (a' : Act) (W : World), w.heap.size ≤ l → I pre W → Ax x a' W → Pr pre x → body.wpIn (F.inRound l) (n - 1 - 1) P (ownPostG w.heap.size Kp I Ix (pre ++ [x]) W) a' W)
    (hdone : ∀ (D : Nat) (xs : List α) (W : World), w.heap.size ≤ D → S xs → I xs W → W.heap[D]? = some (.deferred (some [])) → Q .normal { a with defers := { target := .collected D, args := #[] } :: a.defers } W)
    (hstop : ∀ (D : Nat) (c : Code) (pre : List α) (W : World), w.heap.size ≤ D → Sp pre → Ix c pre W → W.heap[D]? = some (.deferred (some [])) → c.wpIn F n P Q { a with defers := { target := .collected D, args := #[] } :: a.defers } W) :
    (Code.rangeFunc g ps assign body).wpIn F n P Q a w := by
  refine wpIn_rangeFunc ?_
  intro fn hfn
  rw [hro]
  obtain ⟨rec, hrec⟩ : ∃ rec : LoopState → Option Code → Loop, rec = fun st pe => { state := st, pending := pe, fn, tmps := a.tmps, params := ps, assign, body, defers := w.heap.size } := ⟨_, rfl⟩
  obtain ⟨W1, hW1⟩ : ∃ W1, (w.alloc (.deferred (some []))).alloc (.loop (rec .ready none)) = W1 := ⟨_, rfl⟩
  have hL1 : W1.heap[w.heap.size + 1]? = some (.loop (rec .ready none)) := by
    rw [← hW1]
    have := World.alloc_heap_new (w.alloc (.deferred (some []))) (.loop (rec .ready none))
    rwa [World.size_alloc] at this
  have hK1 : W1.heap[w.heap.size]? = some (.deferred (some [])) := by
    rw [← hW1]
    exact (Below.heap_alloc _ _ _ (by simp)).trans (World.alloc_heap_new w _)
  have hI1 : I [] W1 := by
    rw [← hW1]
    exact hI _ _ _ (hI _ _ _ h0 (World.grownBy_alloc _ _ _)) (World.grownBy_alloc _ _ _)
  have hb1 : Below w0.heap.size w0 W1 := by
    rw [← hW1]
    exact hb0.trans ((((Below.refl _ w).alloc (Nat.le_refl _) _).alloc (by simp) _).mono hb0.size)
  refine ⟨w.heap.size + 1, [{ target := .collected w.heap.size, args := #[] }], W1, { target := .fn (.func gf) lb, args := #[.func (.yield (w.heap.size + 1)) #[] #[]] }, W1, gf,
    #[.func (.yield (w.heap.size + 1)) #[] #[]] ++ lb, W1, ?_, ?_, ?_, ?_, fun _ => h1, ?_⟩
  · rw [← hW1, hrec]
    exact run_enterLoop_outer _ _ _ _ _
  · simp only [resolve, hg]
    simp [go_sem]
  · intro f' hf'
    simp [Target.leads] at hf'
    subst hf'
    exact hFg
  · simp [invoke, go_sem, eg]
  · -- the two blocks of book-keeping lie as they lay, whatever the iterator does
    have hkeep : ∀ {A B : World} {k : Nat} {o : Obj}, A.grownBy B row → w.heap.size ≤ k → A.heap[k]? = some o → B.heap[k]? = some o := fun hg' hk ho =>
      (hg'.block _ (Array.getElem?_eq_some_iff.1 ho).1 (fun e => by have := hrow _ e.symm; omega)).trans ho
    refine (hseq (w.heap.size + 1)
      (fun pre W => I pre W ∧ W.heap[w.heap.size + 1]? = some (.loop (rec .ready none)) ∧ W.heap[w.heap.size]? = some (.deferred (some [])))
      (fun pre W => ∃ c, Ix c pre W ∧ W.heap[w.heap.size + 1]? = some (.loop (rec .done (some c))) ∧ W.heap[w.heap.size]? = some (.deferred (some [])))
      W1 hb1
      (fun s A B hs hg' => ⟨hI s A B hs.1 hg', hkeep hg' (by omega) hs.2.1, hkeep hg' (Nat.le_refl _) hs.2.2⟩)
      (fun s A B hs hg' => by
        obtain ⟨c, hc, hl, hk⟩ := hs
        exact ⟨c, hIx c s A B hc hg', hkeep hg' (by omega) hl, hkeep hg' (Nat.le_refl _) hk⟩)
      ?_ ⟨hI1, hL1, hK1⟩).mono ?_
    · rintro pre x W ⟨hi, hl, hk⟩ hpr
      have hy := run_yield (P := P) (args := encs x) hl (by rw [hrec]; exact hps x)
      rw [hrec] at hy
      refine ⟨fn, _, assign, body, hy, roundIn_of_wpIn hfn (hassign _ pre x W _ hi hpr ?_)⟩
      clear hy
      intro a' W2 hkf hkp hi2 hax
      have hl1 := hkf.same _ _ (by omega) hl rfl
      have hk1 := hkf.same _ _ (Nat.le_refl _) hk rfl
      have hlt := (Array.getElem?_eq_some_iff.1 hl1).1
      refine ⟨_, run_beginRound hl1 (by rw [hrec]), ?_⟩
      have hl2 : (W2.putObj (w.heap.size + 1) (.loop { rec .ready none with state := .busy })).heap[w.heap.size + 1]? = some (.loop { rec .ready none with state := .busy }) := World.putObj_heap_same hlt
      have hk2 : (W2.putObj (w.heap.size + 1) (.loop { rec .ready none with state := .busy })).heap[w.heap.size]? = some (.deferred (some [])) := (World.putObj_heap_other (by omega)).trans hk1
      have hw2 : Kp W2 (W2.putObj (w.heap.size + 1) (.loop { rec .ready none with state := .busy })) := hKb _ _ _ _ (by omega) hl1 rfl
      refine wpIn_mono (hbody _ pre x a' _ (by omega) (hIt _ _ _ _ _ hi2 (by omega) hl1 rfl) (hAx x a' () _ _ _ _ hax (by omega) hl1 rfl) hpr) ?_
      have fin : ∀ (jump : Option Code) (W3 : World), KeepsFrom w.heap.size (W2.putObj (w.heap.size + 1) (.loop { rec .ready none with state := .busy })) W3 →
          (Instr.endRound (w.heap.size + 1) jump).run P W3 = .ok (.bool jump.isNone) (W3.putObj (w.heap.size + 1) (.loop (rec (if jump.isNone then .ready else .done) jump))) ∧
          W3.heap[w.heap.size + 1]? = some (.loop { rec .ready none with state := .busy }) ∧
          (W3.putObj (w.heap.size + 1) (.loop (rec (if jump.isNone then .ready else .done) jump))).heap[w.heap.size + 1]? = some (.loop (rec (if jump.isNone then .ready else .done) jump)) ∧
          (W3.putObj (w.heap.size + 1) (.loop (rec (if jump.isNone then .ready else .done) jump))).heap[w.heap.size]? = some (.deferred (some [])) := fun jump W3 hk3 => by
        have hl3 := hk3.same _ _ (by omega) hl2 rfl
        have := run_endRound (P := P) jump hl3
        rw [hrec] at this ⊢
        exact ⟨this, by rw [hrec] at hl3; exact hl3, World.putObj_heap_same (Array.getElem?_eq_some_iff.1 hl3).1, (World.putObj_heap_other (by omega)).trans (hk3.same _ _ (Nat.le_refl _) hk2 rfl)⟩
      rintro e a3 W3 hp
      cases e with
      | normal =>
        obtain ⟨hk3, hkp3, hi3⟩ := hp
        obtain ⟨hr, hl3, hl4, hk4⟩ := fin none W3 hk3
        exact ⟨_, _, hr, .inl ⟨rfl, ⟨hIt _ _ _ _ _ hi3 (by omega) hl3 rfl, hl4, hk4⟩, hKt hkp (hKt (hKt hw2 hkp3) (hKb _ _ _ _ (by omega) hl3 rfl))⟩⟩
      | ret =>
        obtain ⟨hk3, hi3⟩ := hp
        obtain ⟨hr, hl3, hl4, hk4⟩ := fin (some .ret) W3 hk3
        exact ⟨_, _, hr, .inr ⟨rfl, .ret, hIxt _ _ _ _ _ _ hi3 (by omega) hl3 rfl, hl4, hk4⟩⟩
      | exit id =>
        obtain ⟨hk3, hi3⟩ := hp
        obtain ⟨hr, hl3, hl4, hk4⟩ := fin (some (.exit id)) W3 hk3
        exact ⟨_, _, hr, .inr ⟨rfl, .exit id, hIxt _ _ _ _ _ _ hi3 (by omega) hl3 rfl, hl4, hk4⟩⟩
      | goto t =>
        obtain ⟨hk3, hi3⟩ := hp
        obtain ⟨hr, hl3, hl4, hk4⟩ := fin (some (.goto t)) W3 hk3
        exact ⟨_, _, hr, .inr ⟨rfl, .goto t, hIxt _ _ _ _ _ _ hi3 (by omega) hl3 rfl, hl4, hk4⟩⟩
      | panic ch => exact hp.elim
      | outgrown => exact hp.elim
    · rintro e W2 ⟨⟨v, rfl⟩, (⟨xs, hS, hi, hl, hk⟩ | ⟨pre, hSp, c, hi, hl, hk⟩)⟩
      · exact ⟨none, _, by have := run_endLoop (P := P) hl (by rw [hrec]; simp); rw [hrec] at this; exact this, hdone _ xs _ (Nat.le_refl _) hS (hIt _ _ _ _ _ hi (by omega) hl rfl) ((World.putObj_heap_other (by omega)).trans hk)⟩
      · exact ⟨some c, _, by have := run_endLoop (P := P) hl (by rw [hrec]; simp); rw [hrec] at this; exact this, hstop _ c pre _ (Nat.le_refl _) hSp (hIxt _ _ _ _ _ _ hi (by omega) hl rfl) ((World.putObj_heap_other (by omega)).trans hk)⟩
end Go.Proofs.YtkllecicddfjpaaGreatDoor
