/- The reader of a head: a value's further lines, a field. · A field as lines: its pieces, and Fold. -/
import Derived.Test.YtcagkoakbdbbaaaGreatDoorJ41
import Derived.Test.YtcagkoakbdbbaaaGreatDoorJ34
import Derived.Test.YtcagkoakbdbbaaaGreatDoorJ17
import Derived.Test.YtcagkoakbdbbaaaGreatDoorJ35
namespace Go.Proofs.YtcagkoakbdbbaaaGreatDoor
namespace Fd
set_option linter.unusedVariables false
set_option linter.unusedSimpArgs false
open Go.RowKit

/-- how much is left to read -/
def restLen (g : Nat) (w : World) : Nat := match w.cell? ⟨g, 0, none⟩ with
  | some (.slice _ n _) => n
  | _ => 0
theorem restLen_of {g : Nat} {w : World} {A : Option Addr} {n c : Nat} {f : Value} (h : Rd w g (.slice A n c) f) : restLen g w = n := by
  unfold restLen
  rw [h.cell (j := 0) rfl]

/-- what is left lies in an old block, not in the reader's -/
def In (N g : Nat) (B : Option Addr) (l : List UInt8) : Prop := 0 < l.length → ∃ b o, B = some ⟨b, o, none⟩ ∧ b < N ∧ b ≠ g
theorem In.sub {N g : Nat} {A B : Option Addr} {l m : List UInt8} (h : In N g A l) (hs : SB A B) (hl : 0 < m.length → 0 < l.length) (hB : 0 < m.length → ∃ b o, B = some ⟨b, o, none⟩) : In N g B m := fun hm => by
  obtain ⟨b, o, rfl⟩ := hB hm
  obtain ⟨o', rfl⟩ := hs b o rfl
  obtain ⟨b1, o1, e, h1, h2⟩ := h (hl hm)
  cases e
  exact ⟨b, o, rfl, h1, h2⟩
theorem _root_.Go.Proofs.YtcagkoakbdbbaaaGreatDoor.Rb.plain {w : World} {A : Option Addr} {l : List UInt8} (h : Rb w A l) (hl : 0 < l.length) : ∃ b o, A = some ⟨b, o, none⟩ := by
  obtain ⟨b, o, e, _⟩ := h (by simpa using hl)
  exact ⟨b, o, e⟩
theorem Rd.grown {w w1 : World} {g : Nat} {r f : Value} {row : Option Nat} (h : Rd w g r f) (hg : w.grownBy w1 row) (hne : row ≠ some g) : Rd w1 g r f := Row.block h (hg.block g h.lt (fun e => hne e.symm))
theorem _root_.Go.Proofs.YtcagkoakbdbbaaaGreatDoor.Rb.grownIn {w w1 : World} {N g : Nat} {row : Option Nat} {A : Option Addr} {l : List UInt8} (hA : Rb w A l) (hg : w.grownBy w1 row) (hi : In N g A l) (hr : ∀ k, row = some k → N ≤ k ∨ k = g) : Rb w1 A l := fun hp => by
  obtain ⟨b, o, rfl, hc⟩ := hA hp
  obtain ⟨b', o', e, hb, hb2⟩ := hi (by simpa using hp)
  cases e
  exact ⟨b, o, rfl, fun j v hj => hg.cell (hc j v hj) (fun e => by rcases hr b e.symm with h | h <;> omega)⟩

set_option maxRecDepth 100000 in
set_option maxHeartbeats 2000000 in
theorem rdval_any (g : Nat) (A F : Option Addr) (l first : List UInt8) (n c m d : Nat) (fv : Value) (w : World) (hn : l.length = n) (hm : first.length = m) (hR : Rd w g (.slice A n c) fv) (hf : ∀ k z, fv ≠ .int k z) (hA : Rb w A l) (hnc : n ≤ c) (hpl : Pl A c)
    (hI : In w.heap.size g A l) (hF : Rb w F first) (hmd : m ≤ d) (hpf : Pl F d) (hb : n ≤ 1000000) (hbm : m ≤ 1000000) :
    Calls Tryz.prog 80 #[.pointer (some ⟨g, 0, none⟩), .slice F m d] w fun e w' => ((∃ v b B c', valGo first l = some (v, b) ∧ e = .returned (.tuple #[.string (bs (trimB v)), .bool true]) ∧ Rd w' g (.slice B b.length c') fv ∧ Rb w' B b ∧ b.length ≤ c' ∧ Pl B c' ∧ SB A B) ∨
      (valGo first l = none ∧ e = .returned (.tuple #[.string ⟨#[]⟩, .bool false]))) ∧ w.grownBy w' (some g) := by
  have HM := Lib.hid hm
  have HN := Lib.hid hn
  have HR := Lib.hid hR
  have hgl := hR.lt
  clear hn hm hR
  go_enter Tryz.func80, Tryz.ntmps80
  go_wp2_with fail
  refine (clone_any F first m d w HM.out hF hmd hpf (by omega)).mono ?_
  rintro e w1 ⟨⟨x, rfl, hx⟩, hb1⟩
  go_wp2_with fail
  go_loopw [6] (fun x wr => ∃ (N : Nat) (acc rest : List UInt8) (B : Option Addr) (c' : Nat), wr.ownsRow w.heap.size 5 1 x N (acc.map bv) ∧ Hid (Rd wr g (.slice B rest.length c') fv) ∧ Rb wr B rest ∧ rest.length ≤ c' ∧ Pl B c' ∧ SB A B ∧ In w.heap.size g B rest ∧ Hid (valGo acc rest = valGo first l) ∧ Hid (w.grownBy wr (some g)) ∧ N + rest.length ≤ m + n) (fun _ wr => restLen g wr)
  case atStart => exact ⟨m, first, l, A, c, hx, Lib.hid (by rw [HN.out]; exact HR.out.below hb1), hA.below hb1, by rw [HN.out]; exact hnc, hpl, SB.refl _, hI, Lib.hid rfl, Lib.hid (grown_of_below hb1 _), by rw [HN.out]; omega⟩
  case round =>
    obtain ⟨N, acc, rest, B, c', hown, hRd, hRb, hbc, hplB, hsb, hIn, hgo, hgr, hlen⟩ := hrel
    have hs1 := hgr.out.size
    have c0 : wr.cell? ⟨g, 0, none⟩ = some (.slice B rest.length c') := hRd.out.cell rfl
    have hxg := hown.lt
    have hown4 := hown
    obtain ⟨XA, xc, rfl, hxc, _, hXR, hXl⟩ := own_form hown
    have hXl2 : acc.length = N := by simpa using hXl
    have hXRb : Rb wr XA acc := hXR
    have HXL := Lib.hid hXl2
    have hcv := conv_str (P := Tryz.prog) (src := 22) (dst := 9) (e := 5) Tryz.underlying22 Tryz.underlying5 Tryz.underlying9 (n := N) (c := xc) hXRb hXl2
    have hML := restLen_of hRd.out
    clear hXl hXl2 hXR
    by_cases hmore : ∃ ch r, rest = ch :: r ∧ blk ch = true
    · obtain ⟨ch, r, hre, hbk⟩ := hmore
      have hpos : 0 < rest.length := by rw [hre]; simp
      obtain ⟨b0, o0, y, rfl, hy, hcy⟩ := hRb.one (k := 0) hpos
      obtain rfl : y = ch := by have := hy.out; rw [hre] at this; simpa using this.symm
      rw [Nat.add_zero] at hcy
      have HBK := Lib.hid hbk
      clear hy
      have hlp : (0 : Int) < (rest.length : Int) := by omega
      have hng : (Value.slice XA N xc).ownBlock = none ∨ (Value.slice XA N xc).ownBlock ≠ some g := by
        right
        intro e
        have := hxg g e
        omega
      have HXG := Lib.hid hxg
      clear hxg hcv
      go_wp2_with (go_at_call 103; refine (fblank_any y _).mono ?_; rintro e wz ⟨rfl, rfl⟩; rw [HBK.out])
      refine (line_any g _ rest _ c' fv wr rfl hRd.out hf hRb hbc hplB (by omega)).mono ?_
      rintro e w2 ⟨hl2, hg2⟩
      unfold LineOut at hl2
      have hgg := grown_trans hgr.out hg2 (fun j h => .inl (Option.some.inj h).symm)
      cases hc : cutAt 10 rest with
      | none =>
        rw [hc] at hl2
        obtain ⟨rfl, _⟩ := hl2
        have hv : valGo first l = none := by
          rw [← hgo.out]
          subst hre
          exact valGo_none HBK.out hc
        have HV := Lib.hid hv
        clear hv hre
        go_wp2_with fail
        go_ret2
        exact ⟨.inr ⟨HV.out, rfl⟩, hgg⟩
      | some p =>
        obtain ⟨a, b⟩ := p
        rw [hc] at hl2
        obtain ⟨B2, d2, rfl, hRd2, hRa2, hRb2, hbd2, hplB2, hsb2⟩ := hl2
        have hv : valGo (acc ++ deCr a) b = valGo first l := by
          rw [← hgo.out]
          subst hre
          exact (valGo_more HBK.out hc).symm
        have hcl := cutAt_lt hc
        have hdl := deCr_len a
        have hown2 := hown4.kept hg2 hng
        have hs2 := hg2.size
        have HV := Lib.hid hv
        have HRD2 := Lib.hid hRd2
        have HC := Lib.hid hc
        clear hv hre hRd2 hc
        go_wp2_with (at_builtin; refine wpList_app rfl (.tmp 33) (.tmp 34) _ _ rfl TU8 hown2 rfl (Src_rb Tryz.underlying22 rfl hRa2) rfl (by omega) (by omega) ?_; intro v3 w3 hown3 hgr3 hat3)
        have hIn2 := hIn.sub (m := b) hsb2 (fun _ => hpos) (fun h => hRb2.plain h)
        have hne3 : (Value.slice XA N xc).ownBlock ≠ some g := by
          intro e
          have := HXG.out g e
          omega
        have hRd3 := HRD2.out.grown hgr3 hne3
        go_roundw
        case rel => exact ⟨N + (deCr a).length, acc ++ deCr a, b, B2, d2, by rw [List.map_append]; exact hown3, Lib.hid hRd3, hRb2.grownIn hgr3 hIn2 (fun k e => .inl (HXG.out k e).1), hbd2, hplB2, hsb.trans hsb2, hIn2, HV, Lib.hid (grown_trans hgg hgr3 (fun j e => .inr (HXG.out j e).1)), by omega⟩
        case measure => rw [restLen_of hRd3, hML]; omega
    · have hstop : valGo acc rest = some (acc, rest) := by
        match rest, hmore with
        | [], _ => exact valGo_nil acc
        | ch :: r, h => exact valGo_stop (by cases hb : blk ch with | false => rfl | true => exact absurd ⟨ch, r, rfl, hb⟩ h)
      have hv : valGo first l = some (acc, rest) := by rw [← hgo.out, hstop]
      have HV := Lib.hid hv
      have hal : acc.length ≤ 2000000 := by rw [HXL.out]; omega
      clear hstop hv hgo hxg hown4
      rcases (by omega : rest.length = 0 ∨ 0 < rest.length) with h0 | hpos
      · go_wp2_with fail
        refine (trim_any acc wr (by omega)).mono ?_
        rintro e w2 ⟨rfl, hb2⟩
        go_wp2_with fail
        go_ret2
        exact ⟨.inl ⟨acc, rest, B, c', HV.out, rfl, hRd.out.below hb2, hRb.below hb2, hbc, hplB, hsb⟩, grown_below hgr.out hb2⟩
      · obtain ⟨b0, o0, y, rfl, hy, hcy⟩ := hRb.one (k := 0) hpos
        rw [Nat.add_zero] at hcy
        have hbk : blk y = false := by
          cases hb : blk y with
          | false => rfl
          | true =>
            match rest, hmore, hy.out with
            | ch :: r, h, e =>
              simp at e
              subst e
              exact absurd ⟨_, _, rfl, hb⟩ h
        have HBK := Lib.hid hbk
        have hlp : (0 : Int) < (rest.length : Int) := by omega
        clear hbk hmore
        go_wp2_with (go_at_call 103; refine (fblank_any y _).mono ?_; rintro e wz ⟨rfl, rfl⟩; rw [HBK.out])
        refine (trim_any acc wr (by omega)).mono ?_
        rintro e w2 ⟨rfl, hb2⟩
        go_wp2_with fail
        go_ret2
        exact ⟨.inl ⟨acc, rest, _, c', HV.out, rfl, hRd.out.below hb2, hRb.below hb2, hbc, hplB, hsb⟩, grown_below hgr.out hb2⟩
end Fd
end Go.Proofs.YtcagkoakbdbbaaaGreatDoor

namespace Go.Proofs.YtcagkoakbdbbaaaGreatDoor
namespace Fd
set_option linter.unusedVariables false
set_option linter.unusedSimpArgs false
open Go.RowKit

/-- a string as a cell -/
def strv (p : List UInt8) : Value := .string (bs p)
theorem infoStr : (Tryz.prog.info? 9).map (fun i => (i.zero, i.size, i.bytes)) = some (some (.string ⟨#[]⟩), 1, 16) := by kernel_rfl
theorem TStr : ElT Tryz.prog 40 9 1 16 := ElT.mk' (z := .string ⟨#[]⟩) Tryz.underlying40 (by omega) (by omega) rfl infoStr

theorem cur_snoc {l : List UInt8} {f q : Nat} {c : UInt8} (hf : f ≤ q) (hc : l[q]? = some c) : (l.drop f).take (q + 1 - f) = (l.drop f).take (q - f) ++ [c] := by
  rw [show q + 1 - f = q - f + 1 by omega]
  exact take_succ_of (by rw [List.getElem?_drop, show f + (q - f) = q by omega]; exact hc)
theorem cur_last {l : List UInt8} {f q : Nat} {p : UInt8} (hf : f < q) (hp : l[q - 1]? = some p) : ((l.drop f).take (q - f)).getLast? = some p := by
  obtain ⟨m, rfl⟩ : ∃ m, q = m + 1 := ⟨q - 1, by omega⟩
  rw [cur_snoc (q := m) (by omega) (by simpa using hp)]
  simp
theorem cur_one {l : List UInt8} {q : Nat} {c : UInt8} (hc : l[q]? = some c) : (l.drop q).take (q + 1 - q) = [c] := by
  rw [cur_snoc (Nat.le_refl _) hc]
  simp
theorem drop_cons {l : List UInt8} {q : Nat} {c : UInt8} (hc : l[q]? = some c) : l.drop q = c :: l.drop (q + 1) := by
  have h := lt_of_get hc
  rw [List.drop_eq_getElem_cons h]
  rw [List.getElem?_eq_getElem h] at hc
  rw [Option.some.inj hc]
theorem pcs_start (l : List UInt8) : pcs l = [] ++ pcsGo ((l.drop 0).take (1 - 0)) (l.drop 1) := by
  match l with
  | [] => rfl
  | c :: r =>
    unfold pcs
    rw [pcsGo]
    have : turnAt [] c = false := by unfold turnAt; simp
    rw [this]
    rfl


theorem pcsGo_count : ∀ (r cur : List UInt8), (pcsGo cur r).length ≤ r.length + 1
  | [], cur => by simp [pcsGo]
  | c :: r, cur => by
    unfold pcsGo
    split
    · have := pcsGo_count r [c]
      simp
      omega
    · have := pcsGo_count r (cur ++ [c])
      simp
      omega
theorem wrapGo_len : ∀ (ps : List (List UInt8)) (line : Nat) (first : Bool), (wrapGo line first ps).length ≤ ps.flatten.length + 2 * ps.length + 2
  | [], _, _ => by simp [wrapGo]
  | p :: ps, line, first => by
    unfold wrapGo
    split
    · have := wrapGo_len ps p.length false
      simp at this ⊢
      omega
    · have := wrapGo_len ps (line + p.length) false
      simp at this ⊢
      omega
theorem foldF_len (n v : List UInt8) : (foldF n v).length ≤ n.length + 3 * v.length + 6 := by
  have h1 := wrapGo_len (pcs v) (n.length + 2) true
  have h2 := pcsGo_count v []
  rw [pcs_flat] at h1
  have h3 : (foldF n v).length = n.length + 2 + (wrapGo (n.length + 2) true (pcs v)).length := by unfold foldF; simp; omega
  have h4 : (pcs v).length ≤ v.length + 1 := h2
  omega
theorem blk_step {lo hi s : Nat} {x y : Value} (h : ∀ g, x.ownBlock = some g → g < lo ∨ hi ≤ g) (hat : y.ownBlock = x.ownBlock ∨ y.ownBlock = some s) (hs : hi ≤ s) : ∀ g, y.ownBlock = some g → g < lo ∨ hi ≤ g := by
  intro g hg
  rcases hat with e | e
  · exact h g (e ▸ hg)
  · have : s = g := by rw [hg] at e; exact (Option.some.inj e).symm
    omega
theorem own_eq {w : World} {b e N M : Nat} {x : Value} {xs ys : List Value} (h : OwnM w b e 1 x N xs) (hN : N = M) (hx : xs = ys) : OwnM w b e 1 x M ys := by subst hN; subst hx; exact h
theorem piece_len {v p : List UInt8} {k : Nat} (h : (pcs v)[k]? = some p) : p.length ≤ v.length := by
  have h1 := pcs_flat v
  have h2 : p.Sublist (pcs v).flatten := List.sublist_flatten_of_mem (List.mem_of_getElem? h)
  rw [h1] at h2
  exact h2.length_le


end Fd
end Go.Proofs.YtcagkoakbdbbaaaGreatDoor
