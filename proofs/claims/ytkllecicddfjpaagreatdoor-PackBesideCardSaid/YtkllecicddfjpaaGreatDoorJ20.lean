/- The reader of a head: a value's further lines, a field. · A field as lines, in plain words: by pieces, and place by place: one. Nothing of the program. -/
import Derived.Test.YtkllecicddfjpaaGreatDoorJ19
import Derived.Test.YtkllecicddfjpaaGreatDoorJ18
import Derived.Test.YtkllecicddfjpaaGreatDoorJ05
namespace Go.Proofs.YtkllecicddfjpaaGreatDoor
namespace Fd
set_option linter.unusedVariables false
set_option linter.unusedSimpArgs false
open Go.RowKit

/-- how much is left to read -/
def restLen (g : Nat) (w : World) : Nat := match w.cell? ⟨g, 0, none⟩ with
  | some (.slice _ n _) => n
  | _ => 0
theorem restLen_of {g : Nat} {w : World} {A : Option Addr} {n c : Nat} {f : Value} (h : Rd w g (.slice A n c) f) : restLen g w = n := by
  unfold restLen
  rw [h.cell (j := 0) rfl]

/-- what is left lies in an old block, not in the reader's -/
def In (N g : Nat) (B : Option Addr) (l : List UInt8) : Prop := 0 < l.length → ∃ b o, B = some ⟨b, o, none⟩ ∧ b < N ∧ b ≠ g
theorem In.sub {N g : Nat} {A B : Option Addr} {l m : List UInt8} (h : In N g A l) (hs : SB A B) (hl : 0 < m.length → 0 < l.length) (hB : 0 < m.length → ∃ b o, B = some ⟨b, o, none⟩) : In N g B m := fun hm => by
  obtain ⟨b, o, rfl⟩ := hB hm
  obtain ⟨o', rfl⟩ := hs b o rfl
  obtain ⟨b1, o1, e, h1, h2⟩ := h (hl hm)
  cases e
  exact ⟨b, o, rfl, h1, h2⟩
theorem _root_.Go.Proofs.YtkllecicddfjpaaGreatDoor.Rb.plain {w : World} {A : Option Addr} {l : List UInt8} (h : Rb w A l) (hl : 0 < l.length) : ∃ b o, A = some ⟨b, o, none⟩ := by
  obtain ⟨b, o, e, _⟩ := h (by simpa using hl)
  exact ⟨b, o, e⟩
theorem Rd.grown {w w1 : World} {g : Nat} {r f : Value} {row : Option Nat} (h : Rd w g r f) (hg : w.grownBy w1 row) (hne : row ≠ some g) : Rd w1 g r f := Row.block h (hg.block g h.lt (fun e => hne e.symm))
theorem _root_.Go.Proofs.YtkllecicddfjpaaGreatDoor.Rb.grownIn {w w1 : World} {N g : Nat} {row : Option Nat} {A : Option Addr} {l : List UInt8} (hA : Rb w A l) (hg : w.grownBy w1 row) (hi : In N g A l) (hr : ∀ k, row = some k → N ≤ k ∨ k = g) : Rb w1 A l := fun hp => by
  obtain ⟨b, o, rfl, hc⟩ := hA hp
  obtain ⟨b', o', e, hb, hb2⟩ := hi (by simpa using hp)
  cases e
  exact ⟨b, o, rfl, fun j v hj => hg.cell (hc j v hj) (fun e => by rcases hr b e.symm with h | h <;> omega)⟩

set_option maxRecDepth 100000 in
set_option maxHeartbeats 2000000 in
theorem rdval_any (g : Nat) (A F : Option Addr) (l first : List UInt8) (n c m d : Nat) (fv : Value) (w : World) (hn : l.length = n) (hm : first.length = m) (hR : Rd w g (.slice A n c) fv) (hf : ∀ k z, fv ≠ .int k z) (hA : Rb w A l) (hnc : n ≤ c) (hpl : Pl A c)
    (hI : In w.heap.size g A l) (hF : Rb w F first) (hmd : m ≤ d) (hpf : Pl F d) (hb : n ≤ 1000000) (hbm : m ≤ 1000000) :
    Calls Tryz.prog 151 #[.pointer (some ⟨g, 0, none⟩), .slice F m d] w fun e w' => ((∃ v b B c', valGo first l = some (v, b) ∧ e = .returned (.tuple #[.string (bs (trimB v)), .bool true]) ∧ Rd w' g (.slice B b.length c') fv ∧ Rb w' B b ∧ b.length ≤ c' ∧ Pl B c' ∧ SB A B) ∨
      (valGo first l = none ∧ e = .returned (.tuple #[.string ⟨#[]⟩, .bool false]))) ∧ w.grownBy w' (some g) := by
  have HM := Lib.hid hm
  have HN := Lib.hid hn
  have HR := Lib.hid hR
  have hgl := hR.lt
  clear hn hm hR
  go_enter Tryz.func151, Tryz.ntmps151
  go_wp2_with fail
  refine (clone_any F first m d w HM.out hF hmd hpf (by omega)).mono ?_
  rintro e w1 ⟨⟨x, rfl, hx⟩, hb1⟩
  go_wp2_with fail
  go_loopw [6] (fun x wr => ∃ (N : Nat) (acc rest : List UInt8) (B : Option Addr) (c' : Nat), wr.ownsRow w.heap.size 5 1 x N (acc.map bv) ∧ Hid (Rd wr g (.slice B rest.length c') fv) ∧ Rb wr B rest ∧ rest.length ≤ c' ∧ Pl B c' ∧ SB A B ∧ In w.heap.size g B rest ∧ Hid (valGo acc rest = valGo first l) ∧ Hid (w.grownBy wr (some g)) ∧ N + rest.length ≤ m + n) (fun _ wr => restLen g wr)
  case atStart => exact ⟨m, first, l, A, c, hx, Lib.hid (by rw [HN.out]; exact HR.out.below hb1), hA.below hb1, by rw [HN.out]; exact hnc, hpl, SB.refl _, hI, Lib.hid rfl, Lib.hid (grown_of_below hb1 _), by rw [HN.out]; omega⟩
  case round =>
    obtain ⟨N, acc, rest, B, c', hown, hRd, hRb, hbc, hplB, hsb, hIn, hgo, hgr, hlen⟩ := hrel
    have hs1 := hgr.out.size
    have c0 : wr.cell? ⟨g, 0, none⟩ = some (.slice B rest.length c') := hRd.out.cell rfl
    have hxg := hown.lt
    have hown4 := hown
    obtain ⟨XA, xc, rfl, hxc, _, hXR, hXl⟩ := own_form hown
    have hXl2 : acc.length = N := by simpa using hXl
    have hXRb : Rb wr XA acc := hXR
    have HXL := Lib.hid hXl2
    have hcv := conv_str (P := Tryz.prog) (src := 22) (dst := 9) (e := 5) Tryz.underlying22 Tryz.underlying5 Tryz.underlying9 (n := N) (c := xc) hXRb hXl2
    have hML := restLen_of hRd.out
    clear hXl hXl2 hXR
    by_cases hmore : ∃ ch r, rest = ch :: r ∧ blk ch = true
    · obtain ⟨ch, r, hre, hbk⟩ := hmore
      have hpos : 0 < rest.length := by rw [hre]; simp
      obtain ⟨b0, o0, y, rfl, hy, hcy⟩ := hRb.one (k := 0) hpos
      obtain rfl : y = ch := by have := hy.out; rw [hre] at this; simpa using this.symm
      rw [Nat.add_zero] at hcy
      have HBK := Lib.hid hbk
      clear hy
      have hlp : (0 : Int) < (rest.length : Int) := by omega
      have hng : (Value.slice XA N xc).ownBlock = none ∨ (Value.slice XA N xc).ownBlock ≠ some g := by
        right
        intro e
        have := hxg g e
        omega
      have HXG := Lib.hid hxg
      clear hxg hcv
      go_wp2_with (go_at_call 171; refine (fblank_any y _).mono ?_; rintro e wz ⟨rfl, rfl⟩; rw [HBK.out])
      refine (line_any g _ rest _ c' fv wr rfl hRd.out hf hRb hbc hplB (by omega)).mono ?_
      rintro e w2 ⟨hl2, hg2⟩
      unfold LineOut at hl2
      have hgg := grown_trans hgr.out hg2 (fun j h => .inl (Option.some.inj h).symm)
      cases hc : cutAt 10 rest with
      | none =>
        rw [hc] at hl2
        obtain ⟨rfl, _⟩ := hl2
        have hv : valGo first l = none := by
          rw [← hgo.out]
          subst hre
          exact valGo_none HBK.out hc
        have HV := Lib.hid hv
        clear hv hre
        go_wp2_with fail
        go_ret2
        exact ⟨.inr ⟨HV.out, rfl⟩, hgg⟩
      | some p =>
        obtain ⟨a, b⟩ := p
        rw [hc] at hl2
        obtain ⟨B2, d2, rfl, hRd2, hRa2, hRb2, hbd2, hplB2, hsb2⟩ := hl2
        have hv : valGo (acc ++ deCr a) b = valGo first l := by
          rw [← hgo.out]
          subst hre
          exact (valGo_more HBK.out hc).symm
        have hcl := cutAt_lt hc
        have hdl := deCr_len a
        have hown2 := hown4.kept hg2 hng
        have hs2 := hg2.size
        have HV := Lib.hid hv
        have HRD2 := Lib.hid hRd2
        have HC := Lib.hid hc
        clear hv hre hRd2 hc
        go_wp2_with (at_builtin; refine wpList_app rfl (.tmp 33) (.tmp 34) _ _ rfl TU8 hown2 rfl (Src_rb Tryz.underlying22 rfl hRa2) rfl (by omega) (by omega) ?_; intro v3 w3 hown3 hgr3 hat3)
        have hIn2 := hIn.sub (m := b) hsb2 (fun _ => hpos) (fun h => hRb2.plain h)
        have hne3 : (Value.slice XA N xc).ownBlock ≠ some g := by
          intro e
          have := HXG.out g e
          omega
        have hRd3 := HRD2.out.grown hgr3 hne3
        go_roundw
        case rel => exact ⟨N + (deCr a).length, acc ++ deCr a, b, B2, d2, by rw [List.map_append]; exact hown3, Lib.hid hRd3, hRb2.grownIn hgr3 hIn2 (fun k e => .inl (HXG.out k e).1), hbd2, hplB2, hsb.trans hsb2, hIn2, HV, Lib.hid (grown_trans hgg hgr3 (fun j e => .inr (HXG.out j e).1)), by omega⟩
        case measure => rw [restLen_of hRd3, hML]; omega
    · have hstop : valGo acc rest = some (acc, rest) := by
        match rest, hmore with
        | [], _ => exact valGo_nil acc
        | ch :: r, h => exact valGo_stop (by cases hb : blk ch with | false => rfl | true => exact absurd ⟨ch, r, rfl, hb⟩ h)
      have hv : valGo first l = some (acc, rest) := by rw [← hgo.out, hstop]
      have HV := Lib.hid hv
      have hal : acc.length ≤ 2000000 := by rw [HXL.out]; omega
      clear hstop hv hgo hxg hown4
      rcases (by omega : rest.length = 0 ∨ 0 < rest.length) with h0 | hpos
      · go_wp2_with fail
        refine (trim_any acc wr (by omega)).mono ?_
        rintro e w2 ⟨rfl, hb2⟩
        go_wp2_with fail
        go_ret2
        exact ⟨.inl ⟨acc, rest, B, c', HV.out, rfl, hRd.out.below hb2, hRb.below hb2, hbc, hplB, hsb⟩, grown_below hgr.out hb2⟩
      · obtain ⟨b0, o0, y, rfl, hy, hcy⟩ := hRb.one (k := 0) hpos
        rw [Nat.add_zero] at hcy
        have hbk : blk y = false := by
          cases hb : blk y with
          | false => rfl
          | true =>
            match rest, hmore, hy.out with
            | ch :: r, h, e =>
              simp at e
              subst e
              exact absurd ⟨_, _, rfl, hb⟩ h
        have HBK := Lib.hid hbk
        have hlp : (0 : Int) < (rest.length : Int) := by omega
        clear hbk hmore
        go_wp2_with (go_at_call 171; refine (fblank_any y _).mono ?_; rintro e wz ⟨rfl, rfl⟩; rw [HBK.out])
        refine (trim_any acc wr (by omega)).mono ?_
        rintro e w2 ⟨rfl, hb2⟩
        go_wp2_with fail
        go_ret2
        exact ⟨.inl ⟨acc, rest, _, c', HV.out, rfl, hRd.out.below hb2, hRb.below hb2, hbc, hplB, hsb⟩, grown_below hgr.out hb2⟩
end Fd
end Go.Proofs.YtkllecicddfjpaaGreatDoor

namespace Go.Proofs.YtkllecicddfjpaaGreatDoor
namespace Fd
set_option linter.unusedVariables false
set_option linter.unusedSimpArgs false

/-- does a piece begin at c, behind cur? -/
def turnAt (cur : List UInt8) (c : UInt8) : Bool := blk c && (match cur.getLast? with | some p => !blk p | none => false)
/-- the pieces: what stands in hand, and the rest -/
def pcsGo (cur : List UInt8) : List UInt8 → List (List UInt8)
  | [] => [cur]
  | c :: r => if turnAt cur c then cur :: pcsGo [c] r else pcsGo (cur ++ [c]) r
def pcs (v : List UInt8) : List (List UInt8) := pcsGo [] v
/-- the lines: at so many bytes in the line, and whether it is the first piece -/
def wrapGo (line : Nat) (first : Bool) : List (List UInt8) → List UInt8
  | [] => [13, 10]
  | p :: ps => if first = false ∧ 76 < line + p.length then [13, 10] ++ p ++ wrapGo p.length false ps else p ++ wrapGo (line + p.length) false ps
def foldF (n v : List UInt8) : List UInt8 := n ++ [58, 32] ++ wrapGo (n.length + 2) true (pcs v)

theorem pcsGo_flat : ∀ (r cur : List UInt8), (pcsGo cur r).flatten = cur ++ r
  | [], cur => by simp [pcsGo]
  | c :: r, cur => by
    unfold pcsGo
    split
    · rw [List.flatten_cons, pcsGo_flat r [c]]
      rfl
    · rw [pcsGo_flat r (cur ++ [c])]
      simp
theorem pcs_flat (v : List UInt8) : (pcs v).flatten = v := by rw [pcs, pcsGo_flat]; rfl

/-- place by place -/
def refGo (line : Nat) (prev : UInt8) : List UInt8 → List UInt8
  | [] => [13, 10]
  | c :: r => if blk c = true ∧ blk prev = false ∧ 76 < line + ((pcsGo [c] r).headD []).length then [13, 10, c] ++ refGo 1 c r else c :: refGo (line + 1) c r

theorem refGo_turn {line : Nat} {prev c : UInt8} {r : List UInt8} (h : blk c = true ∧ blk prev = false ∧ 76 < line + ((pcsGo [c] r).headD []).length) : refGo line prev (c :: r) = [13, 10, c] ++ refGo 1 c r := by rw [refGo, if_pos h]
theorem refGo_on {line : Nat} {prev c : UInt8} {r : List UInt8} (h : ¬ (blk c = true ∧ blk prev = false ∧ 76 < line + ((pcsGo [c] r).headD []).length)) : refGo line prev (c :: r) = c :: refGo (line + 1) c r := by rw [refGo, if_neg h]
theorem wrapGo_turn {line : Nat} {p : List UInt8} {ps : List (List UInt8)} (h : 76 < line + p.length) : wrapGo line false (p :: ps) = [13, 10] ++ p ++ wrapGo p.length false ps := by rw [wrapGo, if_pos ⟨rfl, h⟩]
theorem wrapGo_go {line : Nat} {first : Bool} {p : List UInt8} {ps : List (List UInt8)} (h : ¬ (first = false ∧ 76 < line + p.length)) : wrapGo line first (p :: ps) = p ++ wrapGo (line + p.length) false ps := by rw [wrapGo, if_neg h]

theorem pcsGo_cur : ∀ (r cur : List UInt8), ∃ x ps, pcsGo cur r = (cur ++ x) :: ps
  | [], cur => ⟨[], [], by simp [pcsGo]⟩
  | c :: r, cur => by
    unfold pcsGo
    split
    · exact ⟨[], _, by rw [List.append_nil]⟩
    · obtain ⟨x, ps, h⟩ := pcsGo_cur r (cur ++ [c])
      exact ⟨c :: x, ps, by rw [h]; simp⟩

theorem refGo_eq : ∀ (r cur : List UInt8) (p : UInt8) (line : Nat) (x : List UInt8) (ps : List (List UInt8)), cur.getLast? = some p → pcsGo cur r = (cur ++ x) :: ps → refGo line p r = x ++ wrapGo (line + x.length) false ps
  | [], cur, p, line, x, ps, hp, h => by
    simp only [pcsGo, List.cons.injEq, List.self_eq_append_right] at h
    obtain ⟨rfl, rfl⟩ := h
    rfl
  | c :: r, cur, p, line, x, ps, hp, h => by
    have ht : turnAt cur c = (blk c && !blk p) := by unfold turnAt; rw [hp]
    unfold pcsGo at h
    rw [ht] at h
    by_cases hb : blk c = true ∧ blk p = false
    · rw [if_pos (by simp [hb])] at h
      simp only [List.cons.injEq, List.self_eq_append_right] at h
      obtain ⟨rfl, rfl⟩ := h
      obtain ⟨x', ps', h'⟩ := pcsGo_cur r [c]
      have hh : (pcsGo [c] r).headD [] = [c] ++ x' := by rw [h']; rfl
      have ih := fun line => refGo_eq r [c] c line x' ps' rfl h'
      by_cases hw : 76 < line + ([c] ++ x').length
      · rw [refGo_turn ⟨hb.1, hb.2, by rw [hh]; exact hw⟩, h', List.length_nil, Nat.add_zero, wrapGo_turn hw, ih 1]
        simp [Nat.add_comm]
      · rw [refGo_on (fun k => hw (by have := k.2.2; rwa [hh] at this)), h']
        show _ = wrapGo line false _
        rw [wrapGo_go (fun k => hw k.2), ih (line + 1)]
        simp [Nat.add_comm, Nat.add_left_comm]
    · rw [if_neg (by simp only [Bool.and_eq_true, Bool.not_eq_true', not_and, Bool.not_eq_false]; intro h1; by_cases h2 : blk p = false; exact absurd ⟨h1, h2⟩ hb; simpa using h2)] at h
      obtain ⟨x', ps', h'⟩ := pcsGo_cur r (cur ++ [c])
      rw [h'] at h
      simp only [List.append_assoc, List.cons.injEq, List.append_cancel_left_eq] at h
      obtain ⟨hx, rfl⟩ := h
      have ih := refGo_eq r (cur ++ [c]) c (line + 1) x' ps' (by simp) h'
      rw [refGo_on (fun k => hb ⟨k.1, k.2.1⟩), ih, ← hx]
      simp [Nat.add_comm, Nat.add_left_comm]
/-- the lines, place by place -/
theorem foldF_ref (n v : List UInt8) : foldF n v = n ++ [58, 32] ++ match v with
    | [] => [13, 10]
    | c :: r => c :: refGo (n.length + 3) c r := by
  unfold foldF pcs
  congr 1
  match v with
  | [] => rfl
  | c :: r =>
    have h0 : pcsGo [] (c :: r) = pcsGo [c] r := by
      rw [pcsGo]
      have : turnAt [] c = false := by unfold turnAt; simp
      rw [this]
      rfl
    obtain ⟨x, ps, h⟩ := pcsGo_cur r [c]
    rw [h0, h]
    rw [wrapGo_go (by simp)]
    show _ = c :: refGo _ c r
    rw [refGo_eq r [c] c _ x ps rfl h]
    simp [Nat.add_comm, Nat.add_left_comm]
end Fd
end Go.Proofs.YtkllecicddfjpaaGreatDoor
