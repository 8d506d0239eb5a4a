/- The reader of a head: a field. · Rows of fields: whether all are right, whether two rows are one: the document's. · Whether a field has a name, as a test that is handed on; where the first one stands. -/
import Derived.Test.YtkllecicddfjpaaGreatDoorJ18
import Derived.Test.YtkllecicddfjpaaGreatDoorJ19
import Derived.Deep.RegionLaw
import Derived.Deep.RegionHeld
import Derived.Test.YtkllecicddfjpaaGreatDoorJ17
import Derived.Test.YtkllecicddfjpaaGreatDoorJ03
namespace Go.Proofs.YtkllecicddfjpaaGreatDoor
namespace Fd
set_option linter.unusedVariables false
set_option linter.unusedSimpArgs false
open Go.RowKit

/-- fields as cells -/
def fcells (fs : List (List UInt8 × List UInt8)) : List Value := fs.flatMap fun p => [strv p.1, strv p.2]
theorem fcells_len (fs : List (List UInt8 × List UInt8)) : (fcells fs).length = fs.length * 2 := by
  induction fs with
  | nil => rfl
  | cons p fs ih =>
    have : fcells (p :: fs) = strv p.1 :: strv p.2 :: fcells fs := rfl
    rw [this]
    simp [ih]
    omega
theorem fcells_snoc (fs : List (List UInt8 × List UInt8)) (p : List UInt8 × List UInt8) : fcells (fs ++ [p]) = fcells fs ++ [strv p.1, strv p.2] := by simp [fcells]
theorem infoField : (Tryz.prog.info? 73).map (fun i => (i.zero, i.size, i.bytes)) = some (some (.agg #[.string ⟨#[]⟩, .string ⟨#[]⟩]), 2, 32) := by kernel_rfl
theorem TField : ElT Tryz.prog 37 73 2 32 := ElT.mk' (z := .agg #[.string ⟨#[]⟩, .string ⟨#[]⟩]) Tryz.underlying37 (by omega) (by omega) rfl infoField

theorem grown_set (w : World) (a : Addr) (v : Value) : w.grownBy (w.setCell a v) (some a.block) :=
  ⟨rfl, rfl, rfl, by simp, fun j _ hne => Below.heap_setCell w a v j (fun e => hne (by rw [e]))⟩
theorem rdfield_end {w : World} {N0 g t k : Nat} {r f x : Value} {cs : List Value} (hR : Rd w g r f) (hx : w.ownsRow N0 t 2 x k cs) (hg : x.ownBlock ≠ some g) : Rd (w.setCell ⟨g, 1, none⟩ x) g r x ∧ (w.setCell ⟨g, 1, none⟩ x).ownsRow N0 t 2 x k cs :=
  ⟨hR.set 1 x, hx.kept (grown_set w ⟨g, 1, none⟩ x) (.inr hg)⟩
theorem _root_.Go.Proofs.YtkllecicddfjpaaGreatDoor.Rb.belowIn {w w1 : World} {N g : Nat} {A : Option Addr} {l : List UInt8} (hA : Rb w A l) (hb : Below N w w1) (hi : In N g A l) : Rb w1 A l := fun hp => by
  obtain ⟨b, o, rfl, hc⟩ := hA hp
  obtain ⟨b', o', e, h1, h2⟩ := hi (by simpa using hp)
  cases e
  exact ⟨b, o, rfl, fun j v hj => (hb.cell (p := ⟨b, o + j, none⟩) h1).trans (hc j v hj)⟩
/-- what a field's reading answers -/
def FieldOut (N0 g k : Nat) (A : Option Addr) (l line : List UInt8) (fs : List (List UInt8 × List UInt8)) (e : Ending) (w' : World) : Prop :=
  match fieldP k line l with
  | .error x => e = .returned (.int .i64 (x : Int))
  | .ok (f, b) => e = .returned (.int .i64 0) ∧ ∃ B c' fv', Rd w' g (.slice B b.length c') fv' ∧ Rb w' B b ∧ b.length ≤ c' ∧ Pl B c' ∧ SB A B ∧ w'.ownsRow N0 73 2 fv' (k + 1) (fcells (fs ++ [f])) ∧ fv'.ownBlock ≠ some g

set_option maxRecDepth 100000 in
set_option maxHeartbeats 2000000 in
theorem rdfield_any (N0 g : Nat) (A F : Option Addr) (l line : List UInt8) (fs : List (List UInt8 × List UInt8)) (n c m d k : Nat) (fv : Value) (w : World) (hn : l.length = n) (hm : line.length = m) (hR : Rd w g (.slice A n c) fv)
    (hfv : w.ownsRow N0 73 2 fv k (fcells fs)) (hfg : fv.ownBlock ≠ some g) (hg : N0 ≤ g) (hN : N0 ≤ w.heap.size) (hA : Rb w A l) (hnc : n ≤ c) (hpl : Pl A c)
    (hI : In N0 g A l) (hF : Rb w F line) (hIF : In N0 g F line) (hmd : m ≤ d) (hpf : Pl F d) (hk : k ≤ 200) (hb : n ≤ 1000000) (hbm : m ≤ 1000000) :
    Calls Tryz.prog 85 #[.pointer (some ⟨g, 0, none⟩), .slice F m d] w fun e w' => FieldOut N0 g k A l line fs e w' ∧ Below N0 w w' := by
  have HM := Lib.hid hm
  have HN := Lib.hid hn
  have HR := Lib.hid hR
  have hgl := hR.lt
  have kc := fun (w : World) (C : Array Value) (n c : Nat) => Lib.run_convert_bytes_const (P := Tryz.prog) w 22 5 C n c Tryz.underlying22 Tryz.underlying5
  clear hn hm hR
  go_enter Tryz.func85, Tryz.ntmps85
  go_wp2_with fail
  have hb1 : Below w.heap.size w (w.alloc (.cells #[.int .u8 58] 5 (1, 2))) := (Below.refl _ _).alloc (Nat.le_refl _) _
  refine (cut_any F line m d w.heap.size 0 1 58 _ HM.out (hF.below hb1) hmd hpf (mark_cell _ _ _) (by omega)).mono ?_
  rintro e w2 ⟨hcut, hd⟩
  have hb2 := hb1.trans ((hd.below _).mono hb1.size)
  have hB2 : Below N0 w w2 := hb2.mono hN
  unfold CutOut at hcut
  have hfo : FieldOut N0 g k A l line fs = fun e w' => FieldOut N0 g k A l line fs e w' := rfl
  clear hfo
  cases hc : cutAt 58 line with
  | none =>
    rw [hc] at hcut
    subst hcut
    have hp : fieldP k line l = .error 3 := by unfold fieldP; rw [hc]
    have HP := Lib.hid hp
    clear hp hc
    go_wp2_with fail
    go_ret
    exact ⟨by unfold FieldOut; rw [HP.out]; rfl, hB2⟩
  | some p =>
    obtain ⟨nm, first⟩ := p
    rw [hc] at hcut
    obtain ⟨B, d2, rfl, hRa, hRb, hbd, hplB, hac, hsb⟩ := hcut
    have hnl := cutAt_lt hc
    rw [HM.out] at hnl
    have hcv := conv_str (P := Tryz.prog) (src := 22) (dst := 9) (e := 5) Tryz.underlying22 Tryz.underlying5 Tryz.underlying9 (n := nm.length) (c := d) hRa rfl
    go_wp2_with fail
    refine (fname_any nm _ (by omega)).mono ?_
    rintro e w3 ⟨rfl, hb3⟩
    have hB3 : Below N0 w w3 := hB2.trans (hb3.mono (Nat.le_trans hN hb2.size))
    have hb23 := hb2.trans (hb3.mono hb2.size)
    cases hnm : nmOk nm with
    | false =>
      have hp : fieldP k line l = .error 3 := by unfold fieldP; rw [hc]; simp [hnm]
      have HP := Lib.hid hp
      clear hp hc
      go_wp2_with fail
      go_ret
      exact ⟨by unfold FieldOut; rw [HP.out]; rfl, hB3⟩
    | true =>
      obtain ⟨fA, fc, rfl, hfc, hfm, hfR, hfl⟩ := own_form hfv
      have hR3 : Rd w3 g (.slice A n c) (.slice fA k fc) := HR.out.below hb23
      have c31 : w3.cell? ⟨g, 1, none⟩ = some (.slice fA k fc) := hR3.cell rfl
      have hfv3 := own_below hfv hb23
      by_cases hk2 : k = 200
      · have hp : fieldP k line l = .error 4 := by unfold fieldP; rw [hc]; simp [hnm, hk2]
        have hkb : ((k : Int) == 200) = true := by rw [beq_iff_eq]; omega
        have HP := Lib.hid hp
        clear hp hc
        go_wp2_with fail
        go_ret
        exact ⟨by unfold FieldOut; rw [HP.out]; rfl, hB3⟩
      · have hkb : ((k : Int) == 200) = false := by rw [beq_eq_false_iff_ne]; omega
        have hC := Lib.hid hc
        clear hc hcv
        go_wp2_with fail
        have hs3 := hb23.size
        have hI3 : In w3.heap.size g A l := fun h => by
          obtain ⟨b, o, e, h1, h2⟩ := hI h
          exact ⟨b, o, e, by omega, h2⟩
        refine (rdval_any g A B l first n c first.length d2 (.slice fA k fc) w3 HN.out rfl hR3 (fun _ _ h => by cases h) (hA.below hb23) hnc hpl hI3 (hRb.below hb3) hbd hplB hb (by omega)).mono ?_
        rintro e w4 ⟨hv4, hg4⟩
        have hB4 : Below N0 w w4 := hB3.trans (below_grown hg4 hg (by omega))
        rcases hv4 with ⟨v, b, C, c', hval, rfl, hR4, hRb4, hbc, hplC, hsbC⟩ | ⟨hval, rfl⟩
        · have hvl := valGo_len _ _ _ _ _ (Nat.le_refl _) hval
          have htl := trimB_len v
          have hbl := valGo_rest hval
          have hfv4 := hfv3.kept hg4 (.inr hfg)
          have hRn4 : Rb w4 F nm := (hRa.below hb3).grownIn hg4 (N := N0) (In.sub (m := nm) hIF (SB.refl F) (fun h => by rw [HM.out]; omega) (fun h => hRa.plain h)) (fun j h => .inr (Option.some.inj h).symm)
          have hp : fieldP k line l = if 8192 < (trimB v).length then .error 4 else if (trimB v).all sgc then .ok ((nm, trimB v), b) else .error 3 := by
            unfold fieldP
            rw [hC.out]
            simp only [hnm, if_true, hk2, if_false, hval]
          rw [HN.out] at hvl
          have hvn : (trimB v).length ≤ 2000000 := by omega
          generalize trimB v = tv at *
          clear hval
          by_cases h8 : 8192 < tv.length
          · rw [if_pos h8] at hp
            have HP := Lib.hid hp
            clear hp
            go_wp2_with fail
            go_ret
            exact ⟨by unfold FieldOut; rw [HP.out]; rfl, hB4⟩
          · rw [if_neg h8] at hp
            have h8i : ¬ (8192 : Int) < (tv.length : Int) := by omega
            have HP := Lib.hid hp
            clear hp
            go_wp2_with fail
            refine (signs_any tv _ (by omega)).mono ?_
            rintro e w5 ⟨rfl, hb5⟩
            have hs4 : N0 ≤ w4.heap.size := by have := hg4.size; omega
            have hB5 := hB4.trans (hb5.mono hs4)
            cases hsg : tv.all sgc with
            | false =>
              have hp : fieldP k line l = .error 3 := by rw [HP.out]; simp [hsg]
              have HP2 := Lib.hid hp
              clear hp
              go_wp2_with fail
              go_ret
              exact ⟨by unfold FieldOut; rw [HP2.out]; rfl, hB5⟩
            | true =>
              have hp : fieldP k line l = .ok ((nm, tv), b) := by rw [HP.out]; simp [hsg]
              have HP2 := Lib.hid hp
              have hR5 := hR4.below hb5
              have hfv5 := own_below hfv4 hb5
              have c50 : w5.cell? ⟨g, 0, none⟩ = some (.slice C b.length c') := hR5.cell rfl
              have c51 : w5.cell? ⟨g, 1, none⟩ = some (.slice fA k fc) := hR5.cell rfl
              have z51 : w5.frozen? ⟨g, 1, none⟩ = false := hR5.frozen 1
              have hcv5 := conv_str (P := Tryz.prog) (src := 22) (dst := 9) (e := 5) Tryz.underlying22 Tryz.underlying5 Tryz.underlying9 (n := nm.length) (c := d) (hRn4.below hb5) rfl
              have hcvd : (convert 22 9 (.slice F nm.length d)).run Tryz.prog w5.drew = .ok (.string (bs nm)) w5.drew := conv_str (P := Tryz.prog) (src := 22) (dst := 9) (e := 5) Tryz.underlying22 Tryz.underlying5 Tryz.underlying9 (n := nm.length) (c := d) ((hRn4.below hb5).drewN 1) rfl
              have c51a : (w5.alloc (.cells #[.string (bs nm), .string (bs tv)] 73)).cell? ⟨g, 1, none⟩ = some (.slice fA k fc) := (((Below.refl _ w5).alloc (Nat.le_refl _) _).cell (p := ⟨g, 1, none⟩) (cell_lt c51)).trans c51
              have hs5 : N0 ≤ w5.heap.size := by have := hb5.size; omega
              have hk5 : (k + 1) * 32 ≤ 140737488355328 := by omega
              have hown5 : (w5.alloc (.cells #[strv nm, strv tv] 73)).drew.ownsRow N0 73 2 (.slice fA k fc) k (fcells fs) := hfv5.alloc _
              have hsrc5 : Src Tryz.prog 2 37 (.slice (some ⟨w5.heap.size, 0, none⟩) 1 1) 1 [strv nm, strv tv] (w5.alloc (.cells #[strv nm, strv tv] 73)).drew := Src_rv (news := [strv nm, strv tv]) Tryz.underlying37 rfl (Rv_new w5 _ _ _ rfl) (by simp [Value.oneCell', strv]) (by omega)
              have hsz5 : N0 ≤ (w5.alloc (.cells #[strv nm, strv tv] 73)).drew.heap.size := by simp; omega
              have HOWN := Lib.hid hown5
              have HSRC := Lib.hid hsrc5
              clear hp c31 hown5 hsrc5
              go_wp2_with fail
              go_region_law (refine step_app rfl (.tmp 53) (.tmp 58) _ _ rfl TField HOWN.out (by simp [Act.eval, Act.put]) HSRC.out (by simp [Act.eval, Act.put, strv]) hk5 hsz5 ?_; intro v6 w6 hown6 hgr6 hat6; have hown7 := hown6; obtain ⟨A6, c6, rfl, _, _, _, _⟩ := own_form hown6; have hR6 := Rd.grown (g := g) (r := .slice C b.length c') (f := .slice fA k fc) (show Rd (w5.alloc (.cells #[strv nm, strv tv] 73)).drew g _ _ from (hR5.alloc _)) hgr6 hfg; have c61 : w6.cell? ⟨g, 1, none⟩ = some (.slice fA k fc) := hR6.cell rfl; have z61 : w6.frozen? ⟨g, 1, none⟩ = false := hR6.frozen 1)
              all_goals
                have hxg : (Value.slice A6 (k + 1) c6).ownBlock ≠ some g := by
                  rcases hat6 with h | h
                  · rw [h]; exact hfg
                  · rw [h]
                    intro e
                    have e1 : w5.heap.size + 1 = g := by
                      have := Option.some.inj e
                      simpa using this
                    have e2 : g < w5.heap.size := cell_lt c51
                    omega
                obtain ⟨hR8, hown8⟩ := rdfield_end hR6 hown7 hxg
                have hB6 : Below N0 w w6 := ((hB5.alloc hs5 (.cells #[strv nm, strv tv] 73)).drew).grown hgr6 hsz5 (fun j hj => (hfv5.lt j hj).1)
                have hB7 : Below N0 w (w6.setCell ⟨g, 1, none⟩ (.slice A6 (k + 1) c6)) := hB6.grown (grown_set _ _ _) (Nat.le_trans hN hB6.size) (fun j hj => by have e : g = j := Option.some.inj hj; omega)
                have hIC : In N0 g C b := hI.sub (m := b) hsbC (fun h => by omega) (fun h => hRb4.plain h)
                have hRb7 : Rb (w6.setCell ⟨g, 1, none⟩ (.slice A6 (k + 1) c6)) C b := by
                  have h1 : Below N0 w4 (w6.setCell ⟨g, 1, none⟩ (.slice A6 (k + 1) c6)) := by
                    have h45 : Below N0 w4 w5 := hb5.mono hs4
                    have h46 : Below N0 w4 w6 := ((h45.alloc hs5 (.cells #[strv nm, strv tv] 73)).drew).grown hgr6 hsz5 (fun j hj => (hfv5.lt j hj).1)
                    exact h46.grown (grown_set _ _ _) (Nat.le_trans hs4 h46.size) (fun j hj => by have e : g = j := Option.some.inj hj; omega)
                  exact hRb4.belowIn h1 hIC
                clear hR6 hown7 hB6 hIC hbl hat6 hgr6
                go_wp2_with fail
                go_ret
                exact ⟨by unfold FieldOut; rw [HP2.out]; exact ⟨rfl, C, c', _, hR8, hRb7, hbc, hplC, hsbC, by rw [fcells_snoc]; exact hown8, hxg⟩, hB7⟩
        · have hp : fieldP k line l = .error 3 := by
            unfold fieldP
            rw [hC.out]
            simp only [hnm, if_true, hk2, if_false, hval]
          have HP := Lib.hid hp
          clear hp hval
          go_wp2_with fail
          go_ret
          exact ⟨by unfold FieldOut; rw [HP.out]; rfl, hB4⟩
end Fd
end Go.Proofs.YtkllecicddfjpaaGreatDoor

namespace Go.Proofs.YtkllecicddfjpaaGreatDoor
namespace Fd
set_option linter.unusedVariables false
set_option linter.unusedSimpArgs false
open Go.RowKit

/-- all right, and not too many -/
def rightF (fs : List (List UInt8 × List UInt8)) : Bool := fs.all fun p => nmOk p.1 && vlOk p.2
/-- fields as they lie -/
def Rf (w : World) (A : Option Addr) (fs : List (List UInt8 × List UInt8)) : Prop := Rv w A (fcells fs)
theorem fcells_get {fs : List (List UInt8 × List UInt8)} {k : Nat} {p : List UInt8 × List UInt8} (h : fs[k]? = some p) : (fcells fs)[2 * k]? = some (strv p.1) ∧ (fcells fs)[2 * k + 1]? = some (strv p.2) := by
  induction fs generalizing k with
  | nil => simp at h
  | cons q fs ih =>
    have e : fcells (q :: fs) = strv q.1 :: strv q.2 :: fcells fs := rfl
    match k, h with
    | 0, h =>
      simp at h
      subst h
      exact ⟨rfl, rfl⟩
    | k + 1, h =>
      have := ih (k := k) (by simpa using h)
      rw [e, show 2 * (k + 1) = 2 * k + 1 + 1 by omega]
      exact this
theorem Rf.one {w : World} {A : Option Addr} {fs : List (List UInt8 × List UInt8)} (h : Rf w A fs) {k : Nat} (hk : k < fs.length) :
    ∃ b o p, A = some ⟨b, o, none⟩ ∧ Hid (fs[k]? = some p) ∧ w.cell? ⟨b, o + k * 2, none⟩ = some (.string (bs p.1)) ∧ w.cell? ⟨b, o + k * 2 + 1, none⟩ = some (.string (bs p.2)) := by
  obtain ⟨b, o, rfl, hc⟩ := h (by rw [fcells_len]; omega)
  obtain ⟨p, hp⟩ : ∃ p, fs[k]? = some p := ⟨_, List.getElem?_eq_getElem hk⟩
  obtain ⟨h1, h2⟩ := fcells_get hp
  refine ⟨b, o, p, rfl, Lib.hid hp, ?_, ?_⟩
  · have := hc _ _ h1
    rwa [show o + 2 * k = o + k * 2 by omega] at this
  · have := hc _ _ h2
    rwa [show o + (2 * k + 1) = o + k * 2 + 1 by omega] at this
theorem Rf.below {w w1 : World} {A : Option Addr} {fs : List (List UInt8 × List UInt8)} (h : Rf w A fs) (hb : Below w.heap.size w w1) : Rf w1 A fs := Rv.below h hb


set_option maxRecDepth 100000 in
set_option maxHeartbeats 2000000 in
theorem samef_any (A B : Option Addr) (fs : List (List UInt8 × List UInt8)) (n c d : Nat) (w : World) (hn : fs.length = n) (hA : Rf w A fs) (hB : Rf w B fs) (hb : n ≤ 1000000) :
    Calls Tryz.prog 21 #[.slice A n c, .slice B n d] w fun e w' => e = .returned (.bool true) ∧ Dn w w' := by
  have HN := Lib.hid hn
  clear hn
  go_enter Tryz.func21, Tryz.ntmps21
  go_wp2_with fail
  go_loopw [5] (fun i wr => ∃ k : Nat, i = .int .i64 k ∧ k ≤ n ∧ Dn w wr) (fun i _ => n - (intOf i).toNat)
  case atStart => exact ⟨0, rfl, by omega, Dn.refl _⟩
  case round =>
    obtain ⟨k, rfl, hk, hd⟩ := hrel
    by_cases hlt : k < n
    · obtain ⟨b, o, p, rfl, hp, h0, h1⟩ := (hA.below (hd.below _)).one (k := k) (by rw [HN.out]; exact hlt)
      obtain ⟨b', o', p', rfl, hp', h0', h1'⟩ := (hB.below (hd.below _)).one (k := k) (by rw [HN.out]; exact hlt)
      obtain rfl : p' = p := Option.some.inj (hp'.out.symm.trans hp.out)
      go_wp2_with fail
      go_quiet (fail)
      go_wp2_with fail
      go_roundw
      case rel => exact ⟨k + 1, by go_num, by omega, by first | exact hd.drewN _ | exact hd.drew | exact hd⟩
      case measure => simp [intOf]; omega
    · go_wp2_with fail
      go_ret
      exact ⟨rfl, hd⟩
end Fd
end Go.Proofs.YtkllecicddfjpaaGreatDoor

namespace Go.Proofs.YtkllecicddfjpaaGreatDoor
namespace Fd
set_option linter.unusedVariables false
set_option linter.unusedSimpArgs false
open Go.RowKit

theorem fsame2_any (a b : List UInt8) (w : World) (hT : Lib.Utf8Tabs 2 3 w) (hb : b.length ≤ 1000000000) :
    Calls Tryz.prog 160 #[.string (bs a), .string (bs b)] w fun e w' => e = .returned (.bool (sameN a b)) ∧ Below w.heap.size w w' := by
  by_cases hl : a.length = b.length
  · exact fsame_any a b w hT (by omega) hb
  · have hno := Lib.hid (sameN_len hl)
    have hbb : ((a.length : Int) != (b.length : Int)) = true := by rw [bne_iff_ne]; omega
    go_enter Tryz.func160, Tryz.ntmps160
    go_wp2_with fail
    go_ret
    exact ⟨ret_bool hno.out.symm, Below.refl _ _⟩
theorem rsame2_any (a b : List UInt8) (w : World) (hb : b.length ≤ 1000000000) :
    Calls Tryz.prog 164 #[.string (bs a), .string (bs b)] w fun e w' => e = .returned (.bool (sameN a b)) ∧ Dn w w' := by
  by_cases hl : a.length = b.length
  · exact rsame_any a b w (by omega) hb
  · have hno := Lib.hid (sameN_len hl)
    have hbb : ((a.length : Int) != (b.length : Int)) = true := by rw [bne_iff_ne]; omega
    go_enter Tryz.func164, Tryz.ntmps164
    go_wp2_with fail
    go_ret
    exact ⟨ret_bool hno.out.symm, Dn.refl _⟩

/-- the test of a name, whose box is block B -/
def hasV (B : Nat) : Value := .func (.func 159) #[] #[.pointer (some ⟨B, 0, none⟩)]
theorem named_any (nm : List UInt8) (w : World) :
    Calls Tryz.prog 89 #[.string (bs nm)] w fun e w' => e = .returned (hasV w.heap.size) ∧ w' = w.alloc (.cells #[.string (bs nm)] 9) := by
  go_enter Tryz.func89, Tryz.ntmps89
  go_wp2_with fail
  go_ret
  exact ⟨rfl, rfl⟩
theorem eg_named : ∀ args w, (callFunc 159 args).run Tryz.prog w = .ok (.enter 159 args) w := enters_of Tryz.func159 (by kernel_rfl) rfl
theorem named1_any (p : List UInt8 × List UInt8) (nm : List UInt8) (B : Nat) (w : World) (hT : Lib.Utf8Tabs 2 3 w) (hc : w.cell? ⟨B, 0, none⟩ = some (.string (bs nm))) (hn : nm.length ≤ 1000000000) :
    Calls Tryz.prog 159 #[.agg #[.string (bs p.1), .string (bs p.2)], .pointer (some ⟨B, 0, none⟩)] w fun e w' => e = .returned (.bool (sameN p.1 nm)) ∧ Below w.heap.size w w' := by
  have hA0 : Below w.heap.size w (w.alloc (.cells #[.string (bs p.1), .string (bs p.2)] 73)) := (Below.refl _ _).alloc (Nat.le_refl _) _
  have hc2 : (w.alloc (.cells #[.string (bs p.1), .string (bs p.2)] 73)).cell? ⟨B, 0, none⟩ = some (.string (bs nm)) := (hA0.cell (p := ⟨B, 0, none⟩) (cell_lt hc)).trans hc
  have hT2 := tabs_below hT hA0
  go_enter Tryz.func159, Tryz.ntmps159
  go_wp2_with fail
  refine (fsame2_any p.1 nm _ hT2 hn).mono ?_
  rintro e w2 ⟨rfl, hb2⟩
  go_wp2_with fail
  go_ret
  exact ⟨rfl, hA0.trans (hb2.mono hA0.size)⟩

/-- how many stand ahead of the first one of a name -/
def ahead (nm : List UInt8) (fs : List (List UInt8 × List UInt8)) : Nat := (fs.takeWhile fun p => !sameN p.1 nm).length
theorem ahead_hit {nm : List UInt8} {p : List UInt8 × List UInt8} : ∀ {fs : List (List UInt8 × List UInt8)} {k : Nat}, (∀ q ∈ fs.take k, sameN q.1 nm = false) → fs[k]? = some p → sameN p.1 nm = true → ahead nm fs = k
  | [], k, _, h, _ => by simp at h
  | q :: fs, 0, _, h, hs => by
    simp at h
    subst h
    simp [ahead, hs]
  | q :: fs, k + 1, ha, h, hs => by
    have h1 : sameN q.1 nm = false := ha q (by simp)
    have ih := ahead_hit (fs := fs) (k := k) (fun x hx => ha x (by simp [hx])) (by simpa using h) hs
    unfold ahead at ih ⊢
    simp [List.takeWhile_cons, h1, ih]
theorem ahead_none {nm : List UInt8} {fs : List (List UInt8 × List UInt8)} (h : ∀ q ∈ fs, sameN q.1 nm = false) : ahead nm fs = fs.length := by
  unfold ahead
  induction fs with
  | nil => rfl
  | cons q fs ih =>
    have h1 := h q (by simp)
    simp [List.takeWhile_cons, h1, ih (fun x hx => h x (by simp [hx]))]
theorem ahead_le (nm : List UInt8) (fs : List (List UInt8 × List UInt8)) : ahead nm fs ≤ fs.length := (List.takeWhile_sublist _).length_le
/-- the place, or -1 -/
def placeZ (nm : List UInt8) (fs : List (List UInt8 × List UInt8)) : Int := if ahead nm fs < fs.length then (ahead nm fs : Int) else -1

set_option maxRecDepth 100000 in
set_option maxHeartbeats 1000000 in
theorem index_any (A : Option Addr) (fs : List (List UInt8 × List UInt8)) (n c B : Nat) (nm : List UInt8) (w : World) (hn : fs.length = n) (hA : Rf w A fs) (hT : Lib.Utf8Tabs 2 3 w) (hc : w.cell? ⟨B, 0, none⟩ = some (.string (bs nm))) (hnm : nm.length ≤ 1000000000) (hb : n ≤ 1000000) :
    Calls Tryz.prog 88 #[.slice A n c, hasV B] w fun e w' => e = .returned (.int .i64 (placeZ nm fs)) ∧ Below w.heap.size w w' := by
  have HN := Lib.hid hn
  have eg := eg_named
  unfold hasV
  clear hn
  go_enter Tryz.func88, Tryz.ntmps88
  go_wp2_with fail
  go_loopw [8] (fun i wr => ∃ k : Nat, i = .int .i64 k ∧ k ≤ n ∧ Hid (∀ q ∈ fs.take k, sameN q.1 nm = false) ∧ Below w.heap.size w wr) (fun i _ => n - (intOf i).toNat)
  case atStart => exact ⟨0, rfl, by omega, Lib.hid (by simp), Below.refl _ _⟩
  case round =>
    obtain ⟨k, rfl, hk, ha, hB⟩ := hrel
    by_cases hlt : k < n
    · obtain ⟨b, o, p, rfl, hp, h0, h1⟩ := (hA.below hB).one (k := k) (by rw [HN.out]; exact hlt)
      have hcr : wr.cell? ⟨B, 0, none⟩ = some (.string (bs nm)) := (hB.cell (p := ⟨B, 0, none⟩) (cell_lt hc)).trans hc
      have hcall := named1_any p nm B wr (tabs_below hT hB) hcr hnm
      have hHit : sameN p.1 nm = true → Hid (placeZ nm fs = (k : Int)) := fun h => Lib.hid (by
        unfold placeZ
        rw [ahead_hit ha.out hp.out h, if_pos (lt_of_get hp.out)])
      have hMiss : sameN p.1 nm = false → Hid (∀ q ∈ fs.take (k + 1), sameN q.1 nm = false) := fun h => Lib.hid (by
        rw [take_succ_of hp.out]
        intro q hq
        rcases List.mem_append.1 hq with hq | hq
        · exact ha.out q hq
        · simp at hq
          rw [hq]
          exact h)
      cases hs : sameN p.1 nm with
      | true =>
        rw [hs] at hcall
        have HH := hHit hs
        clear hHit hMiss hs
        go_wp2_with fail
        refine hcall.mono ?_
        rintro e w2 ⟨rfl, hb2⟩
        go_wp2_with fail
        go_ret
        exact ⟨ret_int HH.out.symm, hB.trans (hb2.mono hB.size)⟩
      | false =>
        rw [hs] at hcall
        have HH := hMiss hs
        clear hHit hMiss hs
        go_wp2_with fail
        refine hcall.mono ?_
        rintro e w2 ⟨rfl, hb2⟩
        go_wp2_with fail
        go_roundw
        case rel => exact ⟨k + 1, by go_num, by omega, HH, hB.trans (hb2.mono hB.size)⟩
        case measure => simp [intOf]; omega
    · obtain rfl : k = n := by omega
      have hno : placeZ nm fs = -1 := by
        have h := ha.out
        rw [List.take_of_length_le (by rw [HN.out]; omega)] at h
        unfold placeZ
        rw [ahead_none h, if_neg (by omega)]
      have HNO := Lib.hid hno
      clear hno
      go_wp2_with fail
      go_ret
      exact ⟨ret_int HNO.out.symm, hB⟩
end Fd
end Go.Proofs.YtkllecicddfjpaaGreatDoor
