/- The document's talk: say, anew, starts, Address, command. -/
import Derived.Test.YtddjabjloplhiaaGreatDoorZ5
import Derived.Test.YtddjabjloplhiaaGreatDoorZ3
import Derived.Test.YtddjabjloplhiaaGreatDoorY8
import Derived.Test.YtddjabjloplhiaaGreatDoorU12
namespace Go.Proofs.YtddjabjloplhiaaGreatDoor
set_option linter.unusedVariables false
set_option linter.unusedSimpArgs false
open Go.RowKit

set_option maxHeartbeats 400000 in
theorem say_any (t : Nat) (a0 a1 a2 a4 a5 : Value) (out x : List UInt8) (w : World) (hl : out.length + x.length ≤ 100000000) (h : Row w t 33 [a0, a1, a2, .string (bs out), a4, a5]) :
    Calls Tryz.prog 19 #[.pointer (some ⟨t, 0, none⟩), .string (bs x)] w fun e w' => e = .returned (.tuple #[]) ∧ Row w' t 33 [a0, a1, a2, .string (bs (out ++ x ++ [13, 10])), a4, a5] ∧ Ext (fun k => k = t) w w' := by
  have c3 := h.cell (j := 3) rfl
  have f3 := h.frozen 3
  go_enter Tryz.func19, Tryz.ntmps19
  go_wp2_with fail
  go_end0
  rw [List.append_assoc]
  exact ⟨rfl, h.set 3 _, (Ext.refl (fun k => k = t) w).set ⟨t, 3, none⟩ _ rfl⟩

set_option maxHeartbeats 400000 in
theorem anew_any (t base : Nat) (st : Int) (a0 a1 a2 a3 a4 a5 : Value) (w : World) (hbase : base ≤ w.heap.size) (h : Row w t 33 [a0, a1, a2, a3, a4, a5]) :
    Calls Tryz.prog 16 #[.pointer (some ⟨t, 0, none⟩), .int .i64 st] w fun e w' => e = .returned (.tuple #[]) ∧ ∃ tv, Row w' t 33 [.int .i64 st, .string (bs []), tv, a3, a4, a5] ∧
      OwnM w' base 9 1 tv 0 [] ∧ (∀ k, nb tv k → w.heap.size ≤ k) ∧ Ext (fun k => k = t) w w' := by
  have hpu : ∀ W, Sem.run Tryz.prog (pure #[] : Sem (Array Value)) W = .ok #[] W := fun _ => rfl
  have hst : ∀ a W, Sem.run Tryz.prog (storeCells a []) W = .ok () W := fun _ _ => rfl
  have c0 := h.cell (j := 0) rfl
  have c1 := h.cell (j := 1) rfl
  have c2 := h.cell (j := 2) rfl
  have f0 := h.frozen 0
  have f1 := h.frozen 1
  have f2 := h.frozen 2
  have hlt := h.lt
  go_enter Tryz.func16, Tryz.ntmps16
  go_wp2_with fail
  go_end0
  obtain ⟨w2, hw2⟩ : ∃ w2, (((w.setCell ⟨t, 0, none⟩ (.int .i64 st)).setCell ⟨t, 1, none⟩ (.string ⟨#[]⟩)).setCell ⟨t, 2, none⟩ (.slice (some ⟨w.heap.size, 0, none⟩) 0 0)) = w2 := ⟨_, rfl⟩
  have hr2 : Row w2 t 33 [.int .i64 st, .string (bs []), .slice (some ⟨w.heap.size, 0, none⟩) 0 0, a3, a4, a5] := by
    rw [← hw2]
    exact ((h.set 0 _).set 1 _).set 2 _
  have hx2 : Ext (fun k => k = t) w w2 := by
    rw [← hw2]
    exact (((Ext.refl (fun k => k = t) w).set ⟨t, 0, none⟩ _ rfl).set ⟨t, 1, none⟩ _ rfl).set ⟨t, 2, none⟩ _ rfl
  have hs2 : w2.heap.size = w.heap.size := by
    rw [← hw2]
    simp
  rw [hw2]
  clear hw2
  have h1 := OwnM.of (World.ownsRow_made (base := base) (e := 9) (size := 1) w2 #[] 0 (by omega) (by unfold maxLen; omega) rfl)
  rw [hs2] at h1
  refine ⟨rfl, .slice (some ⟨w.heap.size, 0, none⟩) 0 0, hr2.alloc _, h1, fun k hk => ?_, hx2.alloc _⟩
  have : w.heap.size = k := Option.some.inj hk
  omega

theorem starts_any (l ws : List UInt8) (w : World) (hl : l.length ≤ 1000000) (hws : ws.length ≤ 1000000) :
    Calls Tryz.prog 34 #[.string (bs l), .string (bs ws)] w fun e w' => e = .returned (.bool (stB l ws)) ∧ Below w.heap.size w w' := by
  by_cases h : ws.length ≤ l.length
  · have hi : (ws.length : Int) ≤ (l.length : Int) := by omega
    have hst : stB l ws = ((l.take ws.length).map big == ws) := by
      unfold stB
      rw [Bool.eq_iff_iff]
      simp [h]
    have hbg := fun W => rbig_any (l.take ws.length) W (by simp; omega)
    obtain ⟨u, hu⟩ : ∃ u, (l.take ws.length).map big = u := ⟨_, rfl⟩
    rw [hu] at hbg hst
    rw [hst]
    have h0 : (0 : Int) ≤ (ws.length : Int) := by omega
    clear hst hu h
    go_enter Tryz.func34, Tryz.ntmps34
    go_wp2_with fail
    refine (hbg _).mono ?_
    rintro e w1 ⟨rfl, hb1⟩
    clear hbg
    go_wp2_with fail
    go_ret
    exact ⟨by first | rfl | simp, hb1⟩
  · have hi : ¬ (ws.length : Int) ≤ (l.length : Int) := by omega
    have hst : stB l ws = false := by
      unfold stB
      simp [h]
    rw [hst]
    clear hst h
    go_enter Tryz.func34, Tryz.ntmps34
    go_wp2_with fail
    go_ret
    exact ⟨rfl, Below.refl _ _⟩

set_option maxRecDepth 100000 in
set_option maxHeartbeats 1000000 in
theorem raddress_any (x : List UInt8) (w : World) (hl : x.length ≤ 1000000) :
    Calls Tryz.prog 31 #[.string (bs x)] w fun e w' => (∃ a, e = .returned (.tuple #[.string (bs a), .bool (adrOk x)]) ∧ (adrOk x = true → a = adr x)) ∧ Below w.heap.size w w' := by
  have hxl : (x.length : Int) ≤ 1000000 := by omega
  by_cases h2 : 2 ≤ x.length
  · obtain ⟨c0, hc0⟩ : ∃ c, x[0]? = some c := ⟨_, List.getElem?_eq_getElem (by omega)⟩
    obtain ⟨cl, hcl⟩ : ∃ c, x[x.length - 1]? = some c := ⟨_, List.getElem?_eq_getElem (by omega)⟩
    have hh : x.head? = some c0 := by rw [List.head?_eq_getElem?]; exact hc0
    have hg : x.getLast? = some cl := by rw [List.getLast?_eq_getElem?]; exact hcl
    have hi0 : ∀ W, (Instr.index 9 (.string (bs x)) (.int .i64 0)).run Tryz.prog W = .ok (.int .u8 (c0.toNat : Int)) W := fun W => str_index (P := Tryz.prog) Tryz.underlying9 (k := 0) hc0 .i64 W
    have hi1 : ∀ W, (Instr.index 9 (.string (bs x)) (.int .i64 ((x.length : Int) - 1))).run Tryz.prog W = .ok (.int .u8 (cl.toNat : Int)) W := fun W => by
      rw [show ((x.length : Int) - 1) = ((x.length - 1 : Nat) : Int) by omega]
      exact str_index (P := Tryz.prog) Tryz.underlying9 hcl .i64 W
    have n0 : ((c0.toNat : Int) != 60) = (c0 != 60) := u8_bne c0 60
    have n1 : ((cl.toNat : Int) != 62) = (cl != 62) := u8_bne cl 62
    have hl2 : ¬ (x.length : Int) < 2 := by omega
    by_cases h60 : c0 = 60
    · have hb0 : ((c0.toNat : Int) != 60) = false := by rw [n0, h60]; rfl
      by_cases h62 : cl = 62
      · have hb1 : ((cl.toNat : Int) != 62) = false := by rw [n1, h62]; rfl
        obtain ⟨ha1, ha2⟩ := adr_yes h2 (by rw [hh, h60]) (by rw [hg, h62])
        have hr := fun W => raddr_any (adr x) W (by have := adr_len x; omega)
        obtain ⟨a, ha⟩ : ∃ a, adr x = a := ⟨_, rfl⟩
        rw [ha] at ha1 ha2 hr ⊢
        have hsl : (x.tail.take (x.length - 1 - 1)) = a := by rw [ha1, List.drop_one, show x.length - 1 - 1 = x.length - 2 by omega]
        have hr' : ∀ W, Calls Tryz.prog 55 #[.string (bs (x.tail.take (x.length - 1 - 1)))] W fun e w' => BareOut (addrP a) e ∧ Below W.heap.size W w' := by rw [hsl]; exact hr
        have b0 : (1 : Int) ≤ (x.length : Int) - 1 := by omega
        have b1 : (x.length : Int) - 1 ≤ (x.length : Int) := by omega
        have HSL := Lib.hid hsl
        have HA2 := Lib.hid ha2
        clear ha1 ha2 ha hr hsl hh hg hc0 hcl h60 h62 n0 n1
        unfold BareOut at hr'
        cases hap : addrP a with
        | error k =>
          rw [hap] at hr'
          have hk : ((k : Int) == 0) = false := by
            have := addrP_err hap
            rw [beq_eq_false_iff_ne]
            omega
          have hfin : adrOk x = false := by rw [HA2.out, hap]; rfl
          have HF := Lib.hid hfin
          clear hap hfin
          go_enter Tryz.func31, Tryz.ntmps31
          go_wp2_with fail
          refine (hr' _).mono ?_
          rintro e w1 ⟨rfl, hb⟩
          clear hr'
          go_wp2_with fail
          go_region
          go_wp2_with fail
          go_ret2
          exact ⟨⟨[], by rw [HF.out]; rfl, fun h => by rw [HF.out] at h; cases h⟩, hb.drew⟩
        | ok o =>
          rw [hap] at hr'
          have hfin : adrOk x = (o == a) := by rw [HA2.out, hap]; rfl
          have HF := Lib.hid hfin
          clear hap hfin
          go_enter Tryz.func31, Tryz.ntmps31
          go_wp2_with fail
          refine (hr' _).mono ?_
          rintro e w1 ⟨rfl, hb⟩
          clear hr'
          go_wp2_with fail
          go_region
          go_wp2_with fail
          go_ret2
          refine ⟨⟨o, ?_, fun h => by rw [HF.out] at h; exact beq_iff_eq.1 h⟩, hb.drew⟩
          rw [HF.out, ← HSL.out]
          rfl
      · have hb1 : ((cl.toNat : Int) != 62) = true := by rw [n1]; simp [h62]
        have hfin : adrOk x = false := adr_no (.inr (.inr (by rw [hg]; simpa using h62)))
        have HF := Lib.hid hfin
        clear n0 n1 hfin hh hg hc0 hcl h60 h62
        go_enter Tryz.func31, Tryz.ntmps31
        go_wp2_with fail
        go_ret2
        exact ⟨⟨[], by rw [HF.out]; rfl, fun h => by rw [HF.out] at h; cases h⟩, Below.refl _ _⟩
    · have hb0 : ((c0.toNat : Int) != 60) = true := by rw [n0]; simp [h60]
      have hfin : adrOk x = false := adr_no (.inr (.inl (by rw [hh]; simpa using h60)))
      have HF := Lib.hid hfin
      clear n0 n1 hfin hh hg hc0 hcl h60
      go_enter Tryz.func31, Tryz.ntmps31
      go_wp2_with fail
      go_ret2
      exact ⟨⟨[], by rw [HF.out]; rfl, fun h => by rw [HF.out] at h; cases h⟩, Below.refl _ _⟩
  · have hl2 : (x.length : Int) < 2 := by omega
    have hfin : adrOk x = false := adr_no (.inl (by omega))
    have HF := Lib.hid hfin
    clear hfin h2
    go_enter Tryz.func31, Tryz.ntmps31
    go_wp2_with fail
    go_ret2
    exact ⟨⟨[], by rw [HF.out]; rfl, fun h => by rw [HF.out] at h; cases h⟩, Below.refl _ _⟩

/-- what the document's command leaves -/
def RcOut (t base : Nat) (r : List UInt8 × Ps) (s : Ps) (out : List UInt8) (tv mv : Value) (w : World) (e : Ending) (w' : World) : Prop :=
  e = .returned (.bool (decide (r.2.st = 4))) ∧ (∃ (s' : Ps) (tv' : Value), Row w' t 33 [.int .i64 s'.st, .string (bs s'.frm), tv', .string (bs (out ++ r.1 ++ [13, 10])), mv, .bool (decide (r.2.st = 5))] ∧
    OwnM w' base 9 1 tv' s'.tos.length (s'.tos.map sv) ∧ (r.2.st < 4 → s' = r.2) ∧ (4 ≤ r.2.st → s' = s) ∧ (∀ k, nb tv' k → nb tv k ∨ w.heap.size ≤ k)) ∧ Ext (fun k => k = t ∨ nb tv k) w w'

end Go.Proofs.YtddjabjloplhiaaGreatDoor
