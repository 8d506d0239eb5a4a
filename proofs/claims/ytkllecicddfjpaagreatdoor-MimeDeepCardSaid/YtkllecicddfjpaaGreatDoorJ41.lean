/- A part as a mail: mime's write, at a multipart. -/
import Derived.Test.YtkllecicddfjpaaGreatDoorJ40
namespace Go.Proofs.YtkllecicddfjpaaGreatDoor
set_option linter.unusedVariables false
set_option linter.unusedSimpArgs false
open Go.RowKit

theorem OwnM.setFar {w : World} {base : Nat} {e : TypeId} {size n : Nat} {v : Value} {xs : List Value} (h : OwnM w base e size v n xs) {a : Addr} (hp : a.block < base) (u : Value) : OwnM (w.setCell a u) base e size v n xs := by
  refine ⟨h.1, ?_⟩
  rcases h.2 with hn | ⟨g, cap, cur, fz, hv, hb, hg, rest⟩
  · exact .inl hn
  · exact .inr ⟨g, cap, cur, fz, hv, hb, (Below.heap_setCell w a u g (by omega)).trans hg, rest⟩
theorem leafW_err {kind : List UInt8} {ms : List (List UInt8 × List UInt8)} {code : Int} {l : List UInt8} {k : Nat} (h : leafW kind ms code l = .error k) : 1 ≤ k := by
  unfold leafW at h
  split at h
  · unfold chkM at h
    split at h
    · cases h
    · rename_i k' hk
      cases h
      rcases writeP_err hk with h | h <;> omega
  · cases h
    omega
theorem mailsOf_err {outs : List (Except Nat Mail)} (he : ∀ k, Except.error k ∈ outs → 1 ≤ k) {k : Nat} (h : mailsOf outs = .error k) : 1 ≤ k := by
  induction outs with
  | nil => cases h
  | cons o r ih =>
    cases o with
    | error e =>
      cases h
      exact he _ (by simp)
    | ok m =>
      rw [mailsOf] at h
      cases hr : mailsOf r with
      | error e =>
        rw [hr] at h
        cases h
        exact ih (fun k hk => he k (by simp [hk])) hr
      | ok l => rw [hr] at h; cases h
theorem joinW_err {bd : List UInt8} {outs : List (Except Nat Mail)} {deep : Nat} (he : ∀ k, Except.error k ∈ outs → 1 ≤ k) {k : Nat} (h : joinW bd outs deep = .error k) : 1 ≤ k := by
  unfold joinW at h
  split at h
  · cases h; omega
  · split at h
    · cases h; omega
    · cases hm : mailsOf outs with
      | error e =>
        rw [hm] at h
        cases h
        exact mailsOf_err he hm
      | ok l =>
        rw [hm] at h
        unfold joinG at h
        simp only at h
        split at h
        · cases h
        · cases h; omega
theorem multiW_err {kind : List UInt8} {ms : List (List UInt8 × List UInt8)} {outs : List (Except Nat Mail)} {deep : Nat} (he : ∀ k, Except.error k ∈ outs → 1 ≤ k) {k : Nat} (h : multiW kind ms outs deep = .error k) : 1 ≤ k := by
  unfold multiW at h
  split at h
  · split at h
    · unfold chkM at h
      split at h
      · cases h
      · rename_i k' hk
        cases h
        rcases writeP_err hk with h | h <;> omega
    · rename_i k' hj
      cases h
      exact joinW_err he hj
  · cases h; omega
theorem joinW_len {bd : List UInt8} {outs : List (Except Nat Mail)} {deep : Nat} {b : List UInt8} (hq : outs.length ≤ 10) (hw : ∀ m, .ok m ∈ outs → (mb m).length ≤ 90000) (h : joinW bd outs deep = .ok b) : b.length ≤ 2000000 := by
  unfold joinW at h
  split at h
  · cases h
  · rename_i hx
    have hbd : bd.length ≤ 70 := by
      have h2 : bdOk bd = true := by
        cases hb : bdOk bd with
        | true => rfl
        | false => exact absurd (.inr hb) hx
      unfold bdOk at h2
      simp only [Bool.and_eq_true, decide_eq_true_eq] at h2
      exact h2.1.2
    split at h
    · cases h
    · cases hm : mailsOf outs with
      | error e => rw [hm] at h; cases h
      | ok l =>
        rw [hm] at h
        unfold joinG at h
        simp only at h
        split at h
        · cases h
          have h1 := bldJ_len bd 90000 l (fun p hp => by
            obtain ⟨m, hm1, rfl⟩ := mailsOf_mem hm p hp
            exact hw m hm1)
          have h2 := mailsOf_len hm
          unfold bodyJ
          simp only [List.length_append, List.length_cons, List.length_nil]
          have h3 : l.length * (bd.length + (90000 + 6)) ≤ 10 * (70 + 90006) := Nat.mul_le_mul (by omega) (by omega)
          omega
        · cases h

set_option maxRecDepth 100000 in
set_option maxHeartbeats 4000000 in
theorem wmulti_any (kind : List UInt8) (ms : List (List UInt8 × List UInt8)) (A : Option Addr) (n c : Nat) (B : Option Addr) (cb : Nat) (C : Option Addr) (nq cc deep : Nat) (ps : List Pv) (outs : List (Except Nat Mail)) (w : World) (hG : Gm w)
    (hk : kind.length ≤ 1000) (hmul : Lib.hasPrefix kind mulN = true) (hn : ms.length = n) (hn2 : n ≤ 20) (hp : ∀ p ∈ ms, p.1.length ≤ 2000000 ∧ p.2.length ≤ 2000000) (hA : Rv w A (Tk.pcells ms)) (hlo : ∀ p ∈ ms, Tk.onlyB Tk.loc' p.2 = true) (hbd : (paramP ms bdN).length ≤ 1000000)
    (hq : ps.length = nq) (ho : outs.length = nq) (hq2 : nq ≤ 10) (hC : Rv w C (pvs ps)) (hd : deep ≤ 100)
    (H : ∀ (j : Nat) (p : Pv) (o : Except Nat Mail), ps[j]? = some p → outs[j]? = some o → ∀ W, Below w.heap.size w W → Calls Tryz.prog 31 #[p.val, .int .i64 ((deep : Int) + 1)] W fun e W' => WOut o W' e ∧ Below W.heap.size W W')
    (hk0 : ∀ k, Except.error k ∈ outs → 1 ≤ k) (hw : ∀ m, .ok m ∈ outs → Fd.writeP m.1 m.2 = .ok (mb m) ∧ (mb m).length ≤ 90000) :
    Calls Tryz.prog 31 #[.agg #[.string (bs kind), .slice A n c, .int .i64 0, .slice B 0 cb, .slice C nq cc], .int .i64 (deep : Int)] w fun e w' => WOut (multiW kind ms outs deep) w' e ∧ Below w.heap.size w w' := by
  have HN := Lib.hid hn
  have hpre := prefM kind
  rw [hmul] at hpre
  have hB00 : Below w.heap.size w (w.alloc (.cells #[.string (bs kind), .slice A n c, .int .i64 0, .slice B 0 cb, .slice C nq cc] 34)) := (Below.refl _ _).alloc (Nat.le_refl _) _
  have hB0 : Below w.heap.size w ((w.alloc (.cells #[.string (bs kind), .slice A n c, .int .i64 0, .slice B 0 cb, .slice C nq cc] 34)).alloc (.cells #[.slice none 0 0, .slice none 0 0] 39)) := hB00.alloc hB00.size _
  have rp := (Row.new w #[.string (bs kind), .slice A n c, .int .i64 0, .slice B 0 cb, .slice C nq cc] 34).below ((Below.refl _ (w.alloc (.cells #[.string (bs kind), .slice A n c, .int .i64 0, .slice B 0 cb, .slice C nq cc] 34))).alloc (Nat.le_refl _) (.cells #[.slice none 0 0, .slice none 0 0] 39))
  have rl := Row.new (w.alloc (.cells #[.string (bs kind), .slice A n c, .int .i64 0, .slice B 0 cb, .slice C nq cc] 34)) #[.slice none 0 0, .slice none 0 0] 39
  rw [World.size_alloc] at rl
  have hz0 : w.heap.size + 2 ≤ ((w.alloc (.cells #[.string (bs kind), .slice A n c, .int .i64 0, .slice B 0 cb, .slice C nq cc] 34)).alloc (.cells #[.slice none 0 0, .slice none 0 0] 39)).heap.size := by simp
  go_enter Tryz.func31, Tryz.ntmps31
  go_wp2_with fail
  generalize ((w.alloc (.cells #[.string (bs kind), .slice A n c, .int .i64 0, .slice B 0 cb, .slice C nq cc] 34)).alloc (.cells #[.slice none 0 0, .slice none 0 0] 39)) = W0 at *
  clear hB00
  refine (Tk.write_lite kind ms A n c W0 (hG.below hB0).mx hk HN.out hn2 hp (hA.below hB0) hlo).mono ?_
  rintro e w1 ⟨hwo, hb1⟩
  have hB1 := hB0.trans (hb1.mono hB0.size)
  have rp1 := rp.below hb1
  have rl1 := rl.below hb1
  have hz1 : w.heap.size + 2 ≤ w1.heap.size := Nat.le_trans hz0 hb1.size
  clear rp rl hb1 hB0
  have a0 := rl1.cell (j := 0) rfl
  have a1 := rl1.cell (j := 1) rfl
  have f0 := rl1.frozen 0
  have f1 := rl1.frozen 1
  rcases hwo with ⟨hr, rfl⟩ | ⟨hr, rfl⟩
  · obtain ⟨wr, hwr⟩ : ∃ x, Tk.writeB kind ms = x := ⟨_, rfl⟩
    have hwl := writeB_len kind hk ms hp hlo
    rw [hwr] at hwl ⊢
    rw [HN.out] at hwl
    have HE := Lib.hid (show multiW kind ms outs deep = match joinW (paramP ms bdN) outs deep with | .ok b => chkM ([(ctN, wr)], b) | .error k => .error k by unfold multiW; rw [if_pos hr, hwr]; rfl)
    clear hr hwr
    have hBx : Below w1.heap.size w1 (w1.alloc (.cells #[.string ⟨#[67, 111, 110, 116, 101, 110, 116, 45, 84, 121, 112, 101]⟩, .string (bs wr)] 73)) := (Below.refl _ _).alloc (Nat.le_refl _) _
    have fx := (rl1.below hBx).frozen 0
    have hk00 := (rp1.below hBx).cell (j := 0) rfl
    have hl0 := (rl1.below hBx).cell (j := 0) rfl
    go_wp2_with fail
    refine (Tryz.strings_HasPrefix _ _ _).mono ?_
    rintro e w' ⟨rfl, hw'⟩
    rw [hw', hpre]
    clear hw' hk00 fx hl0
    have rpx := (rp1.below hBx).far (a := ⟨w.heap.size + 1, 0, none⟩) (by simp) (.slice (some ⟨w1.heap.size, 0, none⟩) 1 1)
    have rlx := (rl1.below hBx).set 0 (.slice (some ⟨w1.heap.size, 0, none⟩) 1 1)
    have hox : ((w1.alloc (.cells #[Fd.strv ctN, Fd.strv wr] 73)).setCell ⟨w.heap.size + 1, 0, none⟩ (.slice (some ⟨w1.heap.size, 0, none⟩) 1 1)).ownsRow (w.heap.size + 2) 73 2 (.slice (some ⟨w1.heap.size, 0, none⟩) 1 1) 1 [Fd.strv ctN, Fd.strv wr] :=
      ownsRow_setCell_below (World.ownsRow_lit w1 #[Fd.strv ctN, Fd.strv wr] 1 hz1 (by unfold maxLen; omega) rfl) (by simp) _
    have hBy : Below w.heap.size w ((w1.alloc (.cells #[Fd.strv ctN, Fd.strv wr] 73)).setCell ⟨w.heap.size + 1, 0, none⟩ (.slice (some ⟨w1.heap.size, 0, none⟩) 1 1)) := (hB1.alloc hB1.size _).setCell (by simp) _
    have hzy : w.heap.size + 3 ≤ ((w1.alloc (.cells #[Fd.strv ctN, Fd.strv wr] 73)).setCell ⟨w.heap.size + 1, 0, none⟩ (.slice (some ⟨w1.heap.size, 0, none⟩) 1 1)).heap.size := by simp; omega
    obtain ⟨W2, hW2⟩ : ∃ W, ((w1.alloc (.cells #[Fd.strv ctN, Fd.strv wr] 73)).setCell ⟨w.heap.size + 1, 0, none⟩ (.slice (some ⟨w1.heap.size, 0, none⟩) 1 1)) = W := ⟨_, rfl⟩
    have hW2' : ((w1.alloc (.cells #[.string ⟨#[67, 111, 110, 116, 101, 110, 116, 45, 84, 121, 112, 101]⟩, .string (bs wr)] 73)).setCell ⟨w.heap.size + 1, 0, none⟩ (.slice (some ⟨w1.heap.size, 0, none⟩) 1 1)) = W2 := hW2
    rw [hW2'] at rpx rlx ⊢
    rw [hW2] at hox hBy hzy
    clear hW2 hW2' hBx rp1 rl1 a0 a1 f0 f1
    have q0 := rpx.cell (j := 0) rfl
    have q1 := rpx.cell (j := 1) rfl
    have q2 := rpx.cell (j := 2) rfl
    have q3 := rpx.cell (j := 3) rfl
    have q4 := rpx.cell (j := 4) rfl
    have hjoin := join_any kind ms A n c B cb C nq cc deep ps outs W2 HN.out hn2 (hA.below hBy) hq ho hq2 (hC.below hBy) hbd hd (fun j p o h1 h2 W hW => H j p o h1 h2 W (hBy.trans (hW.mono hBy.size))) hk0 hw
    have hjl := fun b => joinW_len (bd := paramP ms bdN) (deep := deep) (b := b) (by rw [ho]; exact hq2) (fun m hm => (hw m hm).2)
    have hje := fun k => joinW_err (bd := paramP ms bdN) (deep := deep) (k := k) hk0
    clear hn hq ho H hk0 hw hC hA
    go_wp2_with fail
    refine hjoin.mono ?_
    rintro e w8 ⟨hjo, hb8⟩
    have R8 := rlx.below hb8
    have hB8 := hBy.trans (hb8.mono hBy.size)
    have hz8 : w.heap.size + 3 ≤ w8.heap.size := Nat.le_trans hzy hb8.size
    have hownF := own_below hox hb8
    clear q0 q1 q2 q3 q4 rpx rlx hox hjoin
    have k0 := R8.cell (j := 0) rfl
    have k1 := R8.cell (j := 1) rfl
    have kf0 := R8.frozen 0
    have kf := R8.frozen 1
    cases hj : joinW (paramP ms bdN) outs deep with
    | error k =>
      rw [hj] at hjo
      simp only [JOut] at hjo
      subst hjo
      have hk1 := hje k hj
      have HR := Lib.hid (show multiW kind ms outs deep = .error k by rw [HE.out, hj])
      have hkb : ((k : Int) != 0) = true := by rw [bne_iff_ne]; omega
      have hkb2 : ((k : Int) == 0) = false := by rw [beq_eq_false_iff_ne]; omega
      clear hj hje hjl
      go_wp2_with fail
      have rF := ((R8.set 1 (.slice none 0 0)).set 0 (.slice none 0 0)).set 1 (.slice none 0 0)
      have hBF := ((hB8.setCell (p := ⟨w.heap.size + 1, 1, none⟩) (by simp) (.slice none 0 0)).setCell (p := ⟨w.heap.size + 1, 0, none⟩) (by simp) (.slice none 0 0)).setCell (p := ⟨w.heap.size + 1, 1, none⟩) (by simp) (.slice none 0 0)
      have e0 := rF.cell (j := 0) rfl
      have e1 := rF.cell (j := 1) rfl
      exact bodyPost_ret (v := .tuple #[.agg #[.slice none 0 0, .slice none 0 0], .int .i64 (k : Int)]) (by simp [results, Tryz.results31, go_sem, e0, e1]) rfl ⟨wout_err HR.out rfl, hBF⟩
    | ok eb =>
      rw [hj] at hjo
      obtain ⟨v8, rfl, hown8⟩ := hjo
      have HE2 := Lib.hid (show multiW kind ms outs deep = chkM ([(ctN, wr)], eb) by rw [HE.out, hj])
      have hel := hjl eb hj
      obtain ⟨N8, hN8⟩ : ∃ N, eb.length = N := ⟨_, rfl⟩
      have HN8 := Lib.hid hN8
      rw [hN8] at hown8 hel
      obtain ⟨A8, c8, rfl, h8c, h8m, hR8, _, h8n, h8p⟩ := hown8.form
      clear hj hje hjl hN8
      go_wp2_with fail
      have R9 := R8.set 1 (.slice A8 N8 c8)
      have hB9 := hB8.setCell (p := ⟨w.heap.size + 1, 1, none⟩) (by simp) (.slice A8 N8 c8)
      have hF9 := ownsRow_setCell_below hownF (a := ⟨w.heap.size + 1, 1, none⟩) (by simp) (.slice A8 N8 c8)
      have hE9 := (hown8.rebase (b' := w.heap.size + 2) (by omega)).setFar (a := ⟨w.heap.size + 1, 1, none⟩) (by simp) (.slice A8 N8 c8)
      obtain ⟨W9, hW9⟩ : ∃ W, w8.setCell ⟨w.heap.size + 1, 1, none⟩ (.slice A8 N8 c8) = W := ⟨_, rfl⟩
      rw [hW9] at R9 hB9 hF9 hE9 ⊢
      clear hW9 R8 hB8 hz8 hownF hown8 hR8 k0 k1 kf kf0
      refine (Fd.write_any (some ⟨w1.heap.size, 0, none⟩) A8 [(ctN, wr)] eb 1 1 N8 c8 W9 rfl HN8.out (own_rv hF9).1 (own_rvM hE9) (by
        intro p hp
        simp only [List.mem_singleton] at hp
        subst hp
        exact ⟨by simp, by simp only; omega⟩) (by omega) (by omega)).mono ?_
      rintro e w10 ⟨hwm, hb10⟩
      have R10 := R9.below hb10
      have hB10 := hB9.trans (hb10.mono hB9.size)
      have hF10 := own_below hF9 hb10
      have hE10 := hE9.below hb10
      clear R9 hb10 hB9 hF9 hE9
      have k0 := R10.cell (j := 0) rfl
      have k1 := R10.cell (j := 1) rfl
      have kf0 := R10.frozen 0
      have kf1 := R10.frozen 1
      cases hwp : Fd.writeP [(ctN, wr)] eb with
      | error k =>
        rw [hwp] at hwm
        simp only at hwm
        subst hwm
        have HR := Lib.hid (show multiW kind ms outs deep = .error k by rw [HE2.out]; exact chkM_err hwp)
        have hk0 : ((k : Int) != 0) = true := by rw [bne_iff_ne]; rcases writeP_err hwp with h | h <;> omega
        clear hwp
        go_wp2_with fail
        have rF := (R10.set 0 (.slice none 0 0)).set 1 (.slice none 0 0)
        have hBF := (hB10.setCell (p := ⟨w.heap.size + 1, 0, none⟩) (by simp) (.slice none 0 0)).setCell (p := ⟨w.heap.size + 1, 1, none⟩) (by simp) (.slice none 0 0)
        have e0 := rF.cell (j := 0) rfl
        have e1 := rF.cell (j := 1) rfl
        exact bodyPost_ret (v := .tuple #[.agg #[.slice none 0 0, .slice none 0 0], .int .i64 (k : Int)]) (by simp [results, Tryz.results31, go_sem, e0, e1]) rfl ⟨wout_err HR.out rfl, hBF⟩
      | ok b =>
        rw [hwp] at hwm
        simp only at hwm
        obtain ⟨v10, rfl, _⟩ := hwm
        have HR := Lib.hid (show multiW kind ms outs deep = .ok ([(ctN, wr)], eb) by rw [HE2.out]; exact chkM_yes (m := ([(ctN, wr)], eb)) hwp)
        clear hwp
        go_wp2_with fail
        have rF := (R10.set 0 (.slice (some ⟨w1.heap.size, 0, none⟩) 1 1)).set 1 (.slice A8 N8 c8)
        have hBF := (hB10.setCell (p := ⟨w.heap.size + 1, 0, none⟩) (by simp) (.slice (some ⟨w1.heap.size, 0, none⟩) 1 1)).setCell (p := ⟨w.heap.size + 1, 1, none⟩) (by simp) (.slice A8 N8 c8)
        have hFF := ownsRow_setCell_below (ownsRow_setCell_below hF10 (a := ⟨w.heap.size + 1, 0, none⟩) (by simp) (.slice (some ⟨w1.heap.size, 0, none⟩) 1 1)) (a := ⟨w.heap.size + 1, 1, none⟩) (by simp) (.slice A8 N8 c8)
        have hEF := (hE10.setFar (a := ⟨w.heap.size + 1, 0, none⟩) (by simp) (.slice (some ⟨w1.heap.size, 0, none⟩) 1 1)).setFar (a := ⟨w.heap.size + 1, 1, none⟩) (by simp) (.slice A8 N8 c8)
        have e0 := rF.cell (j := 0) rfl
        have e1 := rF.cell (j := 1) rfl
        refine bodyPost_ret (v := .tuple #[.agg #[.slice (some ⟨w1.heap.size, 0, none⟩) 1 1, .slice A8 N8 c8], .int .i64 0]) (by simp [results, Tryz.results31, go_sem, e0, e1]) rfl ⟨?_, hBF⟩
        rw [HR.out]
        exact ⟨some ⟨w1.heap.size, 0, none⟩, 1, A8, c8, by simp only [HN8.out]; rfl, (own_rv hFF).1, own_rvM hEF, by simp only [HN8.out]; exact h8c, h8m, by
          rcases h8p with h | ⟨b, h⟩
          · exact .inl ⟨h, h8n h⟩
          · exact .inr ⟨b, 0, h⟩⟩
  · have HE := Lib.hid (show multiW kind ms outs deep = .error 3 by unfold multiW; rw [if_neg (by rw [hr]; simp)])
    clear hr
    go_wp2_with fail
    have rF := (rl1.set 0 (.slice none 0 0)).set 1 (.slice none 0 0)
    have hBF := (hB1.setCell (p := ⟨w.heap.size + 1, 0, none⟩) (by simp) (.slice none 0 0)).setCell (p := ⟨w.heap.size + 1, 1, none⟩) (by simp) (.slice none 0 0)
    have e0 := rF.cell (j := 0) rfl
    have e1 := rF.cell (j := 1) rfl
    exact bodyPost_ret (v := .tuple #[.agg #[.slice none 0 0, .slice none 0 0], .int .i64 3]) (by simp [results, Tryz.results31, go_sem, e0, e1]) rfl ⟨wout_err HE.out rfl, hBF⟩
end Go.Proofs.YtkllecicddfjpaaGreatDoor
