/- The walk of the law, part 32. -/
import Derived.Test.YtkllecicddfjpaaGreatDoorJ31
import Derived.Test.YtkllecicddfjpaaGreatDoorJ25
set_option maxRecDepth 100000
set_option maxHeartbeats 16000000
set_option linter.unusedVariables false
set_option linter.unusedSimpArgs false
namespace Go.Proofs.YtkllecicddfjpaaGreatDoor
section
open Go.RowKit
theorem OwnM.setFar {w : World} {base : Nat} {e : TypeId} {size n : Nat} {v : Value} {xs : List Value} (h : OwnM w base e size v n xs) {a : Addr} (hp : a.block < base) (u : Value) : OwnM (w.setCell a u) base e size v n xs := by
 refine ⟨h.1,?_⟩
 rcases h.2 with hn | ⟨g,cap,cur,fz,hv,hb,hg,rest⟩
 ·exact .inl hn
 ·exact .inr ⟨g,cap,cur,fz,hv,hb,(Below.heap_setCell w a u g (by omega)).trans hg,rest⟩
theorem leafW_err {kind : List UInt8} {ms : List (List UInt8 × List UInt8)} {code : Int} {l : List UInt8} {k : Nat} (h : leafW kind ms code l = .error k) : 1 ≤ k := by
 unfold leafW at h
 split at h
 ·unfold chkM at h
  split at h
  ·cases h
  ·rename_i k' hk
   cases h
   rcases writeP_err hk with h | h <;> omega
 ·cases h
  omega
theorem mailsOf_err {outs : List (Except Nat Mail)} (he : ∀ k,Except.error k ∈ outs → 1 ≤ k) {k : Nat} (h : mailsOf outs = .error k) : 1 ≤ k := by
 induction outs with
 | nil => cases h
 | cons o r ih =>
   cases o with
   | error e =>
     cases h
     exact he _ (by simp)
   | ok m =>
     rw [mailsOf] at h
     cases hr : mailsOf r with
     | error e =>
       rw [hr] at h
       cases h
       exact ih (fun k hk => he k (by simp [hk])) hr
     | ok l => rw [hr] at h; cases h
theorem joinW_err {bd : List UInt8} {outs : List (Except Nat Mail)} {deep : Nat} (he : ∀ k,Except.error k ∈ outs → 1 ≤ k) {k : Nat} (h : joinW bd outs deep = .error k) : 1 ≤ k := by
 unfold joinW at h
 split at h
 ·cases h; omega
 ·split at h
  ·cases h; omega
  ·cases hm : mailsOf outs with
   | error e =>
     rw [hm] at h
     cases h
     exact mailsOf_err he hm
   | ok l =>
     rw [hm] at h
     unfold joinG at h
     simp only at h
     split at h
     ·cases h
     ·cases h; omega
theorem multiW_err {kind : List UInt8} {ms : List (List UInt8 × List UInt8)} {outs : List (Except Nat Mail)} {deep : Nat} (he : ∀ k,Except.error k ∈ outs → 1 ≤ k) {k : Nat} (h : multiW kind ms outs deep = .error k) : 1 ≤ k := by
 unfold multiW at h
 split at h
 ·split at h
  ·unfold chkM at h
   split at h
   ·cases h
   ·rename_i k' hk
    cases h
    rcases writeP_err hk with h | h <;> omega
  ·rename_i k' hj
   cases h
   exact joinW_err he hj
 ·cases h; omega
theorem joinW_len {bd : List UInt8} {outs : List (Except Nat Mail)} {deep : Nat} {b : List UInt8} (hq : outs.length ≤ 10) (hw : ∀ m,.ok m ∈ outs → (mb m).length ≤ 90000) (h : joinW bd outs deep = .ok b) : b.length ≤ 2000000 := by
 unfold joinW at h
 split at h
 ·cases h
 ·rename_i hx
  have hbd : bd.length ≤ 70 := by
   have h2 : bdOk bd = true := by
    cases hb : bdOk bd with
    | true => rfl
    | false => exact absurd (.inr hb) hx
   unfold bdOk at h2
   simp only [Bool.and_eq_true,decide_eq_true_eq] at h2
   exact h2.1.2
  split at h
  ·cases h
  ·cases hm : mailsOf outs with
   | error e => rw [hm] at h; cases h
   | ok l =>
     rw [hm] at h
     unfold joinG at h
     simp only at h
     split at h
     ·cases h
      have h1 := bldJ_len bd 90000 l (fun p hp => by
       obtain ⟨m,hm1,rfl⟩ := mailsOf_mem hm p hp
       exact hw m hm1)
      have h2 := mailsOf_len hm
      unfold bodyJ
      simp only [List.length_append,List.length_cons,List.length_nil]
      have h3 : l.length * (bd.length + (90000 + 6)) ≤ 10 * (70 + 90006) := Nat.mul_le_mul (by omega) (by omega)
      omega
     ·cases h
theorem wmulti_any (kind : List UInt8) (ms : List (List UInt8 × List UInt8)) (A : Option Addr) (n c : Nat) (B : Option Addr) (cb : Nat) (C : Option Addr) (nq cc deep : Nat) (ps : List Pv) (outs : List (Except Nat Mail)) (w : World) (hG : Gm w)
 (hk : kind.length ≤ 1000) (hmul : Lib.hasPrefix kind mulN = true) (hn : ms.length = n) (hn2 : n ≤ 20) (hp : ∀ p ∈ ms,p.1.length ≤ 2000000 ∧ p.2.length ≤ 2000000) (hA : Rv w A (Tk.pcells ms)) (hlo : ∀ p ∈ ms,Tk.onlyB Tk.loc' p.2 = true) (hbd : (paramP ms bdN).length ≤ 1000000)
 (hq : ps.length = nq) (ho : outs.length = nq) (hq2 : nq ≤ 10) (hC : Rv w C (pvs ps)) (hd : deep ≤ 100)
 (H : ∀ (j : Nat) (p : Pv) (o : Except Nat Mail),ps[j]? = some p → outs[j]? = some o → ∀ W,Below w.heap.size w W → Calls Tryz.prog 31 #[p.val,.int .i64 ((deep : Int) + 1)] W fun e W' => WOut o W' e ∧ Below W.heap.size W W')
 (hk0 : ∀ k,Except.error k ∈ outs → 1 ≤ k) (hw : ∀ m,.ok m ∈ outs → Fd.writeP m.1 m.2 = .ok (mb m) ∧ (mb m).length ≤ 90000) :
 Calls Tryz.prog 31 #[.agg #[.string (bs kind),.slice A n c,.int .i64 0,.slice B 0 cb,.slice C nq cc],.int .i64 (deep : Int)] w fun e w' => WOut (multiW kind ms outs deep) w' e ∧ Below w.heap.size w w' := by
 have HN := Lib.hid hn
 have hpre := prefM kind
 rw [hmul] at hpre
 have hB00 : Below w.heap.size w (w.alloc (.cells #[.string (bs kind),.slice A n c,.int .i64 0,.slice B 0 cb,.slice C nq cc] 34)) := (Below.refl _ _).alloc (Nat.le_refl _) _
 have hB0 : Below w.heap.size w ((w.alloc (.cells #[.string (bs kind),.slice A n c,.int .i64 0,.slice B 0 cb,.slice C nq cc] 34)).alloc (.cells #[.slice none 0 0,.slice none 0 0] 39)) := hB00.alloc hB00.size _
 have rp := (Row.new w #[.string (bs kind),.slice A n c,.int .i64 0,.slice B 0 cb,.slice C nq cc] 34).below ((Below.refl _ (w.alloc (.cells #[.string (bs kind),.slice A n c,.int .i64 0,.slice B 0 cb,.slice C nq cc] 34))).alloc (Nat.le_refl _) (.cells #[.slice none 0 0,.slice none 0 0] 39))
 have rl := Row.new (w.alloc (.cells #[.string (bs kind),.slice A n c,.int .i64 0,.slice B 0 cb,.slice C nq cc] 34)) #[.slice none 0 0,.slice none 0 0] 39
 rw [World.size_alloc] at rl
 have hz0 : w.heap.size + 2 ≤ ((w.alloc (.cells #[.string (bs kind),.slice A n c,.int .i64 0,.slice B 0 cb,.slice C nq cc] 34)).alloc (.cells #[.slice none 0 0,.slice none 0 0] 39)).heap.size := by simp
 go_enter Tryz.func31,Tryz.ntmps31
 go_wp2_with fail
 generalize ((w.alloc (.cells #[.string (bs kind),.slice A n c,.int .i64 0,.slice B 0 cb,.slice C nq cc] 34)).alloc (.cells #[.slice none 0 0,.slice none 0 0] 39)) = W0 at *
 clear hB00
 refine (Tk.write_lite kind ms A n c W0 (hG.below hB0).mx hk HN.out hn2 hp (hA.below hB0) hlo).mono ?_
 rintro e w1 ⟨hwo,hb1⟩
 have hB1 := hB0.trans (hb1.mono hB0.size)
 have rp1 := rp.below hb1
 have rl1 := rl.below hb1
 have hz1 : w.heap.size + 2 ≤ w1.heap.size := Nat.le_trans hz0 hb1.size
 clear rp rl hb1 hB0
 have a0 := rl1.cell (j := 0) rfl
 have a1 := rl1.cell (j := 1) rfl
 have f0 := rl1.frozen 0
 have f1 := rl1.frozen 1
 rcases hwo with ⟨hr,rfl⟩ | ⟨hr,rfl⟩
 ·obtain ⟨wr,hwr⟩ : ∃ x,Tk.writeB kind ms = x := ⟨_,rfl⟩
  have hwl := writeB_len kind hk ms hp hlo
  rw [hwr] at hwl ⊢
  rw [HN.out] at hwl
  have HE := Lib.hid (show multiW kind ms outs deep = match joinW (paramP ms bdN) outs deep with | .ok b => chkM ([(ctN,wr)],b) | .error k => .error k by unfold multiW; rw [if_pos hr,hwr]; rfl)
  clear hr hwr
  have hBx : Below w1.heap.size w1 (w1.alloc (.cells #[.string ⟨#[67,111,110,116,101,110,116,45,84,121,112,101]⟩,.string (bs wr)] 73)) := (Below.refl _ _).alloc (Nat.le_refl _) _
  have fx := (rl1.below hBx).frozen 0
  have hk00 := (rp1.below hBx).cell (j := 0) rfl
  have hl0 := (rl1.below hBx).cell (j := 0) rfl
  go_wp2_with fail
  refine (Tryz.strings_HasPrefix _ _ _).mono ?_
  rintro e w' ⟨rfl,hw'⟩
  rw [hw',hpre]
  clear hw' hk00 fx hl0
  have rpx := (rp1.below hBx).far (a := ⟨w.heap.size + 1,0,none⟩) (by simp) (.slice (some ⟨w1.heap.size,0,none⟩) 1 1)
  have rlx := (rl1.below hBx).set 0 (.slice (some ⟨w1.heap.size,0,none⟩) 1 1)
  have hox : ((w1.alloc (.cells #[Fd.strv ctN,Fd.strv wr] 73)).setCell ⟨w.heap.size + 1,0,none⟩ (.slice (some ⟨w1.heap.size,0,none⟩) 1 1)).ownsRow (w.heap.size + 2) 73 2 (.slice (some ⟨w1.heap.size,0,none⟩) 1 1) 1 [Fd.strv ctN,Fd.strv wr] :=
   ownsRow_setCell_below (World.ownsRow_lit w1 #[Fd.strv ctN,Fd.strv wr] 1 hz1 (by unfold maxLen; omega) rfl) (by simp) _
  have hBy : Below w.heap.size w ((w1.alloc (.cells #[Fd.strv ctN,Fd.strv wr] 73)).setCell ⟨w.heap.size + 1,0,none⟩ (.slice (some ⟨w1.heap.size,0,none⟩) 1 1)) := (hB1.alloc hB1.size _).setCell (by simp) _
  have hzy : w.heap.size + 3 ≤ ((w1.alloc (.cells #[Fd.strv ctN,Fd.strv wr] 73)).setCell ⟨w.heap.size + 1,0,none⟩ (.slice (some ⟨w1.heap.size,0,none⟩) 1 1)).heap.size := by simp; omega
  obtain ⟨W2,hW2⟩ : ∃ W,((w1.alloc (.cells #[Fd.strv ctN,Fd.strv wr] 73)).setCell ⟨w.heap.size + 1,0,none⟩ (.slice (some ⟨w1.heap.size,0,none⟩) 1 1)) = W := ⟨_,rfl⟩
  have hW2' : ((w1.alloc (.cells #[.string ⟨#[67,111,110,116,101,110,116,45,84,121,112,101]⟩,.string (bs wr)] 73)).setCell ⟨w.heap.size + 1,0,none⟩ (.slice (some ⟨w1.heap.size,0,none⟩) 1 1)) = W2 := hW2
  rw [hW2'] at rpx rlx ⊢
  rw [hW2] at hox hBy hzy
  clear hW2 hW2' hBx rp1 rl1 a0 a1 f0 f1
  have q0 := rpx.cell (j := 0) rfl
  have q1 := rpx.cell (j := 1) rfl
  have q2 := rpx.cell (j := 2) rfl
  have q3 := rpx.cell (j := 3) rfl
  have q4 := rpx.cell (j := 4) rfl
  have hjoin := join_any kind ms A n c B cb C nq cc deep ps outs W2 HN.out hn2 (hA.below hBy) hq ho hq2 (hC.below hBy) hbd hd (fun j p o h1 h2 W hW => H j p o h1 h2 W (hBy.trans (hW.mono hBy.size))) hk0 hw
  have hjl := fun b => joinW_len (bd := paramP ms bdN) (deep := deep) (b := b) (by rw [ho]; exact hq2) (fun m hm => (hw m hm).2)
  have hje := fun k => joinW_err (bd := paramP ms bdN) (deep := deep) (k := k) hk0
  clear hn hq ho H hk0 hw hC hA
  go_wp2_with fail
  refine hjoin.mono ?_
  rintro e w8 ⟨hjo,hb8⟩
  have R8 := rlx.below hb8
  have hB8 := hBy.trans (hb8.mono hBy.size)
  have hz8 : w.heap.size + 3 ≤ w8.heap.size := Nat.le_trans hzy hb8.size
  have hownF := own_below hox hb8
  clear q0 q1 q2 q3 q4 rpx rlx hox hjoin
  have k0 := R8.cell (j := 0) rfl
  have k1 := R8.cell (j := 1) rfl
  have kf0 := R8.frozen 0
  have kf := R8.frozen 1
  cases hj : joinW (paramP ms bdN) outs deep with
  | error k =>
    rw [hj] at hjo
    simp only [JOut] at hjo
    subst hjo
    have hk1 := hje k hj
    have HR := Lib.hid (show multiW kind ms outs deep = .error k by rw [HE.out,hj])
    have hkb : ((k : Int) != 0) = true := by rw [bne_iff_ne]; omega
    have hkb2 : ((k : Int) == 0) = false := by rw [beq_eq_false_iff_ne]; omega
    clear hj hje hjl
    go_wp2_with fail
    have rF := ((R8.set 1 (.slice none 0 0)).set 0 (.slice none 0 0)).set 1 (.slice none 0 0)
    have hBF := ((hB8.setCell (p := ⟨w.heap.size + 1,1,none⟩) (by simp) (.slice none 0 0)).setCell (p := ⟨w.heap.size + 1,0,none⟩) (by simp) (.slice none 0 0)).setCell (p := ⟨w.heap.size + 1,1,none⟩) (by simp) (.slice none 0 0)
    have e0 := rF.cell (j := 0) rfl
    have e1 := rF.cell (j := 1) rfl
    exact bodyPost_ret (v := .tuple #[.agg #[.slice none 0 0,.slice none 0 0],.int .i64 (k : Int)]) (by simp [results,Tryz.results31,go_sem,e0,e1]) rfl ⟨wout_err HR.out rfl,hBF⟩
  | ok eb =>
    rw [hj] at hjo
    obtain ⟨v8,rfl,hown8⟩ := hjo
    have HE2 := Lib.hid (show multiW kind ms outs deep = chkM ([(ctN,wr)],eb) by rw [HE.out,hj])
    have hel := hjl eb hj
    obtain ⟨N8,hN8⟩ : ∃ N,eb.length = N := ⟨_,rfl⟩
    have HN8 := Lib.hid hN8
    rw [hN8] at hown8 hel
    obtain ⟨A8,c8,rfl,h8c,h8m,hR8,_,h8n,h8p⟩ := hown8.form
    clear hj hje hjl hN8
    go_wp2_with fail
    have R9 := R8.set 1 (.slice A8 N8 c8)
    have hB9 := hB8.setCell (p := ⟨w.heap.size + 1,1,none⟩) (by simp) (.slice A8 N8 c8)
    have hF9 := ownsRow_setCell_below hownF (a := ⟨w.heap.size + 1,1,none⟩) (by simp) (.slice A8 N8 c8)
    have hE9 := (hown8.rebase (b' := w.heap.size + 2) (by omega)).setFar (a := ⟨w.heap.size + 1,1,none⟩) (by simp) (.slice A8 N8 c8)
    obtain ⟨W9,hW9⟩ : ∃ W,w8.setCell ⟨w.heap.size + 1,1,none⟩ (.slice A8 N8 c8) = W := ⟨_,rfl⟩
    rw [hW9] at R9 hB9 hF9 hE9 ⊢
    clear hW9 R8 hB8 hz8 hownF hown8 hR8 k0 k1 kf kf0
    refine (Fd.write_any (some ⟨w1.heap.size,0,none⟩) A8 [(ctN,wr)] eb 1 1 N8 c8 W9 rfl HN8.out (own_rv hF9).1 (own_rvM hE9) (by
     intro p hp
     simp only [List.mem_singleton] at hp
     subst hp
     exact ⟨by simp,by simp only; omega⟩) (by omega) (by omega)).mono ?_
    rintro e w10 ⟨hwm,hb10⟩
    have R10 := R9.below hb10
    have hB10 := hB9.trans (hb10.mono hB9.size)
    have hF10 := own_below hF9 hb10
    have hE10 := hE9.below hb10
    clear R9 hb10 hB9 hF9 hE9
    have k0 := R10.cell (j := 0) rfl
    have k1 := R10.cell (j := 1) rfl
    have kf0 := R10.frozen 0
    have kf1 := R10.frozen 1
    cases hwp : Fd.writeP [(ctN,wr)] eb with
    | error k =>
      rw [hwp] at hwm
      simp only at hwm
      subst hwm
      have HR := Lib.hid (show multiW kind ms outs deep = .error k by rw [HE2.out]; exact chkM_err hwp)
      have hk0 : ((k : Int) != 0) = true := by rw [bne_iff_ne]; rcases writeP_err hwp with h | h <;> omega
      clear hwp
      go_wp2_with fail
      have rF := (R10.set 0 (.slice none 0 0)).set 1 (.slice none 0 0)
      have hBF := (hB10.setCell (p := ⟨w.heap.size + 1,0,none⟩) (by simp) (.slice none 0 0)).setCell (p := ⟨w.heap.size + 1,1,none⟩) (by simp) (.slice none 0 0)
      have e0 := rF.cell (j := 0) rfl
      have e1 := rF.cell (j := 1) rfl
      exact bodyPost_ret (v := .tuple #[.agg #[.slice none 0 0,.slice none 0 0],.int .i64 (k : Int)]) (by simp [results,Tryz.results31,go_sem,e0,e1]) rfl ⟨wout_err HR.out rfl,hBF⟩
    | ok b =>
      rw [hwp] at hwm
      simp only at hwm
      obtain ⟨v10,rfl,_⟩ := hwm
      have HR := Lib.hid (show multiW kind ms outs deep = .ok ([(ctN,wr)],eb) by rw [HE2.out]; exact chkM_yes (m := ([(ctN,wr)],eb)) hwp)
      clear hwp
      go_wp2_with fail
      have rF := (R10.set 0 (.slice (some ⟨w1.heap.size,0,none⟩) 1 1)).set 1 (.slice A8 N8 c8)
      have hBF := (hB10.setCell (p := ⟨w.heap.size + 1,0,none⟩) (by simp) (.slice (some ⟨w1.heap.size,0,none⟩) 1 1)).setCell (p := ⟨w.heap.size + 1,1,none⟩) (by simp) (.slice A8 N8 c8)
      have hFF := ownsRow_setCell_below (ownsRow_setCell_below hF10 (a := ⟨w.heap.size + 1,0,none⟩) (by simp) (.slice (some ⟨w1.heap.size,0,none⟩) 1 1)) (a := ⟨w.heap.size + 1,1,none⟩) (by simp) (.slice A8 N8 c8)
      have hEF := (hE10.setFar (a := ⟨w.heap.size + 1,0,none⟩) (by simp) (.slice (some ⟨w1.heap.size,0,none⟩) 1 1)).setFar (a := ⟨w.heap.size + 1,1,none⟩) (by simp) (.slice A8 N8 c8)
      have e0 := rF.cell (j := 0) rfl
      have e1 := rF.cell (j := 1) rfl
      refine bodyPost_ret (v := .tuple #[.agg #[.slice (some ⟨w1.heap.size,0,none⟩) 1 1,.slice A8 N8 c8],.int .i64 0]) (by simp [results,Tryz.results31,go_sem,e0,e1]) rfl ⟨?_,hBF⟩
      rw [HR.out]
      exact ⟨some ⟨w1.heap.size,0,none⟩,1,A8,c8,by simp only [HN8.out]; rfl,(own_rv hFF).1,own_rvM hEF,by simp only [HN8.out]; exact h8c,h8m,by
       rcases h8p with h | ⟨b,h⟩
       ·exact .inl ⟨h,h8n h⟩
       ·exact .inr ⟨b,0,h⟩⟩
 ·have HE := Lib.hid (show multiW kind ms outs deep = .error 3 by unfold multiW; rw [if_neg (by rw [hr]; simp)])
  clear hr
  go_wp2_with fail
  have rF := (rl1.set 0 (.slice none 0 0)).set 1 (.slice none 0 0)
  have hBF := (hB1.setCell (p := ⟨w.heap.size + 1,0,none⟩) (by simp) (.slice none 0 0)).setCell (p := ⟨w.heap.size + 1,1,none⟩) (by simp) (.slice none 0 0)
  have e0 := rF.cell (j := 0) rfl
  have e1 := rF.cell (j := 1) rfl
  exact bodyPost_ret (v := .tuple #[.agg #[.slice none 0 0,.slice none 0 0],.int .i64 3]) (by simp [results,Tryz.results31,go_sem,e0,e1]) rfl ⟨wout_err HE.out rfl,hBF⟩
end
section
open Go.RowKit
namespace Pk
def sgn : List UInt8 := [60,62,40,41,34,92]
theorem sgn_ascii : ∀ c ∈ sgn,c.toNat < 128 := by decide
theorem indexRune_err (w : World) :
 Calls Tryz.prog 168 #[.string (bs sgn),.int .i32 65533] w fun e w' => e = .returned (.int .i64 (-1)) ∧ Below w.heap.size w w' := by
 obtain ⟨s,hs⟩ : ∃ s,bs sgn = s := ⟨_,rfl⟩
 have hA : Hid (∀ (i : Nat) (h : i < s.size),(s[i]'h).toNat < 128) := by
  subst hs
  exact Lib.hid fun i h => sgn_ascii _ (bs_mem i h)
 rw [hs]
 clear hs
 go_enter Tryz.func168,Tryz.ntmps168
 go_wp2_with fail
 go_loopg [5,6] s.size (fun g s5 s6 wx => ∃ i : Nat,i + g = s.size ∧ wx = w.iter s i)
 case atStart => exact ⟨0,by omega,rfl⟩
 case round =>
  obtain ⟨i,hig,rfl⟩ := hrel
  cases gk with
  | zero =>
    obtain rfl : i = s.size := by omega
    have hnx := fun ty => run_next_end (P := Tryz.prog) w s s.size ty (by omega)
    go_wp2_with fail
    go_ret
    exact ⟨rfl,(Below.refl _ _).alloc (Nat.le_refl _) _⟩
  | succ g =>
    have hi : i < s.size := by omega
    have ha := hA.out i hi
    have hnx := fun ty => run_next_ascii (P := Tryz.prog) w s i ty hi ha
    have hne : (((s[i]'hi).toNat : Int) == 65533) = false := by rw [beq_eq_false_iff_ne]; omega
    go_wp2_with fail
    go_roundg g
    case measure => omega
    case rel => exact ⟨i + 1,by omega,rfl⟩
theorem indexRune_no (r : Int) (h1 : 128 ≤ r) (h2 : r ≤ 1114111) (h3 : r ≠ 65533) (w : World) :
 Calls Tryz.prog 168 #[.string (bs sgn),.int .i32 r] w fun e w' => e = .returned (.int .i64 (-1)) ∧ Below w.heap.size w w' := by
 have hne : (r == 65533) = false := by simpa using h3
 have hvr : Lib.validRune r = Utf8.valid r := by
  unfold Lib.validRune Utf8.valid
  rw [Bool.eq_iff_iff]
  simp
  omega
 cases hv : Utf8.valid r with
 | false =>
   rw [hv] at hvr
   have HV := Lib.hid hvr
   clear hvr hv
   go_enter Tryz.func168,Tryz.ntmps168
   go_wp2_with fail
   refine (Tryz.utf8_ValidRune r _).mono ?_
   rintro e w' ⟨rfl,hw⟩
   rw [hw,HV.out]
   go_wp2_with fail
   go_ret
   exact ⟨rfl,Below.refl _ _⟩
 | true =>
   rw [hv] at hvr
   obtain ⟨g1,g2,g3⟩ := encode_facts r hv h1
   obtain ⟨l,hl⟩ : ∃ l,Utf8.encode r = bs l := ⟨_,(bs_of _).symm⟩
   rw [hl] at g1 g2 g3
   rw [bs_size] at g1 g2
   have hlast : l.length - 1 < l.length := by omega
   obtain ⟨x,hx⟩ : ∃ x,l[l.length - 1]? = some x := ⟨_,List.getElem?_eq_getElem hlast⟩
   have hx128 : 128 ≤ x.toNat := by
    have h := g3 (by rw [bs_size]; omega)
    rw [bs_at] at h
    simp only [bs_size] at h
    rw [List.getElem?_eq_getElem hlast] at hx
    rw [← Option.some.inj hx]
    exact h
   have HV := Lib.hid hvr
   have hab : ∀ m : List UInt8,(∀ c ∈ m,c ∈ sgn) → Lib.indexByte m x = -1 := fun m hm => indexByte_absent fun h => by
    have := sgn_ascii x (hm x h)
    omega
   have hcv : ∀ W,(convert 21 9 (.int .i32 r)).run Tryz.prog W = .ok (.string (bs l)) W := fun W => by
    rw [run_convert_int_string W _ _ .i32 r (by rw [Tryz.underlying21]; rfl) Tryz.underlying9,hl]
   have hIB : ∀ m : List UInt8,(∀ c ∈ m,c ∈ sgn) → ∀ W,Calls Tryz.prog 179 #[.string (bs m),.int .u8 (x.toNat : Int)] W fun e w' => e = .returned (.int .i64 (-1)) ∧ w' = W := fun m hm W => by
    have h := Tryz.strings_IndexByte (bs m) (x.toNat : Int) W
    have e : ((x.toNat : Int)).toNat.toUInt8 = x := by simp
    rw [e,bs_toList,hab m hm] at h
    exact h
   clear hvr hv g3 hl h3 hab
   rcases (by omega : l.length = 2 ∨ l.length = 3 ∨ l.length = 4) with h4 | h4 | h4
   ·have hsl : sgn.length = 6 := rfl
    have p1 : 1 < (bs sgn).size := by rw [bs_size]; decide
    have p2 : 1 < (bs l).size := by rw [bs_size]; omega
    have hy : (bs l)[1]'p2 = x := by
     rw [bs_at]
     rw [h4,List.getElem?_eq_getElem (by omega)] at hx
     exact Option.some.inj hx
    have ht : ((((bs sgn)[1]'p1).toNat : Int) != (((bs l)[1]'p2).toNat : Int)) = true := by
     rw [bs_at,hy]
     have e : (sgn[1]'(by decide) : UInt8) = 62 := rfl
     rw [e,bne_iff_ne]
     have e2 : ((62 : UInt8).toNat : Int) = 62 := rfl
     omega
    have hI1 := hIB
    rw [← hy] at hI1
    have hwr : IntKind.i64.wrap 2 = 2 := by decide
    have hex : (bs sgn).extract 2 (bs sgn).size = bs (sgn.drop 2) := rfl
    clear hx hlast g1 g2 hIB hy
    go_enter Tryz.func168,Tryz.ntmps168
    go_wp2_with fail
    refine (Tryz.utf8_ValidRune r _).mono ?_
    rintro e w' ⟨rfl,hw⟩
    rw [hw,HV.out]
    go_wp2_with fail
    refine wp_scope_straight ?_
    go_wp2_with fail
    refine wp_loop_rounds 1 ?_
    rw [rounds_succ]
    go_wp2_with fail
    refine wp_scope_straight ?_
    go_wp2_with fail
    go_quiet (fail)
    rename_i nq
    obtain ⟨w2,hw2⟩ : ∃ w2,w.drewN nq = w2 := ⟨_,rfl⟩
    have hb2 : Below w.heap.size w w2 := by rw [← hw2]; exact (Dn.of w nq).below _
    rw [hw2]
    clear hw2
    go_wp2_with fail
    go_quiet ((go_at_call 179; exact Calls.quiet_of_same (hI1 (List.take 4 (List.drop 2 sgn)) (fun c hc => List.mem_of_mem_drop (List.mem_of_mem_take hc)) _)))
    go_wp2_with fail
    simp only [Exit.noGoto,Exit.inBlock,Exit.then]
    go_ret
    exact ⟨rfl,hb2.trans ((Dn.of w2 _).below _)⟩
   ·have hsl : sgn.length = 6 := rfl
    have p1 : 2 < (bs sgn).size := by rw [bs_size]; decide
    have p2 : 2 < (bs l).size := by rw [bs_size]; omega
    have hy : (bs l)[2]'p2 = x := by
     rw [bs_at]
     rw [h4,List.getElem?_eq_getElem (by omega)] at hx
     exact Option.some.inj hx
    have ht : ((((bs sgn)[2]'p1).toNat : Int) != (((bs l)[2]'p2).toNat : Int)) = true := by
     rw [bs_at,hy]
     have e : (sgn[2]'(by decide) : UInt8) = 40 := rfl
     rw [e,bne_iff_ne]
     have e2 : ((40 : UInt8).toNat : Int) = 40 := rfl
     omega
    have hI1 := hIB
    rw [← hy] at hI1
    have hwr : IntKind.i64.wrap 3 = 3 := by decide
    have hex : (bs sgn).extract 3 (bs sgn).size = bs (sgn.drop 3) := rfl
    clear hx hlast g1 g2 hIB hy
    go_enter Tryz.func168,Tryz.ntmps168
    go_wp2_with fail
    refine (Tryz.utf8_ValidRune r _).mono ?_
    rintro e w' ⟨rfl,hw⟩
    rw [hw,HV.out]
    go_wp2_with fail
    refine wp_scope_straight ?_
    go_wp2_with fail
    refine wp_loop_rounds 1 ?_
    rw [rounds_succ]
    go_wp2_with fail
    refine wp_scope_straight ?_
    go_wp2_with fail
    go_quiet (fail)
    rename_i nq
    obtain ⟨w2,hw2⟩ : ∃ w2,w.drewN nq = w2 := ⟨_,rfl⟩
    have hb2 : Below w.heap.size w w2 := by rw [← hw2]; exact (Dn.of w nq).below _
    rw [hw2]
    clear hw2
    go_wp2_with fail
    go_quiet ((go_at_call 179; exact Calls.quiet_of_same (hI1 (List.take 3 (List.drop 3 sgn)) (fun c hc => List.mem_of_mem_drop (List.mem_of_mem_take hc)) _)))
    go_wp2_with fail
    simp only [Exit.noGoto,Exit.inBlock,Exit.then]
    go_ret
    exact ⟨rfl,hb2.trans ((Dn.of w2 _).below _)⟩
   ·have hsl : sgn.length = 6 := rfl
    have p1 : 3 < (bs sgn).size := by rw [bs_size]; decide
    have p2 : 3 < (bs l).size := by rw [bs_size]; omega
    have hy : (bs l)[3]'p2 = x := by
     rw [bs_at]
     rw [h4,List.getElem?_eq_getElem (by omega)] at hx
     exact Option.some.inj hx
    have ht : ((((bs sgn)[3]'p1).toNat : Int) != (((bs l)[3]'p2).toNat : Int)) = true := by
     rw [bs_at,hy]
     have e : (sgn[3]'(by decide) : UInt8) = 41 := rfl
     rw [e,bne_iff_ne]
     have e2 : ((41 : UInt8).toNat : Int) = 41 := rfl
     omega
    have hI1 := hIB
    rw [← hy] at hI1
    have hwr : IntKind.i64.wrap 4 = 4 := by decide
    have hex : (bs sgn).extract 4 (bs sgn).size = bs (sgn.drop 4) := rfl
    clear hx hlast g1 g2 hIB hy
    go_enter Tryz.func168,Tryz.ntmps168
    go_wp2_with fail
    refine (Tryz.utf8_ValidRune r _).mono ?_
    rintro e w' ⟨rfl,hw⟩
    rw [hw,HV.out]
    go_wp2_with fail
    refine wp_scope_straight ?_
    go_wp2_with fail
    refine wp_loop_rounds 1 ?_
    rw [rounds_succ]
    go_wp2_with fail
    refine wp_scope_straight ?_
    go_wp2_with fail
    go_quiet (fail)
    rename_i nq
    obtain ⟨w2,hw2⟩ : ∃ w2,w.drewN nq = w2 := ⟨_,rfl⟩
    have hb2 : Below w.heap.size w w2 := by rw [← hw2]; exact (Dn.of w nq).below _
    rw [hw2]
    clear hw2
    go_wp2_with fail
    go_quiet ((go_at_call 179; exact Calls.quiet_of_same (hI1 (List.take 2 (List.drop 4 sgn)) (fun c hc => List.mem_of_mem_drop (List.mem_of_mem_take hc)) _)))
    go_wp2_with fail
    simp only [Exit.noGoto,Exit.inBlock,Exit.then]
    go_ret
    exact ⟨rfl,hb2.trans ((Dn.of w2 _).below _)⟩
def bdR (R : Nat) : Bool := decide (33 ≤ R ∧ R ≤ 126) && !(decide (R < 128) && sgn.contains (UInt8.ofNat R))
def bdC (c : UInt8) : Bool := (33 ≤ c && c ≤ 126) && !sgn.contains c
def idOk (s : List UInt8) : Bool := decide (1 ≤ s.length) && decide (s.length ≤ 200) && s.all bdC
theorem bdR_c (c : UInt8) : bdR c.toNat = bdC c := by
 unfold bdR bdC
 have h : (decide (c.toNat < 128) && sgn.contains (UInt8.ofNat c.toNat)) = sgn.contains c := by
  rw [UInt8.ofNat_toNat]
  by_cases hc : c.toNat < 128
  ·rw [decide_eq_true hc]; rfl
  ·rw [decide_eq_false hc]
   symm
   rw [Bool.false_and,Bool.eq_false_iff]
   intro h
   exact hc (sgn_ascii c (by simpa using h))
 rw [h]
 simp only [UInt8.le_iff_toNat_le,sgn]
 simp [Bool.decide_and]
theorem bdR_big {R : Nat} (h : 128 ≤ R) : bdR R = false := by
 unfold bdR
 rw [decide_eq_false (by omega),Bool.false_and]
theorem idx_all (l : List UInt8) : ∀ (f pos : Nat),l.length ≤ pos + f → (0 ≤ Lib.idxFuncFrom (fun R => !bdR R) true (bs l) f pos ↔ (l.drop pos).all bdC = false)
 | 0,pos,h => by
   have : l.drop pos = [] := List.drop_of_length_le (by omega)
   rw [this]
   simp [Lib.idxFuncFrom]
 | f + 1,pos,h => by
   unfold Lib.idxFuncFrom
   rw [bs_size]
   by_cases hp : pos < l.length
   ·rw [if_pos hp]
    have hp2 : pos < (bs l).size := by rw [bs_size]; exact hp
    have hc : (bs l)[pos]'hp2 = l[pos] := bs_at pos hp2
    have hd : l.drop pos = l[pos] :: l.drop (pos + 1) := (List.getElem_cons_drop hp).symm
    rw [hd,List.all_cons]
    by_cases ha : (l[pos]).toNat < 128
    ·rw [decode_ascii (bs l) pos hp2 (by rw [hc]; exact ha),hc]
     simp only [bdR_c]
     cases hb : bdC l[pos] with
     | true =>
       rw [if_neg (by simp),Bool.true_and]
       exact idx_all l f (pos + 1) (by omega)
     | false => simp
    ·have h2 := decode_big (bs l) pos hp2 (by rw [hc]; omega)
     rw [bdR_big h2]
     have h3 : bdC l[pos] = false := by rw [← bdR_c]; exact bdR_big (by omega)
     rw [h3]
     simp
   ·rw [if_neg hp]
    have : l.drop pos = [] := List.drop_of_length_le (by omega)
    rw [this]
    simp
theorem idx_bd (l : List UInt8) : decide (0 ≤ Lib.idxFunc (fun R => !bdR R) true (bs l)) = !l.all bdC := by
 have h := idx_all l (bs l).size 0 (by rw [bs_size]; omega)
 rw [List.drop_zero] at h
 unfold Lib.idxFunc
 cases hb : l.all bdC with
 | true =>
   rw [hb] at h
   rw [decide_eq_false (fun h2 => by have := h.1 h2; cases this)]
   rfl
 | false =>
   rw [decide_eq_true (h.2 hb)]
   rfl
theorem crune_any (R : Nat) (hR : R ≤ 1114111) (w : World) :
 Calls Tryz.prog 103 #[.string (bs sgn),.int .i32 (R : Int)] w fun e w' => e = .returned (.bool (decide (R < 128) && sgn.contains (UInt8.ofNat R))) ∧ Below w.heap.size w w' := by
 by_cases h : R < 128
 ·refine (Tryz.strings_ContainsRune_ascii (bs sgn) (R : Int) w (by omega) (by omega)).mono ?_
  rintro e w' ⟨rfl,rfl⟩
  refine ⟨ret_bool ?_,Below.refl _ _⟩
  have e2 : ((R : Int)).toNat.toUInt8 = UInt8.ofNat R := rfl
  rw [bs_toList,e2,decide_eq_true h,Bool.true_and]
  by_cases hm : UInt8.ofNat R ∈ sgn
  ·rw [decide_eq_true (indexByte_nonneg hm)]
   exact (List.contains_iff_mem.2 hm).symm
  ·rw [indexByte_absent hm]
   have : sgn.contains (UInt8.ofNat R) = false := by
    rw [Bool.eq_false_iff]
    exact fun h => hm (List.contains_iff_mem.1 h)
   rw [this]
   rfl
 ·have hno : Calls Tryz.prog 168 #[.string (bs sgn),.int .i32 (R : Int)] w fun e w' => e = .returned (.int .i64 (-1)) ∧ Below w.heap.size w w' := by
   by_cases he : R = 65533
   ·subst he
    exact indexRune_err w
   ·exact indexRune_no (R : Int) (by omega) (by omega) (by omega) w
  have hd := Lib.hid (decide_eq_false h)
  clear h
  go_enter Tryz.func103,Tryz.ntmps103
  go_wp2_with fail
  refine hno.mono ?_
  rintro e w' ⟨rfl,hb⟩
  go_wp2_with fail
  go_ret
  exact ⟨ret_bool (by rw [hd.out]; rfl),hb⟩
theorem bad_any (R : Nat) (hR : R ≤ 1114111) (w : World) :
 Calls Tryz.prog 102 #[.int .i32 (R : Int)] w fun e w' => e = .returned (.bool (!bdR R)) ∧ Below w.heap.size w w' := by
 have hc := fun W => crune_any R hR W
 obtain ⟨q,hq⟩ : ∃ q,(decide (R < 128) && sgn.contains (UInt8.ofNat R)) = q := ⟨_,rfl⟩
 have hbd : Hid (bdR R = (decide (33 ≤ R ∧ R ≤ 126) && !q)) := Lib.hid (by rw [← hq]; rfl)
 rw [hq] at hc
 have hs : ∀ W,Calls Tryz.prog 103 #[.string ⟨#[60,62,40,41,34,92]⟩,.int .i32 (R : Int)] W fun e w' => e = .returned (.bool q) ∧ Below W.heap.size W w' := hc
 clear hc hq
 have h0 : (0 : Int) ≤ R := by omega
 rcases (by omega : R ≤ 32 ∨ (32 < R ∧ R ≤ 126) ∨ 126 < R) with h | h | h
 all_goals
  go_enter Tryz.func102,Tryz.ntmps102
  go_wp2_with ((with_reducible refine (hs _).mono ?_); rintro e w1 ⟨rfl,hb1⟩)
  go_ret
  refine ⟨ret_bool ?_,?_⟩
  ·rw [hbd.out]
   first
    | (have k1 : 33 ≤ R ∧ R ≤ 126 := by omega
       rw [decide_eq_true k1]; cases q <;> rfl)
    | (have k1 : 33 ≤ R ∧ R ≤ 126 := by omega
       have k2 : ¬ ((R : Int) ≤ 32) := by omega
       have k3 : ¬ (126 < (R : Int)) := by omega
       rw [decide_eq_true k1,decide_eq_false k2,decide_eq_false k3]; cases q <;> rfl)
    | (have k1 : ¬ (33 ≤ R ∧ R ≤ 126) := by omega
       rw [decide_eq_false k1]; rfl)
  ·first
    | exact hb1
    | exact Below.refl _ _
theorem eg_bad : ∀ args w,(callFunc 102 args).run Tryz.prog w = .ok (.enter 102 args) w := enters_of Tryz.func102 (by kernel_rfl) rfl
theorem id_any (l : List UInt8) (w : World) (hb : l.length ≤ 1000000000) :
 Calls Tryz.prog 52 #[.string (bs l)] w fun e w' => e = .returned (.bool (idOk l)) ∧ Below w.heap.size w w' := by
 have hf := Tryz.strings_ContainsFunc_grows 102 #[] eg_bad (fun R => !bdR R) (bs l) w (fun W x hx _ => bad_any x hx W)
 rw [idx_bd] at hf
 obtain ⟨q,hq⟩ : ∃ q,l.all bdC = q := ⟨_,rfl⟩
 have hbd : Hid (idOk l = (decide (1 ≤ l.length) && decide (l.length ≤ 200) && q)) := Lib.hid (by rw [← hq]; rfl)
 rw [hq] at hf
 clear hq
 obtain ⟨n,hn⟩ : ∃ n,l.length = n := ⟨_,rfl⟩
 have HN := Lib.hid hn
 rcases (by omega : n = 0 ∨ (1 ≤ n ∧ n ≤ 200) ∨ 200 < n) with h | h | h
 ·subst h
  go_enter Tryz.func52,Tryz.ntmps52
  go_wp2_with fail
  go_ret
  exact ⟨ret_bool (by rw [hbd.out,HN.out]; rfl),Below.refl _ _⟩
 ·obtain ⟨h1,h2⟩ := h
  go_enter Tryz.func52,Tryz.ntmps52
  go_wp2_with fail
  refine hf.mono ?_
  rintro e w1 ⟨rfl,hb1⟩
  go_wp2_with fail
  go_ret
  exact ⟨ret_bool (by rw [hbd.out,HN.out,decide_eq_true h1,decide_eq_true h2]; cases q <;> rfl),hb1⟩
 ·go_enter Tryz.func52,Tryz.ntmps52
  go_wp2_with fail
  go_ret
  exact ⟨ret_bool (by rw [hbd.out,HN.out,decide_eq_false (p := n ≤ 200) (by omega),Bool.and_false]; rfl),Below.refl _ _⟩
end Pk
end
end Go.Proofs.YtkllecicddfjpaaGreatDoor
