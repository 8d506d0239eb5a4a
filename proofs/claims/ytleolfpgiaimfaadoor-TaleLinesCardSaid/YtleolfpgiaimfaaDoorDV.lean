/- What the document's Told gives, kind by kind. -/
import Derived.Test.YtleolfpgiaimfaaDoorDU
namespace Go.Proofs.YtleolfpgiaimfaaDoor
set_option linter.unusedVariables false
set_option linter.unusedSimpArgs false
open Go.RowKit Go.Shelf

/-- what Told hands back -/
def ToldOut (E : Ev) (W0 : World) (e : Ending) (w' : World) : Prop := ∃ (A : Option Addr) (c : Nat), e = .returned (.agg (evl (toldL E) (.slice A (toldL E).body.length c)).toArray) ∧ (toldL E).body.length ≤ c ∧ Rb w' A (toldL E).body ∧ Below W0.heap.size W0 w'
theorem kind_none {k : Int} (hf : formL k = none) : ∀ n : Int, 1 ≤ n → n ≤ 9 → ¬ k = n := by
  intro n h1 h2 h
  rw [h] at hf
  unfold formL at hf
  split at hf
  · cases hf
  repeat' (split at hf; · cases hf)
  omega
theorem turn_val (t : UInt8) : bv t = .int .u8 (t.toNat : Int) := rfl
theorem fresh_one (l : List UInt8) : ∀ v ∈ l.map bv, v.oneCell' = true := fun v hv => by
  obtain ⟨x, _, rfl⟩ := List.mem_map.1 hv
  rfl
theorem ext_setCells32 (W : World) (b : Nat) (vs : List Value) : Ext (fun i => i = b) W (W.setCells b 10 vs) := Ext.setCells (S := fun i => i = b) rfl vs 10 W
theorem st_fresh {W : World} {b : Nat} {cs : List Value} (h : Row W b 28 cs) (hc : cs.length = 46) (vs : List Value) (hv : vs.length = 32) (h1 : ∀ v ∈ vs, v.oneCell' = true) : (storeCells ⟨b, 10, none⟩ vs 0).run Tryd.prog W = .ok () (W.setCells b 10 vs) := by
  have := run_storeCells_cells (P := Tryd.prog) b 10 vs 0 W (fun j hj => by
    have hlt : 10 + j < cs.length := by omega
    rw [Nat.add_zero, h.cell (List.getElem?_eq_getElem hlt)]
    rfl) (fun j _ => h.frozen _) h1
  rw [Nat.add_zero] at this
  exact this

set_option maxRecDepth 100000 in
set_option maxHeartbeats 4000000 in
theorem rtold0 (E : Ev) (A : Option Addr) (c : Nat) (w : World) (hk : formL E.kind = none) (hok : E.Ok) (hfit : E.body.length ≤ c) (hR : Rb w A E.body) :
    Calls Tryd.prog 10 #[.agg (evl E (.slice A E.body.length c)).toArray] w (ToldOut E w) := by
  have hr0 : Row (w.alloc (.cells (evl E (.slice A E.body.length c)).toArray 28)) w.heap.size 28 (evl E (.slice A E.body.length c)) := Row.new w _ _
  obtain ⟨X, hX⟩ : ∃ X, (evl E (.slice A E.body.length c)).toArray = X := ⟨_, rfl⟩
  obtain ⟨zz, hzz⟩ : ∃ zz, zev.toArray = zz := ⟨_, rfl⟩
  have hz0 := (zero_of_info zero_ev).1
  have hzsz : zz.size = 46 := by rw [← hzz]; exact zev_size
  have hB1 : Below w.heap.size w (w.alloc (.cells X 28)) := (Below.refl _ w).alloc (Nat.le_refl _) _
  have hBa : Below (w.alloc (.cells X 28)).heap.size (w.alloc (.cells X 28)) ((w.alloc (.cells X 28)).alloc (.cells zz 28)) := (Below.refl _ _).alloc (Nat.le_refl _) _
  have hr1 : Row ((w.alloc (.cells X 28)).alloc (.cells zev.toArray 28)) (w.heap.size + 1) 28 zev := by
    have h := Row.new (w.alloc (.cells X 28)) zev.toArray 28
    rw [World.size_alloc] at h
    exact h
  rw [hX] at hr0 ⊢
  rw [hzz] at hr1 hz0
  have hB2 := hB1.trans (hBa.mono hB1.size)
  have hE2 : EvR ((w.alloc (.cells X 28)).alloc (.cells zz 28)) w.heap.size E A c := ⟨hr0.below hBa, hfit, hR.below hB2⟩
  obtain ⟨w2, hw2⟩ : ∃ w2, (w.alloc (.cells X 28)).alloc (.cells zz 28) = w2 := ⟨_, rfl⟩
  have hs2 : w2.heap.size = w.heap.size + 2 := by rw [← hw2]; simp
  rw [hw2] at hr1 hB2 hE2
  obtain ⟨ZK, hZK⟩ : ∃ ZK, zk E.kind = ZK := ⟨_, rfl⟩
  have hbu : ∀ W, (Instr.build 28 #[(0, .int .i64 E.kind)]).run Tryd.prog W = .ok (.agg ZK) W := fun W => by rw [← hZK]; exact build_ev _ W
  have hZs : ZK.size = 46 := by rw [← hZK]; exact zk_size _
  have hsn := store_new_ev w2 zz ZK hzsz hZs (by rw [← hZK]; exact evl_one _ _ _ _)
  have hk0 := (hE2.cells hok).c0
  have HW2 := Lib.hid hw2
  have HZK := Lib.hid hZK
  have HZZ := Lib.hid hzz
  have HX := Lib.hid hX
  have HS2 := Lib.hid hs2
  have HK := Lib.hid hk
  clear hw2 hZK hzz hX hs2 hk hr0 hBa hB1
  obtain ⟨b, hb⟩ : ∃ b, w.heap.size = b := ⟨_, rfl⟩
  rw [hb] at hk0
  have hne : ∀ n : Int, 1 ≤ n → n ≤ 9 → ¬ E.kind = n := kind_none HK.out
  have e1 : (E.kind == 1) = false := by rw [beq_eq_false_iff_ne]; exact hne 1 (by omega) (by omega)
  have e2 : (E.kind == 2) = false := by rw [beq_eq_false_iff_ne]; exact hne 2 (by omega) (by omega)
  have e3 : (E.kind == 3) = false := by rw [beq_eq_false_iff_ne]; exact hne 3 (by omega) (by omega)
  have e4 : (E.kind == 4) = false := by rw [beq_eq_false_iff_ne]; exact hne 4 (by omega) (by omega)
  have e5 : (E.kind == 5) = false := by rw [beq_eq_false_iff_ne]; exact hne 5 (by omega) (by omega)
  have e6 : (E.kind == 6) = false := by rw [beq_eq_false_iff_ne]; exact hne 6 (by omega) (by omega)
  have e7 : (E.kind == 7) = false := by rw [beq_eq_false_iff_ne]; exact hne 7 (by omega) (by omega)
  have e8 : (E.kind == 8) = false := by rw [beq_eq_false_iff_ne]; exact hne 8 (by omega) (by omega)
  have e9 : (E.kind == 9) = false := by rw [beq_eq_false_iff_ne]; exact hne 9 (by omega) (by omega)
  have hrange : ¬ (3 ≤ E.kind ∧ E.kind ≤ 7) := fun h => by
    have g3 := hne 3 (by omega) (by omega)
    have g4 := hne 4 (by omega) (by omega)
    have g5 := hne 5 (by omega) (by omega)
    have g6 := hne 6 (by omega) (by omega)
    have g7 := hne 7 (by omega) (by omega)
    omega
  have ht : toldL E = zeroEv E.kind := by unfold toldL; rw [HK.out]
  have HT := Lib.hid ht
  clear ht hne
  obtain ⟨z, hz⟩ : ∃ z, E.kind = z := ⟨_, rfl⟩
  rw [hz] at hk0 hbu hrange e1 e2 e3 e4 e5 e6 e7 e8 e9 HT
  have HZ := Lib.hid hz
  clear hz
  go_enter Tryd.func10, Tryd.ntmps10
  go_upto_region 1 with fail
  rw [HW2.out]
  go_upto_region 2 with (refine wpList_build rfl 28 (.tmp 6) rfl (.int .i64 z) (.agg ZK) rfl (hbu _) ?_)
  have r3 := Row.new w2 ZK 28
  have hB23 : Below w2.heap.size w2 (w2.alloc (Obj.cells ZK 28)) := (Below.refl _ w2).alloc (Nat.le_refl _) _
  obtain ⟨w3, hw3⟩ : ∃ w3, w2.alloc (Obj.cells ZK 28) = w3 := ⟨_, rfl⟩
  obtain ⟨b3, hb3⟩ : ∃ b3, w2.heap.size = b3 := ⟨_, rfl⟩
  have hE3 : EvR w3 w.heap.size E A c := by rw [← hw3]; exact ⟨hE2.row.below hB23, hfit, hE2.body.below hB23⟩
  have hr2 : Row w3 (w.heap.size + 1) 28 zev := by rw [← hw3]; exact hr1.below hB23
  rw [hw3] at r3 hB23 ⊢
  rw [hb3] at r3 ⊢
  rw [← HZK.out] at r3
  unfold zk at r3
  rw [List.toList_toArray] at r3
  have hB3 := hB2.trans (hB23.mono hB2.size)
  have HB3 := Lib.hid hb3
  have hE3' := hE3
  rw [hb] at hE3' hr2
  have n0 : ¬ b = b3 := by have := HS2.out; omega
  have n1 : ¬ b + 1 = b3 := by have := HS2.out; omega
  have n0' : ¬ b3 = b := fun e => n0 e.symm
  have n1' : ¬ b3 = b + 1 := fun e => n1 e.symm
  obtain ⟨p0, p1, p2, p3, p4, p5, p6, p7, p8, p9, p42, p43, p44, p45⟩ := hE3'.cells hok
  rw [HZ.out] at p0
  clear hw3 hb3 hE2 hB2 hr1 hbu hsn hZs
  have hrg : (decide (3 ≤ z) && decide (z ≤ 7)) = false := by simp; omega
  by_cases h3 : 3 ≤ z
  · have h7 : ¬ z ≤ 7 := fun h => hrange ⟨h3, h⟩
    go_upto_region 23 with fail
    obtain ⟨wF, hwF⟩ : ∃ wF, w3 = wF := ⟨_, rfl⟩
    have xF : Ext (fun i => i = b3) w3 wF := by rw [← hwF]; exact (Ext.refl (fun i => i = b3) w3)
    have rF : Row wF b3 28 (evl (toldL E) (.slice none (toldL E).body.length 0)) := by
      have h2 := r3
      rw [hwF] at h2
      rw [HT.out, ← HZ.out]
      exact h2
    rw [hwF]
    have hbF := xF.below hB3 hB3.size (fun i e => by have e2 : i = b3 := e; have := HS2.out; have := HB3.out; omega)
    have r2F := xF.row hr2 n1
    have hl46 : (evl (toldL E) (.slice none (toldL E).body.length 0)).length = 46 := by rw [HT.out]; simp [evl, zeroEv, hok.fresh]
    have hldF := lda_ev rF hl46
    obtain ⟨VF, hVF⟩ : ∃ VF, (evl (toldL E) (.slice none (toldL E).body.length 0)).toArray = VF := ⟨_, rfl⟩
    have hVs : VF.size = 46 := by rw [← hVF, List.size_toArray]; exact hl46
    have hV1 : VF.all (·.oneCell') = true := by rw [← hVF]; exact evl_one _ _ _ _
    have hstF := st_ev r2F zev_len hVs hV1
    have hrG := r2F.setRow VF
    have hldG := ldv_ev hrG (by rw [Array.length_toList]; exact hVs)
    rw [Array.toArray_toList] at hldG
    have hbG : Below w.heap.size w (wF.setRow (b + 1) VF) := (ext_setRow wF (b + 1) VF).below hbF hbF.size (fun i e => by have e2 : i = b + 1 := e; omega)
    rw [hVF] at hldF
    have HVF := Lib.hid hVF
    clear hVF hV1 hwF rF r2F xF hl46 p0 p1 p2 p3 p4 p5 p6 p7 p8 p9 p42 p43 p44 p45
    go_wp2_with (refine wpList_load 28 (.tmp 3) rfl (.pointer (some ⟨b3, 0, none⟩)) (.agg VF) rfl rfl hldF ?_)
    refine bodyPost_ret (v := .agg VF) ?_ rfl ⟨none, 0, by rw [HVF.out], by rw [HT.out]; exact Nat.le_refl _, by rw [HT.out]; exact Rb.nil _ _, hbG⟩
    rw [results_cell rfl]
    simp [asAddr, Result.andThen, hldG]
  · skip
    go_upto_region 23 with fail
    obtain ⟨wF, hwF⟩ : ∃ wF, w3 = wF := ⟨_, rfl⟩
    have xF : Ext (fun i => i = b3) w3 wF := by rw [← hwF]; exact (Ext.refl (fun i => i = b3) w3)
    have rF : Row wF b3 28 (evl (toldL E) (.slice none (toldL E).body.length 0)) := by
      have h2 := r3
      rw [hwF] at h2
      rw [HT.out, ← HZ.out]
      exact h2
    rw [hwF]
    have hbF := xF.below hB3 hB3.size (fun i e => by have e2 : i = b3 := e; have := HS2.out; have := HB3.out; omega)
    have r2F := xF.row hr2 n1
    have hl46 : (evl (toldL E) (.slice none (toldL E).body.length 0)).length = 46 := by rw [HT.out]; simp [evl, zeroEv, hok.fresh]
    have hldF := lda_ev rF hl46
    obtain ⟨VF, hVF⟩ : ∃ VF, (evl (toldL E) (.slice none (toldL E).body.length 0)).toArray = VF := ⟨_, rfl⟩
    have hVs : VF.size = 46 := by rw [← hVF, List.size_toArray]; exact hl46
    have hV1 : VF.all (·.oneCell') = true := by rw [← hVF]; exact evl_one _ _ _ _
    have hstF := st_ev r2F zev_len hVs hV1
    have hrG := r2F.setRow VF
    have hldG := ldv_ev hrG (by rw [Array.length_toList]; exact hVs)
    rw [Array.toArray_toList] at hldG
    have hbG : Below w.heap.size w (wF.setRow (b + 1) VF) := (ext_setRow wF (b + 1) VF).below hbF hbF.size (fun i e => by have e2 : i = b + 1 := e; omega)
    rw [hVF] at hldF
    have HVF := Lib.hid hVF
    clear hVF hV1 hwF rF r2F xF hl46 p0 p1 p2 p3 p4 p5 p6 p7 p8 p9 p42 p43 p44 p45
    go_wp2_with (refine wpList_load 28 (.tmp 3) rfl (.pointer (some ⟨b3, 0, none⟩)) (.agg VF) rfl rfl hldF ?_)
    refine bodyPost_ret (v := .agg VF) ?_ rfl ⟨none, 0, by rw [HVF.out], by rw [HT.out]; exact Nat.le_refl _, by rw [HT.out]; exact Rb.nil _ _, hbG⟩
    rw [results_cell rfl]
    simp [asAddr, Result.andThen, hldG]
set_option maxRecDepth 100000 in
set_option maxHeartbeats 4000000 in
theorem rtold2 (E : Ev) (A : Option Addr) (c : Nat) (w : World) (hk : E.kind = 2) (hok : E.Ok) (hfit : E.body.length ≤ c) (hR : Rb w A E.body) :
    Calls Tryd.prog 10 #[.agg (evl E (.slice A E.body.length c)).toArray] w (ToldOut E w) := by
  have hr0 : Row (w.alloc (.cells (evl E (.slice A E.body.length c)).toArray 28)) w.heap.size 28 (evl E (.slice A E.body.length c)) := Row.new w _ _
  obtain ⟨X, hX⟩ : ∃ X, (evl E (.slice A E.body.length c)).toArray = X := ⟨_, rfl⟩
  obtain ⟨zz, hzz⟩ : ∃ zz, zev.toArray = zz := ⟨_, rfl⟩
  have hz0 := (zero_of_info zero_ev).1
  have hzsz : zz.size = 46 := by rw [← hzz]; exact zev_size
  have hB1 : Below w.heap.size w (w.alloc (.cells X 28)) := (Below.refl _ w).alloc (Nat.le_refl _) _
  have hBa : Below (w.alloc (.cells X 28)).heap.size (w.alloc (.cells X 28)) ((w.alloc (.cells X 28)).alloc (.cells zz 28)) := (Below.refl _ _).alloc (Nat.le_refl _) _
  have hr1 : Row ((w.alloc (.cells X 28)).alloc (.cells zev.toArray 28)) (w.heap.size + 1) 28 zev := by
    have h := Row.new (w.alloc (.cells X 28)) zev.toArray 28
    rw [World.size_alloc] at h
    exact h
  rw [hX] at hr0 ⊢
  rw [hzz] at hr1 hz0
  have hB2 := hB1.trans (hBa.mono hB1.size)
  have hE2 : EvR ((w.alloc (.cells X 28)).alloc (.cells zz 28)) w.heap.size E A c := ⟨hr0.below hBa, hfit, hR.below hB2⟩
  obtain ⟨w2, hw2⟩ : ∃ w2, (w.alloc (.cells X 28)).alloc (.cells zz 28) = w2 := ⟨_, rfl⟩
  have hs2 : w2.heap.size = w.heap.size + 2 := by rw [← hw2]; simp
  rw [hw2] at hr1 hB2 hE2
  obtain ⟨ZK, hZK⟩ : ∃ ZK, zk (2) = ZK := ⟨_, rfl⟩
  have hbu : ∀ W, (Instr.build 28 #[(0, .int .i64 (2))]).run Tryd.prog W = .ok (.agg ZK) W := fun W => by rw [← hZK]; exact build_ev _ W
  have hZs : ZK.size = 46 := by rw [← hZK]; exact zk_size _
  have hsn := store_new_ev w2 zz ZK hzsz hZs (by rw [← hZK]; exact evl_one _ _ _ _)
  have hk0 := (hE2.cells hok).c0
  rw [hk] at hk0
  have HW2 := Lib.hid hw2
  have HZK := Lib.hid hZK
  have HZZ := Lib.hid hzz
  have HX := Lib.hid hX
  have HS2 := Lib.hid hs2
  have HK := Lib.hid hk
  clear hw2 hZK hzz hX hs2 hk hr0 hBa hB1
  obtain ⟨b, hb⟩ : ∃ b, w.heap.size = b := ⟨_, rfl⟩
  rw [hb] at hk0
  have ht : toldL E = { zeroEv 2 with who := E.who } := by
    unfold toldL
    rw [HK.out]
    simp [formL, zeroEv]
  have HT := Lib.hid ht
  clear ht
  go_enter Tryd.func10, Tryd.ntmps10
  go_upto_region 1 with fail
  rw [HW2.out]
  go_upto_region 2 with (refine wpList_build rfl 28 (.tmp 6) rfl (.int .i64 2) (.agg ZK) rfl (hbu _) ?_)
  have r3 := Row.new w2 ZK 28
  have hB23 : Below w2.heap.size w2 (w2.alloc (Obj.cells ZK 28)) := (Below.refl _ w2).alloc (Nat.le_refl _) _
  obtain ⟨w3, hw3⟩ : ∃ w3, w2.alloc (Obj.cells ZK 28) = w3 := ⟨_, rfl⟩
  obtain ⟨b3, hb3⟩ : ∃ b3, w2.heap.size = b3 := ⟨_, rfl⟩
  have hE3 : EvR w3 w.heap.size E A c := by rw [← hw3]; exact ⟨hE2.row.below hB23, hfit, hE2.body.below hB23⟩
  have hr2 : Row w3 (w.heap.size + 1) 28 zev := by rw [← hw3]; exact hr1.below hB23
  rw [hw3] at r3 hB23 ⊢
  rw [hb3] at r3 ⊢
  rw [← HZK.out] at r3
  unfold zk at r3
  rw [List.toList_toArray] at r3
  have hB3 := hB2.trans (hB23.mono hB2.size)
  have HB3 := Lib.hid hb3
  have hE3' := hE3
  rw [hb] at hE3' hr2
  have n0 : ¬ b = b3 := by have := HS2.out; omega
  have n1 : ¬ b + 1 = b3 := by have := HS2.out; omega
  have n0' : ¬ b3 = b := fun e => n0 e.symm
  have n1' : ¬ b3 = b + 1 := fun e => n1 e.symm
  obtain ⟨p0, p1, p2, p3, p4, p5, p6, p7, p8, p9, p42, p43, p44, p45⟩ := hE3'.cells hok
  rw [HK.out] at p0
  have z1 := r3.cell (j := 1) rfl
  have f1 := r3.frozen 1
  clear hw3 hb3 hE2 hB2 hr1 hbu hsn hZs
  go_upto_region 23 with fail
  obtain ⟨wF, hwF⟩ : ∃ wF, (w3.setCell ⟨b3, 1, none⟩ (.int .i64 E.who)) = wF := ⟨_, rfl⟩
  have xF : Ext (fun i => i = b3) w3 wF := by rw [← hwF]; exact ((Ext.refl (fun i => i = b3) w3).set ⟨b3, 1, none⟩ (.int .i64 E.who) rfl)
  have rF : Row wF b3 28 (evl (toldL E) (.slice none (toldL E).body.length 0)) := by
    have h2 := (r3.set 1 (.int .i64 E.who))
    rw [hwF] at h2
    rw [HT.out]
    exact h2
  rw [hwF]
  have hbF := xF.below hB3 hB3.size (fun i e => by have e2 : i = b3 := e; have := HS2.out; have := HB3.out; omega)
  have r2F := xF.row hr2 n1
  have hl46 : (evl (toldL E) (.slice none (toldL E).body.length 0)).length = 46 := by rw [HT.out]; simp [evl, zeroEv, hok.fresh]
  have hldF := lda_ev rF hl46
  obtain ⟨VF, hVF⟩ : ∃ VF, (evl (toldL E) (.slice none (toldL E).body.length 0)).toArray = VF := ⟨_, rfl⟩
  have hVs : VF.size = 46 := by rw [← hVF, List.size_toArray]; exact hl46
  have hV1 : VF.all (·.oneCell') = true := by rw [← hVF]; exact evl_one _ _ _ _
  have hstF := st_ev r2F zev_len hVs hV1
  have hrG := r2F.setRow VF
  have hldG := ldv_ev hrG (by rw [Array.length_toList]; exact hVs)
  rw [Array.toArray_toList] at hldG
  have hbG : Below w.heap.size w (wF.setRow (b + 1) VF) := (ext_setRow wF (b + 1) VF).below hbF hbF.size (fun i e => by have e2 : i = b + 1 := e; omega)
  rw [hVF] at hldF
  have HVF := Lib.hid hVF
  clear hVF hV1 hwF rF r2F xF hl46 p0 p1 p2 p3 p4 p5 p6 p7 p8 p9 p42 p43 p44 p45
  go_wp2_with (refine wpList_load 28 (.tmp 3) rfl (.pointer (some ⟨b3, 0, none⟩)) (.agg VF) rfl rfl hldF ?_)
  refine bodyPost_ret (v := .agg VF) ?_ rfl ⟨none, 0, by rw [HVF.out], by rw [HT.out]; exact Nat.le_refl _, by rw [HT.out]; exact Rb.nil _ _, hbG⟩
  rw [results_cell rfl]
  simp [asAddr, Result.andThen, hldG]
set_option maxRecDepth 100000 in
set_option maxHeartbeats 4000000 in
theorem rtold3 (E : Ev) (A : Option Addr) (c : Nat) (w : World) (hk : E.kind = 3) (hok : E.Ok) (hfit : E.body.length ≤ c) (hR : Rb w A E.body) :
    Calls Tryd.prog 10 #[.agg (evl E (.slice A E.body.length c)).toArray] w (ToldOut E w) := by
  have hr0 : Row (w.alloc (.cells (evl E (.slice A E.body.length c)).toArray 28)) w.heap.size 28 (evl E (.slice A E.body.length c)) := Row.new w _ _
  obtain ⟨X, hX⟩ : ∃ X, (evl E (.slice A E.body.length c)).toArray = X := ⟨_, rfl⟩
  obtain ⟨zz, hzz⟩ : ∃ zz, zev.toArray = zz := ⟨_, rfl⟩
  have hz0 := (zero_of_info zero_ev).1
  have hzsz : zz.size = 46 := by rw [← hzz]; exact zev_size
  have hB1 : Below w.heap.size w (w.alloc (.cells X 28)) := (Below.refl _ w).alloc (Nat.le_refl _) _
  have hBa : Below (w.alloc (.cells X 28)).heap.size (w.alloc (.cells X 28)) ((w.alloc (.cells X 28)).alloc (.cells zz 28)) := (Below.refl _ _).alloc (Nat.le_refl _) _
  have hr1 : Row ((w.alloc (.cells X 28)).alloc (.cells zev.toArray 28)) (w.heap.size + 1) 28 zev := by
    have h := Row.new (w.alloc (.cells X 28)) zev.toArray 28
    rw [World.size_alloc] at h
    exact h
  rw [hX] at hr0 ⊢
  rw [hzz] at hr1 hz0
  have hB2 := hB1.trans (hBa.mono hB1.size)
  have hE2 : EvR ((w.alloc (.cells X 28)).alloc (.cells zz 28)) w.heap.size E A c := ⟨hr0.below hBa, hfit, hR.below hB2⟩
  obtain ⟨w2, hw2⟩ : ∃ w2, (w.alloc (.cells X 28)).alloc (.cells zz 28) = w2 := ⟨_, rfl⟩
  have hs2 : w2.heap.size = w.heap.size + 2 := by rw [← hw2]; simp
  rw [hw2] at hr1 hB2 hE2
  obtain ⟨ZK, hZK⟩ : ∃ ZK, zk (3) = ZK := ⟨_, rfl⟩
  have hbu : ∀ W, (Instr.build 28 #[(0, .int .i64 (3))]).run Tryd.prog W = .ok (.agg ZK) W := fun W => by rw [← hZK]; exact build_ev _ W
  have hZs : ZK.size = 46 := by rw [← hZK]; exact zk_size _
  have hsn := store_new_ev w2 zz ZK hzsz hZs (by rw [← hZK]; exact evl_one _ _ _ _)
  have hk0 := (hE2.cells hok).c0
  rw [hk] at hk0
  have HW2 := Lib.hid hw2
  have HZK := Lib.hid hZK
  have HZZ := Lib.hid hzz
  have HX := Lib.hid hX
  have HS2 := Lib.hid hs2
  have HK := Lib.hid hk
  clear hw2 hZK hzz hX hs2 hk hr0 hBa hB1
  obtain ⟨b, hb⟩ : ∃ b, w.heap.size = b := ⟨_, rfl⟩
  rw [hb] at hk0
  have ht : toldL E = { zeroEv 3 with n := E.n, stays := E.stays } := by
    unfold toldL
    rw [HK.out]
    simp [formL, zeroEv]
  have HT := Lib.hid ht
  clear ht
  go_enter Tryd.func10, Tryd.ntmps10
  go_upto_region 1 with fail
  rw [HW2.out]
  go_upto_region 2 with (refine wpList_build rfl 28 (.tmp 6) rfl (.int .i64 3) (.agg ZK) rfl (hbu _) ?_)
  have r3 := Row.new w2 ZK 28
  have hB23 : Below w2.heap.size w2 (w2.alloc (Obj.cells ZK 28)) := (Below.refl _ w2).alloc (Nat.le_refl _) _
  obtain ⟨w3, hw3⟩ : ∃ w3, w2.alloc (Obj.cells ZK 28) = w3 := ⟨_, rfl⟩
  obtain ⟨b3, hb3⟩ : ∃ b3, w2.heap.size = b3 := ⟨_, rfl⟩
  have hE3 : EvR w3 w.heap.size E A c := by rw [← hw3]; exact ⟨hE2.row.below hB23, hfit, hE2.body.below hB23⟩
  have hr2 : Row w3 (w.heap.size + 1) 28 zev := by rw [← hw3]; exact hr1.below hB23
  rw [hw3] at r3 hB23 ⊢
  rw [hb3] at r3 ⊢
  rw [← HZK.out] at r3
  unfold zk at r3
  rw [List.toList_toArray] at r3
  have hB3 := hB2.trans (hB23.mono hB2.size)
  have HB3 := Lib.hid hb3
  have hE3' := hE3
  rw [hb] at hE3' hr2
  have n0 : ¬ b = b3 := by have := HS2.out; omega
  have n1 : ¬ b + 1 = b3 := by have := HS2.out; omega
  have n0' : ¬ b3 = b := fun e => n0 e.symm
  have n1' : ¬ b3 = b + 1 := fun e => n1 e.symm
  obtain ⟨p0, p1, p2, p3, p4, p5, p6, p7, p8, p9, p42, p43, p44, p45⟩ := hE3'.cells hok
  rw [HK.out] at p0
  have z3 := r3.cell (j := 3) rfl
  have f3 := r3.frozen 3
  have z8 := r3.cell (j := 8) rfl
  have f8 := r3.frozen 8
  clear hw3 hb3 hE2 hB2 hr1 hbu hsn hZs
  go_upto_region 23 with fail
  obtain ⟨wF, hwF⟩ : ∃ wF, ((w3.setCell ⟨b3, 3, none⟩ (.int .i64 E.n)).setCell ⟨b3, 8, none⟩ (.bool E.stays)) = wF := ⟨_, rfl⟩
  have xF : Ext (fun i => i = b3) w3 wF := by rw [← hwF]; exact (((Ext.refl (fun i => i = b3) w3).set ⟨b3, 3, none⟩ (.int .i64 E.n) rfl).set ⟨b3, 8, none⟩ (.bool E.stays) rfl)
  have rF : Row wF b3 28 (evl (toldL E) (.slice none (toldL E).body.length 0)) := by
    have h2 := ((r3.set 3 (.int .i64 E.n)).set 8 (.bool E.stays))
    rw [hwF] at h2
    rw [HT.out]
    exact h2
  rw [hwF]
  have hbF := xF.below hB3 hB3.size (fun i e => by have e2 : i = b3 := e; have := HS2.out; have := HB3.out; omega)
  have r2F := xF.row hr2 n1
  have hl46 : (evl (toldL E) (.slice none (toldL E).body.length 0)).length = 46 := by rw [HT.out]; simp [evl, zeroEv, hok.fresh]
  have hldF := lda_ev rF hl46
  obtain ⟨VF, hVF⟩ : ∃ VF, (evl (toldL E) (.slice none (toldL E).body.length 0)).toArray = VF := ⟨_, rfl⟩
  have hVs : VF.size = 46 := by rw [← hVF, List.size_toArray]; exact hl46
  have hV1 : VF.all (·.oneCell') = true := by rw [← hVF]; exact evl_one _ _ _ _
  have hstF := st_ev r2F zev_len hVs hV1
  have hrG := r2F.setRow VF
  have hldG := ldv_ev hrG (by rw [Array.length_toList]; exact hVs)
  rw [Array.toArray_toList] at hldG
  have hbG : Below w.heap.size w (wF.setRow (b + 1) VF) := (ext_setRow wF (b + 1) VF).below hbF hbF.size (fun i e => by have e2 : i = b + 1 := e; omega)
  rw [hVF] at hldF
  have HVF := Lib.hid hVF
  clear hVF hV1 hwF rF r2F xF hl46 p0 p1 p2 p3 p4 p5 p6 p7 p8 p9 p42 p43 p44 p45
  go_wp2_with (refine wpList_load 28 (.tmp 3) rfl (.pointer (some ⟨b3, 0, none⟩)) (.agg VF) rfl rfl hldF ?_)
  refine bodyPost_ret (v := .agg VF) ?_ rfl ⟨none, 0, by rw [HVF.out], by rw [HT.out]; exact Nat.le_refl _, by rw [HT.out]; exact Rb.nil _ _, hbG⟩
  rw [results_cell rfl]
  simp [asAddr, Result.andThen, hldG]
set_option maxRecDepth 100000 in
set_option maxHeartbeats 4000000 in
theorem rtold4 (E : Ev) (A : Option Addr) (c : Nat) (w : World) (hk : E.kind = 4) (hok : E.Ok) (hfit : E.body.length ≤ c) (hR : Rb w A E.body) :
    Calls Tryd.prog 10 #[.agg (evl E (.slice A E.body.length c)).toArray] w (ToldOut E w) := by
  have hr0 : Row (w.alloc (.cells (evl E (.slice A E.body.length c)).toArray 28)) w.heap.size 28 (evl E (.slice A E.body.length c)) := Row.new w _ _
  obtain ⟨X, hX⟩ : ∃ X, (evl E (.slice A E.body.length c)).toArray = X := ⟨_, rfl⟩
  obtain ⟨zz, hzz⟩ : ∃ zz, zev.toArray = zz := ⟨_, rfl⟩
  have hz0 := (zero_of_info zero_ev).1
  have hzsz : zz.size = 46 := by rw [← hzz]; exact zev_size
  have hB1 : Below w.heap.size w (w.alloc (.cells X 28)) := (Below.refl _ w).alloc (Nat.le_refl _) _
  have hBa : Below (w.alloc (.cells X 28)).heap.size (w.alloc (.cells X 28)) ((w.alloc (.cells X 28)).alloc (.cells zz 28)) := (Below.refl _ _).alloc (Nat.le_refl _) _
  have hr1 : Row ((w.alloc (.cells X 28)).alloc (.cells zev.toArray 28)) (w.heap.size + 1) 28 zev := by
    have h := Row.new (w.alloc (.cells X 28)) zev.toArray 28
    rw [World.size_alloc] at h
    exact h
  rw [hX] at hr0 ⊢
  rw [hzz] at hr1 hz0
  have hB2 := hB1.trans (hBa.mono hB1.size)
  have hE2 : EvR ((w.alloc (.cells X 28)).alloc (.cells zz 28)) w.heap.size E A c := ⟨hr0.below hBa, hfit, hR.below hB2⟩
  obtain ⟨w2, hw2⟩ : ∃ w2, (w.alloc (.cells X 28)).alloc (.cells zz 28) = w2 := ⟨_, rfl⟩
  have hs2 : w2.heap.size = w.heap.size + 2 := by rw [← hw2]; simp
  rw [hw2] at hr1 hB2 hE2
  obtain ⟨ZK, hZK⟩ : ∃ ZK, zk (4) = ZK := ⟨_, rfl⟩
  have hbu : ∀ W, (Instr.build 28 #[(0, .int .i64 (4))]).run Tryd.prog W = .ok (.agg ZK) W := fun W => by rw [← hZK]; exact build_ev _ W
  have hZs : ZK.size = 46 := by rw [← hZK]; exact zk_size _
  have hsn := store_new_ev w2 zz ZK hzsz hZs (by rw [← hZK]; exact evl_one _ _ _ _)
  have hk0 := (hE2.cells hok).c0
  rw [hk] at hk0
  have HW2 := Lib.hid hw2
  have HZK := Lib.hid hZK
  have HZZ := Lib.hid hzz
  have HX := Lib.hid hX
  have HS2 := Lib.hid hs2
  have HK := Lib.hid hk
  clear hw2 hZK hzz hX hs2 hk hr0 hBa hB1
  obtain ⟨b, hb⟩ : ∃ b, w.heap.size = b := ⟨_, rfl⟩
  rw [hb] at hk0
  have ht : toldL E = { zeroEv 4 with n := E.n } := by
    unfold toldL
    rw [HK.out]
    simp [formL, zeroEv]
  have HT := Lib.hid ht
  clear ht
  go_enter Tryd.func10, Tryd.ntmps10
  go_upto_region 1 with fail
  rw [HW2.out]
  go_upto_region 2 with (refine wpList_build rfl 28 (.tmp 6) rfl (.int .i64 4) (.agg ZK) rfl (hbu _) ?_)
  have r3 := Row.new w2 ZK 28
  have hB23 : Below w2.heap.size w2 (w2.alloc (Obj.cells ZK 28)) := (Below.refl _ w2).alloc (Nat.le_refl _) _
  obtain ⟨w3, hw3⟩ : ∃ w3, w2.alloc (Obj.cells ZK 28) = w3 := ⟨_, rfl⟩
  obtain ⟨b3, hb3⟩ : ∃ b3, w2.heap.size = b3 := ⟨_, rfl⟩
  have hE3 : EvR w3 w.heap.size E A c := by rw [← hw3]; exact ⟨hE2.row.below hB23, hfit, hE2.body.below hB23⟩
  have hr2 : Row w3 (w.heap.size + 1) 28 zev := by rw [← hw3]; exact hr1.below hB23
  rw [hw3] at r3 hB23 ⊢
  rw [hb3] at r3 ⊢
  rw [← HZK.out] at r3
  unfold zk at r3
  rw [List.toList_toArray] at r3
  have hB3 := hB2.trans (hB23.mono hB2.size)
  have HB3 := Lib.hid hb3
  have hE3' := hE3
  rw [hb] at hE3' hr2
  have n0 : ¬ b = b3 := by have := HS2.out; omega
  have n1 : ¬ b + 1 = b3 := by have := HS2.out; omega
  have n0' : ¬ b3 = b := fun e => n0 e.symm
  have n1' : ¬ b3 = b + 1 := fun e => n1 e.symm
  obtain ⟨p0, p1, p2, p3, p4, p5, p6, p7, p8, p9, p42, p43, p44, p45⟩ := hE3'.cells hok
  rw [HK.out] at p0
  have z3 := r3.cell (j := 3) rfl
  have f3 := r3.frozen 3
  clear hw3 hb3 hE2 hB2 hr1 hbu hsn hZs
  go_upto_region 23 with fail
  obtain ⟨wF, hwF⟩ : ∃ wF, (w3.setCell ⟨b3, 3, none⟩ (.int .i64 E.n)) = wF := ⟨_, rfl⟩
  have xF : Ext (fun i => i = b3) w3 wF := by rw [← hwF]; exact ((Ext.refl (fun i => i = b3) w3).set ⟨b3, 3, none⟩ (.int .i64 E.n) rfl)
  have rF : Row wF b3 28 (evl (toldL E) (.slice none (toldL E).body.length 0)) := by
    have h2 := (r3.set 3 (.int .i64 E.n))
    rw [hwF] at h2
    rw [HT.out]
    exact h2
  rw [hwF]
  have hbF := xF.below hB3 hB3.size (fun i e => by have e2 : i = b3 := e; have := HS2.out; have := HB3.out; omega)
  have r2F := xF.row hr2 n1
  have hl46 : (evl (toldL E) (.slice none (toldL E).body.length 0)).length = 46 := by rw [HT.out]; simp [evl, zeroEv, hok.fresh]
  have hldF := lda_ev rF hl46
  obtain ⟨VF, hVF⟩ : ∃ VF, (evl (toldL E) (.slice none (toldL E).body.length 0)).toArray = VF := ⟨_, rfl⟩
  have hVs : VF.size = 46 := by rw [← hVF, List.size_toArray]; exact hl46
  have hV1 : VF.all (·.oneCell') = true := by rw [← hVF]; exact evl_one _ _ _ _
  have hstF := st_ev r2F zev_len hVs hV1
  have hrG := r2F.setRow VF
  have hldG := ldv_ev hrG (by rw [Array.length_toList]; exact hVs)
  rw [Array.toArray_toList] at hldG
  have hbG : Below w.heap.size w (wF.setRow (b + 1) VF) := (ext_setRow wF (b + 1) VF).below hbF hbF.size (fun i e => by have e2 : i = b + 1 := e; omega)
  rw [hVF] at hldF
  have HVF := Lib.hid hVF
  clear hVF hV1 hwF rF r2F xF hl46 p0 p1 p2 p3 p4 p5 p6 p7 p8 p9 p42 p43 p44 p45
  go_wp2_with (refine wpList_load 28 (.tmp 3) rfl (.pointer (some ⟨b3, 0, none⟩)) (.agg VF) rfl rfl hldF ?_)
  refine bodyPost_ret (v := .agg VF) ?_ rfl ⟨none, 0, by rw [HVF.out], by rw [HT.out]; exact Nat.le_refl _, by rw [HT.out]; exact Rb.nil _ _, hbG⟩
  rw [results_cell rfl]
  simp [asAddr, Result.andThen, hldG]
set_option maxRecDepth 100000 in
set_option maxHeartbeats 4000000 in
theorem rtold6 (E : Ev) (A : Option Addr) (c : Nat) (w : World) (hk : E.kind = 6) (hok : E.Ok) (hfit : E.body.length ≤ c) (hR : Rb w A E.body) :
    Calls Tryd.prog 10 #[.agg (evl E (.slice A E.body.length c)).toArray] w (ToldOut E w) := by
  have hr0 : Row (w.alloc (.cells (evl E (.slice A E.body.length c)).toArray 28)) w.heap.size 28 (evl E (.slice A E.body.length c)) := Row.new w _ _
  obtain ⟨X, hX⟩ : ∃ X, (evl E (.slice A E.body.length c)).toArray = X := ⟨_, rfl⟩
  obtain ⟨zz, hzz⟩ : ∃ zz, zev.toArray = zz := ⟨_, rfl⟩
  have hz0 := (zero_of_info zero_ev).1
  have hzsz : zz.size = 46 := by rw [← hzz]; exact zev_size
  have hB1 : Below w.heap.size w (w.alloc (.cells X 28)) := (Below.refl _ w).alloc (Nat.le_refl _) _
  have hBa : Below (w.alloc (.cells X 28)).heap.size (w.alloc (.cells X 28)) ((w.alloc (.cells X 28)).alloc (.cells zz 28)) := (Below.refl _ _).alloc (Nat.le_refl _) _
  have hr1 : Row ((w.alloc (.cells X 28)).alloc (.cells zev.toArray 28)) (w.heap.size + 1) 28 zev := by
    have h := Row.new (w.alloc (.cells X 28)) zev.toArray 28
    rw [World.size_alloc] at h
    exact h
  rw [hX] at hr0 ⊢
  rw [hzz] at hr1 hz0
  have hB2 := hB1.trans (hBa.mono hB1.size)
  have hE2 : EvR ((w.alloc (.cells X 28)).alloc (.cells zz 28)) w.heap.size E A c := ⟨hr0.below hBa, hfit, hR.below hB2⟩
  obtain ⟨w2, hw2⟩ : ∃ w2, (w.alloc (.cells X 28)).alloc (.cells zz 28) = w2 := ⟨_, rfl⟩
  have hs2 : w2.heap.size = w.heap.size + 2 := by rw [← hw2]; simp
  rw [hw2] at hr1 hB2 hE2
  obtain ⟨ZK, hZK⟩ : ∃ ZK, zk (6) = ZK := ⟨_, rfl⟩
  have hbu : ∀ W, (Instr.build 28 #[(0, .int .i64 (6))]).run Tryd.prog W = .ok (.agg ZK) W := fun W => by rw [← hZK]; exact build_ev _ W
  have hZs : ZK.size = 46 := by rw [← hZK]; exact zk_size _
  have hsn := store_new_ev w2 zz ZK hzsz hZs (by rw [← hZK]; exact evl_one _ _ _ _)
  have hk0 := (hE2.cells hok).c0
  rw [hk] at hk0
  have HW2 := Lib.hid hw2
  have HZK := Lib.hid hZK
  have HZZ := Lib.hid hzz
  have HX := Lib.hid hX
  have HS2 := Lib.hid hs2
  have HK := Lib.hid hk
  clear hw2 hZK hzz hX hs2 hk hr0 hBa hB1
  obtain ⟨b, hb⟩ : ∃ b, w.heap.size = b := ⟨_, rfl⟩
  rw [hb] at hk0
  have ht : toldL E = { zeroEv 6 with n := E.n, m := E.m, turn := E.turn } := by
    unfold toldL
    rw [HK.out]
    simp [formL, zeroEv]
  have HT := Lib.hid ht
  clear ht
  go_enter Tryd.func10, Tryd.ntmps10
  go_upto_region 1 with fail
  rw [HW2.out]
  go_upto_region 2 with (refine wpList_build rfl 28 (.tmp 6) rfl (.int .i64 6) (.agg ZK) rfl (hbu _) ?_)
  have r3 := Row.new w2 ZK 28
  have hB23 : Below w2.heap.size w2 (w2.alloc (Obj.cells ZK 28)) := (Below.refl _ w2).alloc (Nat.le_refl _) _
  obtain ⟨w3, hw3⟩ : ∃ w3, w2.alloc (Obj.cells ZK 28) = w3 := ⟨_, rfl⟩
  obtain ⟨b3, hb3⟩ : ∃ b3, w2.heap.size = b3 := ⟨_, rfl⟩
  have hE3 : EvR w3 w.heap.size E A c := by rw [← hw3]; exact ⟨hE2.row.below hB23, hfit, hE2.body.below hB23⟩
  have hr2 : Row w3 (w.heap.size + 1) 28 zev := by rw [← hw3]; exact hr1.below hB23
  rw [hw3] at r3 hB23 ⊢
  rw [hb3] at r3 ⊢
  rw [← HZK.out] at r3
  unfold zk at r3
  rw [List.toList_toArray] at r3
  have hB3 := hB2.trans (hB23.mono hB2.size)
  have HB3 := Lib.hid hb3
  have hE3' := hE3
  rw [hb] at hE3' hr2
  have n0 : ¬ b = b3 := by have := HS2.out; omega
  have n1 : ¬ b + 1 = b3 := by have := HS2.out; omega
  have n0' : ¬ b3 = b := fun e => n0 e.symm
  have n1' : ¬ b3 = b + 1 := fun e => n1 e.symm
  obtain ⟨p0, p1, p2, p3, p4, p5, p6, p7, p8, p9, p42, p43, p44, p45⟩ := hE3'.cells hok
  rw [HK.out] at p0
  have z3 := r3.cell (j := 3) rfl
  have f3 := r3.frozen 3
  have z4 := r3.cell (j := 4) rfl
  have f4 := r3.frozen 4
  have z9 := r3.cell (j := 9) rfl
  have f9 := r3.frozen 9
  clear hw3 hb3 hE2 hB2 hr1 hbu hsn hZs
  have hbv := turn_val E.turn
  unfold bv at p9
  go_upto_region 23 with fail
  obtain ⟨wF, hwF⟩ : ∃ wF, (((w3.setCell ⟨b3, 3, none⟩ (.int .i64 E.n)).setCell ⟨b3, 4, none⟩ (.int .i64 E.m)).setCell ⟨b3, 9, none⟩ (.int .u8 (E.turn.toNat : Int))) = wF := ⟨_, rfl⟩
  have xF : Ext (fun i => i = b3) w3 wF := by rw [← hwF]; exact ((((Ext.refl (fun i => i = b3) w3).set ⟨b3, 3, none⟩ (.int .i64 E.n) rfl).set ⟨b3, 4, none⟩ (.int .i64 E.m) rfl).set ⟨b3, 9, none⟩ (.int .u8 (E.turn.toNat : Int)) rfl)
  have rF : Row wF b3 28 (evl (toldL E) (.slice none (toldL E).body.length 0)) := by
    have h2 := (((r3.set 3 (.int .i64 E.n)).set 4 (.int .i64 E.m)).set 9 (.int .u8 (E.turn.toNat : Int)))
    rw [hwF] at h2
    rw [HT.out]
    exact h2
  rw [hwF]
  have hbF := xF.below hB3 hB3.size (fun i e => by have e2 : i = b3 := e; have := HS2.out; have := HB3.out; omega)
  have r2F := xF.row hr2 n1
  have hl46 : (evl (toldL E) (.slice none (toldL E).body.length 0)).length = 46 := by rw [HT.out]; simp [evl, zeroEv, hok.fresh]
  have hldF := lda_ev rF hl46
  obtain ⟨VF, hVF⟩ : ∃ VF, (evl (toldL E) (.slice none (toldL E).body.length 0)).toArray = VF := ⟨_, rfl⟩
  have hVs : VF.size = 46 := by rw [← hVF, List.size_toArray]; exact hl46
  have hV1 : VF.all (·.oneCell') = true := by rw [← hVF]; exact evl_one _ _ _ _
  have hstF := st_ev r2F zev_len hVs hV1
  have hrG := r2F.setRow VF
  have hldG := ldv_ev hrG (by rw [Array.length_toList]; exact hVs)
  rw [Array.toArray_toList] at hldG
  have hbG : Below w.heap.size w (wF.setRow (b + 1) VF) := (ext_setRow wF (b + 1) VF).below hbF hbF.size (fun i e => by have e2 : i = b + 1 := e; omega)
  rw [hVF] at hldF
  have HVF := Lib.hid hVF
  clear hVF hV1 hwF rF r2F xF hl46 p0 p1 p2 p3 p4 p5 p6 p7 p8 p9 p42 p43 p44 p45
  go_wp2_with (refine wpList_load 28 (.tmp 3) rfl (.pointer (some ⟨b3, 0, none⟩)) (.agg VF) rfl rfl hldF ?_)
  refine bodyPost_ret (v := .agg VF) ?_ rfl ⟨none, 0, by rw [HVF.out], by rw [HT.out]; exact Nat.le_refl _, by rw [HT.out]; exact Rb.nil _ _, hbG⟩
  rw [results_cell rfl]
  simp [asAddr, Result.andThen, hldG]
set_option maxRecDepth 100000 in
set_option maxHeartbeats 4000000 in
theorem rtold8 (E : Ev) (A : Option Addr) (c : Nat) (w : World) (hk : E.kind = 8) (hok : E.Ok) (hfit : E.body.length ≤ c) (hR : Rb w A E.body) :
    Calls Tryd.prog 10 #[.agg (evl E (.slice A E.body.length c)).toArray] w (ToldOut E w) := by
  have hr0 : Row (w.alloc (.cells (evl E (.slice A E.body.length c)).toArray 28)) w.heap.size 28 (evl E (.slice A E.body.length c)) := Row.new w _ _
  obtain ⟨X, hX⟩ : ∃ X, (evl E (.slice A E.body.length c)).toArray = X := ⟨_, rfl⟩
  obtain ⟨zz, hzz⟩ : ∃ zz, zev.toArray = zz := ⟨_, rfl⟩
  have hz0 := (zero_of_info zero_ev).1
  have hzsz : zz.size = 46 := by rw [← hzz]; exact zev_size
  have hB1 : Below w.heap.size w (w.alloc (.cells X 28)) := (Below.refl _ w).alloc (Nat.le_refl _) _
  have hBa : Below (w.alloc (.cells X 28)).heap.size (w.alloc (.cells X 28)) ((w.alloc (.cells X 28)).alloc (.cells zz 28)) := (Below.refl _ _).alloc (Nat.le_refl _) _
  have hr1 : Row ((w.alloc (.cells X 28)).alloc (.cells zev.toArray 28)) (w.heap.size + 1) 28 zev := by
    have h := Row.new (w.alloc (.cells X 28)) zev.toArray 28
    rw [World.size_alloc] at h
    exact h
  rw [hX] at hr0 ⊢
  rw [hzz] at hr1 hz0
  have hB2 := hB1.trans (hBa.mono hB1.size)
  have hE2 : EvR ((w.alloc (.cells X 28)).alloc (.cells zz 28)) w.heap.size E A c := ⟨hr0.below hBa, hfit, hR.below hB2⟩
  obtain ⟨w2, hw2⟩ : ∃ w2, (w.alloc (.cells X 28)).alloc (.cells zz 28) = w2 := ⟨_, rfl⟩
  have hs2 : w2.heap.size = w.heap.size + 2 := by rw [← hw2]; simp
  rw [hw2] at hr1 hB2 hE2
  obtain ⟨ZK, hZK⟩ : ∃ ZK, zk (8) = ZK := ⟨_, rfl⟩
  have hbu : ∀ W, (Instr.build 28 #[(0, .int .i64 (8))]).run Tryd.prog W = .ok (.agg ZK) W := fun W => by rw [← hZK]; exact build_ev _ W
  have hZs : ZK.size = 46 := by rw [← hZK]; exact zk_size _
  have hsn := store_new_ev w2 zz ZK hzsz hZs (by rw [← hZK]; exact evl_one _ _ _ _)
  have hk0 := (hE2.cells hok).c0
  rw [hk] at hk0
  have HW2 := Lib.hid hw2
  have HZK := Lib.hid hZK
  have HZZ := Lib.hid hzz
  have HX := Lib.hid hX
  have HS2 := Lib.hid hs2
  have HK := Lib.hid hk
  clear hw2 hZK hzz hX hs2 hk hr0 hBa hB1
  obtain ⟨b, hb⟩ : ∃ b, w.heap.size = b := ⟨_, rfl⟩
  rw [hb] at hk0
  have ht : toldL E = { zeroEv 8 with who := E.who, body := E.body } := by
    unfold toldL
    rw [HK.out]
    simp [formL, zeroEv]
  have HT := Lib.hid ht
  clear ht
  go_enter Tryd.func10, Tryd.ntmps10
  go_upto_region 1 with fail
  rw [HW2.out]
  go_upto_region 2 with (refine wpList_build rfl 28 (.tmp 6) rfl (.int .i64 8) (.agg ZK) rfl (hbu _) ?_)
  have r3 := Row.new w2 ZK 28
  have hB23 : Below w2.heap.size w2 (w2.alloc (Obj.cells ZK 28)) := (Below.refl _ w2).alloc (Nat.le_refl _) _
  obtain ⟨w3, hw3⟩ : ∃ w3, w2.alloc (Obj.cells ZK 28) = w3 := ⟨_, rfl⟩
  obtain ⟨b3, hb3⟩ : ∃ b3, w2.heap.size = b3 := ⟨_, rfl⟩
  have hE3 : EvR w3 w.heap.size E A c := by rw [← hw3]; exact ⟨hE2.row.below hB23, hfit, hE2.body.below hB23⟩
  have hr2 : Row w3 (w.heap.size + 1) 28 zev := by rw [← hw3]; exact hr1.below hB23
  rw [hw3] at r3 hB23 ⊢
  rw [hb3] at r3 ⊢
  rw [← HZK.out] at r3
  unfold zk at r3
  rw [List.toList_toArray] at r3
  have hB3 := hB2.trans (hB23.mono hB2.size)
  have HB3 := Lib.hid hb3
  have hE3' := hE3
  rw [hb] at hE3' hr2
  have n0 : ¬ b = b3 := by have := HS2.out; omega
  have n1 : ¬ b + 1 = b3 := by have := HS2.out; omega
  have n0' : ¬ b3 = b := fun e => n0 e.symm
  have n1' : ¬ b3 = b + 1 := fun e => n1 e.symm
  obtain ⟨p0, p1, p2, p3, p4, p5, p6, p7, p8, p9, p42, p43, p44, p45⟩ := hE3'.cells hok
  rw [HK.out] at p0
  have z1 := r3.cell (j := 1) rfl
  have f1 := r3.frozen 1
  have z6 := r3.cell (j := 6) rfl
  have f6 := r3.frozen 6
  clear hw3 hb3 hE2 hB2 hr1 hbu hsn hZs
  go_upto_region 23 with fail
  obtain ⟨wF, hwF⟩ : ∃ wF, ((w3.setCell ⟨b3, 1, none⟩ (.int .i64 E.who)).setCell ⟨b3, 6, none⟩ (.slice A E.body.length c)) = wF := ⟨_, rfl⟩
  have xF : Ext (fun i => i = b3) w3 wF := by rw [← hwF]; exact (((Ext.refl (fun i => i = b3) w3).set ⟨b3, 1, none⟩ (.int .i64 E.who) rfl).set ⟨b3, 6, none⟩ (.slice A E.body.length c) rfl)
  have rF : Row wF b3 28 (evl (toldL E) (.slice A (toldL E).body.length c)) := by
    have h2 := ((r3.set 1 (.int .i64 E.who)).set 6 (.slice A E.body.length c))
    rw [hwF] at h2
    rw [HT.out]
    exact h2
  rw [hwF]
  have hbF := xF.below hB3 hB3.size (fun i e => by have e2 : i = b3 := e; have := HS2.out; have := HB3.out; omega)
  have r2F := xF.row hr2 n1
  have hl46 : (evl (toldL E) (.slice A (toldL E).body.length c)).length = 46 := by rw [HT.out]; simp [evl, zeroEv, hok.fresh]
  have hldF := lda_ev rF hl46
  obtain ⟨VF, hVF⟩ : ∃ VF, (evl (toldL E) (.slice A (toldL E).body.length c)).toArray = VF := ⟨_, rfl⟩
  have hVs : VF.size = 46 := by rw [← hVF, List.size_toArray]; exact hl46
  have hV1 : VF.all (·.oneCell') = true := by rw [← hVF]; exact evl_one _ _ _ _
  have hstF := st_ev r2F zev_len hVs hV1
  have hrG := r2F.setRow VF
  have hldG := ldv_ev hrG (by rw [Array.length_toList]; exact hVs)
  rw [Array.toArray_toList] at hldG
  have hbG : Below w.heap.size w (wF.setRow (b + 1) VF) := (ext_setRow wF (b + 1) VF).below hbF hbF.size (fun i e => by have e2 : i = b + 1 := e; omega)
  rw [hVF] at hldF
  have HVF := Lib.hid hVF
  clear hVF hV1 hwF rF r2F xF hl46 p0 p1 p2 p3 p4 p5 p6 p7 p8 p9 p42 p43 p44 p45
  go_wp2_with (refine wpList_load 28 (.tmp 3) rfl (.pointer (some ⟨b3, 0, none⟩)) (.agg VF) rfl rfl hldF ?_)
  refine bodyPost_ret (v := .agg VF) ?_ rfl ⟨A, c, by rw [HVF.out], by rw [HT.out]; exact hfit, by rw [HT.out]; exact hR.below hbG, hbG⟩
  rw [results_cell rfl]
  simp [asAddr, Result.andThen, hldG]
set_option maxRecDepth 100000 in
set_option maxHeartbeats 4000000 in
theorem rtold9 (E : Ev) (A : Option Addr) (c : Nat) (w : World) (hk : E.kind = 9) (hok : E.Ok) (hfit : E.body.length ≤ c) (hR : Rb w A E.body) :
    Calls Tryd.prog 10 #[.agg (evl E (.slice A E.body.length c)).toArray] w (ToldOut E w) := by
  have hr0 : Row (w.alloc (.cells (evl E (.slice A E.body.length c)).toArray 28)) w.heap.size 28 (evl E (.slice A E.body.length c)) := Row.new w _ _
  obtain ⟨X, hX⟩ : ∃ X, (evl E (.slice A E.body.length c)).toArray = X := ⟨_, rfl⟩
  obtain ⟨zz, hzz⟩ : ∃ zz, zev.toArray = zz := ⟨_, rfl⟩
  have hz0 := (zero_of_info zero_ev).1
  have hzsz : zz.size = 46 := by rw [← hzz]; exact zev_size
  have hB1 : Below w.heap.size w (w.alloc (.cells X 28)) := (Below.refl _ w).alloc (Nat.le_refl _) _
  have hBa : Below (w.alloc (.cells X 28)).heap.size (w.alloc (.cells X 28)) ((w.alloc (.cells X 28)).alloc (.cells zz 28)) := (Below.refl _ _).alloc (Nat.le_refl _) _
  have hr1 : Row ((w.alloc (.cells X 28)).alloc (.cells zev.toArray 28)) (w.heap.size + 1) 28 zev := by
    have h := Row.new (w.alloc (.cells X 28)) zev.toArray 28
    rw [World.size_alloc] at h
    exact h
  rw [hX] at hr0 ⊢
  rw [hzz] at hr1 hz0
  have hB2 := hB1.trans (hBa.mono hB1.size)
  have hE2 : EvR ((w.alloc (.cells X 28)).alloc (.cells zz 28)) w.heap.size E A c := ⟨hr0.below hBa, hfit, hR.below hB2⟩
  obtain ⟨w2, hw2⟩ : ∃ w2, (w.alloc (.cells X 28)).alloc (.cells zz 28) = w2 := ⟨_, rfl⟩
  have hs2 : w2.heap.size = w.heap.size + 2 := by rw [← hw2]; simp
  rw [hw2] at hr1 hB2 hE2
  obtain ⟨ZK, hZK⟩ : ∃ ZK, zk (9) = ZK := ⟨_, rfl⟩
  have hbu : ∀ W, (Instr.build 28 #[(0, .int .i64 (9))]).run Tryd.prog W = .ok (.agg ZK) W := fun W => by rw [← hZK]; exact build_ev _ W
  have hZs : ZK.size = 46 := by rw [← hZK]; exact zk_size _
  have hsn := store_new_ev w2 zz ZK hzsz hZs (by rw [← hZK]; exact evl_one _ _ _ _)
  have hk0 := (hE2.cells hok).c0
  rw [hk] at hk0
  have HW2 := Lib.hid hw2
  have HZK := Lib.hid hZK
  have HZZ := Lib.hid hzz
  have HX := Lib.hid hX
  have HS2 := Lib.hid hs2
  have HK := Lib.hid hk
  clear hw2 hZK hzz hX hs2 hk hr0 hBa hB1
  obtain ⟨b, hb⟩ : ∃ b, w.heap.size = b := ⟨_, rfl⟩
  rw [hb] at hk0
  have ht : toldL E = { zeroEv 9 with who := E.who, thread := E.thread } := by
    unfold toldL
    rw [HK.out]
    simp [formL, zeroEv]
  have HT := Lib.hid ht
  clear ht
  go_enter Tryd.func10, Tryd.ntmps10
  go_upto_region 1 with fail
  rw [HW2.out]
  go_upto_region 2 with (refine wpList_build rfl 28 (.tmp 6) rfl (.int .i64 9) (.agg ZK) rfl (hbu _) ?_)
  have r3 := Row.new w2 ZK 28
  have hB23 : Below w2.heap.size w2 (w2.alloc (Obj.cells ZK 28)) := (Below.refl _ w2).alloc (Nat.le_refl _) _
  obtain ⟨w3, hw3⟩ : ∃ w3, w2.alloc (Obj.cells ZK 28) = w3 := ⟨_, rfl⟩
  obtain ⟨b3, hb3⟩ : ∃ b3, w2.heap.size = b3 := ⟨_, rfl⟩
  have hE3 : EvR w3 w.heap.size E A c := by rw [← hw3]; exact ⟨hE2.row.below hB23, hfit, hE2.body.below hB23⟩
  have hr2 : Row w3 (w.heap.size + 1) 28 zev := by rw [← hw3]; exact hr1.below hB23
  rw [hw3] at r3 hB23 ⊢
  rw [hb3] at r3 ⊢
  rw [← HZK.out] at r3
  unfold zk at r3
  rw [List.toList_toArray] at r3
  have hB3 := hB2.trans (hB23.mono hB2.size)
  have HB3 := Lib.hid hb3
  have hE3' := hE3
  rw [hb] at hE3' hr2
  have n0 : ¬ b = b3 := by have := HS2.out; omega
  have n1 : ¬ b + 1 = b3 := by have := HS2.out; omega
  have n0' : ¬ b3 = b := fun e => n0 e.symm
  have n1' : ¬ b3 = b + 1 := fun e => n1 e.symm
  obtain ⟨p0, p1, p2, p3, p4, p5, p6, p7, p8, p9, p42, p43, p44, p45⟩ := hE3'.cells hok
  rw [HK.out] at p0
  have z1 := r3.cell (j := 1) rfl
  have f1 := r3.frozen 1
  have z5 := r3.cell (j := 5) rfl
  have f5 := r3.frozen 5
  clear hw3 hb3 hE2 hB2 hr1 hbu hsn hZs
  go_upto_region 23 with fail
  obtain ⟨wF, hwF⟩ : ∃ wF, ((w3.setCell ⟨b3, 1, none⟩ (.int .i64 E.who)).setCell ⟨b3, 5, none⟩ (.string (bs E.thread))) = wF := ⟨_, rfl⟩
  have xF : Ext (fun i => i = b3) w3 wF := by rw [← hwF]; exact (((Ext.refl (fun i => i = b3) w3).set ⟨b3, 1, none⟩ (.int .i64 E.who) rfl).set ⟨b3, 5, none⟩ (.string (bs E.thread)) rfl)
  have rF : Row wF b3 28 (evl (toldL E) (.slice none (toldL E).body.length 0)) := by
    have h2 := ((r3.set 1 (.int .i64 E.who)).set 5 (.string (bs E.thread)))
    rw [hwF] at h2
    rw [HT.out]
    exact h2
  rw [hwF]
  have hbF := xF.below hB3 hB3.size (fun i e => by have e2 : i = b3 := e; have := HS2.out; have := HB3.out; omega)
  have r2F := xF.row hr2 n1
  have hl46 : (evl (toldL E) (.slice none (toldL E).body.length 0)).length = 46 := by rw [HT.out]; simp [evl, zeroEv, hok.fresh]
  have hldF := lda_ev rF hl46
  obtain ⟨VF, hVF⟩ : ∃ VF, (evl (toldL E) (.slice none (toldL E).body.length 0)).toArray = VF := ⟨_, rfl⟩
  have hVs : VF.size = 46 := by rw [← hVF, List.size_toArray]; exact hl46
  have hV1 : VF.all (·.oneCell') = true := by rw [← hVF]; exact evl_one _ _ _ _
  have hstF := st_ev r2F zev_len hVs hV1
  have hrG := r2F.setRow VF
  have hldG := ldv_ev hrG (by rw [Array.length_toList]; exact hVs)
  rw [Array.toArray_toList] at hldG
  have hbG : Below w.heap.size w (wF.setRow (b + 1) VF) := (ext_setRow wF (b + 1) VF).below hbF hbF.size (fun i e => by have e2 : i = b + 1 := e; omega)
  rw [hVF] at hldF
  have HVF := Lib.hid hVF
  clear hVF hV1 hwF rF r2F xF hl46 p0 p1 p2 p3 p4 p5 p6 p7 p8 p9 p42 p43 p44 p45
  go_wp2_with (refine wpList_load 28 (.tmp 3) rfl (.pointer (some ⟨b3, 0, none⟩)) (.agg VF) rfl rfl hldF ?_)
  refine bodyPost_ret (v := .agg VF) ?_ rfl ⟨none, 0, by rw [HVF.out], by rw [HT.out]; exact Nat.le_refl _, by rw [HT.out]; exact Rb.nil _ _, hbG⟩
  rw [results_cell rfl]
  simp [asAddr, Result.andThen, hldG]

end Go.Proofs.YtleolfpgiaimfaaDoor
