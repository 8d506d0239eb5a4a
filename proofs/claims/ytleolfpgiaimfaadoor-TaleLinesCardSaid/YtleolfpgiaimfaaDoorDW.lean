/- What the document's Told gives: the other kinds; whatever the kind. -/
import Derived.Test.YtleolfpgiaimfaaDoorDV
namespace Go.Proofs.YtleolfpgiaimfaaDoor
set_option linter.unusedVariables false
set_option linter.unusedSimpArgs false
open Go.RowKit Go.Shelf

set_option maxRecDepth 100000 in
set_option maxHeartbeats 4000000 in
theorem rtold1 (E : Ev) (A : Option Addr) (c : Nat) (w : World) (hk : E.kind = 1) (hok : E.Ok) (hfit : E.body.length ≤ c) (hR : Rb w A E.body) :
    Calls Tryd.prog 10 #[.agg (evl E (.slice A E.body.length c)).toArray] w (ToldOut E w) := by
  have hr0 : Row (w.alloc (.cells (evl E (.slice A E.body.length c)).toArray 28)) w.heap.size 28 (evl E (.slice A E.body.length c)) := Row.new w _ _
  obtain ⟨X, hX⟩ : ∃ X, (evl E (.slice A E.body.length c)).toArray = X := ⟨_, rfl⟩
  obtain ⟨zz, hzz⟩ : ∃ zz, zev.toArray = zz := ⟨_, rfl⟩
  have hz0 := (zero_of_info zero_ev).1
  have hzsz : zz.size = 46 := by rw [← hzz]; exact zev_size
  have hB1 : Below w.heap.size w (w.alloc (.cells X 28)) := (Below.refl _ w).alloc (Nat.le_refl _) _
  have hBa : Below (w.alloc (.cells X 28)).heap.size (w.alloc (.cells X 28)) ((w.alloc (.cells X 28)).alloc (.cells zz 28)) := (Below.refl _ _).alloc (Nat.le_refl _) _
  have hr1 : Row ((w.alloc (.cells X 28)).alloc (.cells zev.toArray 28)) (w.heap.size + 1) 28 zev := by
    have h := Row.new (w.alloc (.cells X 28)) zev.toArray 28
    rw [World.size_alloc] at h
    exact h
  rw [hX] at hr0 ⊢
  rw [hzz] at hr1 hz0
  have hB2 := hB1.trans (hBa.mono hB1.size)
  have hE2 : EvR ((w.alloc (.cells X 28)).alloc (.cells zz 28)) w.heap.size E A c := ⟨hr0.below hBa, hfit, hR.below hB2⟩
  obtain ⟨w2, hw2⟩ : ∃ w2, (w.alloc (.cells X 28)).alloc (.cells zz 28) = w2 := ⟨_, rfl⟩
  have hs2 : w2.heap.size = w.heap.size + 2 := by rw [← hw2]; simp
  rw [hw2] at hr1 hB2 hE2
  obtain ⟨ZK, hZK⟩ : ∃ ZK, zk (1) = ZK := ⟨_, rfl⟩
  have hbu : ∀ W, (Instr.build 28 #[(0, .int .i64 (1))]).run Tryd.prog W = .ok (.agg ZK) W := fun W => by rw [← hZK]; exact build_ev _ W
  have hZs : ZK.size = 46 := by rw [← hZK]; exact zk_size _
  have hsn := store_new_ev w2 zz ZK hzsz hZs (by rw [← hZK]; exact evl_one _ _ _ _)
  have hk0 := (hE2.cells hok).c0
  rw [hk] at hk0
  have HW2 := Lib.hid hw2
  have HZK := Lib.hid hZK
  have HZZ := Lib.hid hzz
  have HX := Lib.hid hX
  have HS2 := Lib.hid hs2
  have HK := Lib.hid hk
  clear hw2 hZK hzz hX hs2 hk hr0 hBa hB1
  obtain ⟨b, hb⟩ : ∃ b, w.heap.size = b := ⟨_, rfl⟩
  rw [hb] at hk0
  have ht : toldL E = { zeroEv 1 with who := E.who, dst := E.dst, sec := E.sec, thread := E.thread, body := E.body, fresh := E.fresh } := by
    unfold toldL
    rw [HK.out]
    simp [formL, zeroEv]
  have HT := Lib.hid ht
  clear ht
  go_enter Tryd.func10, Tryd.ntmps10
  go_upto_region 1 with fail
  rw [HW2.out]
  go_upto_region 2 with (refine wpList_build rfl 28 (.tmp 6) rfl (.int .i64 1) (.agg ZK) rfl (hbu _) ?_)
  have r3 := Row.new w2 ZK 28
  have hB23 : Below w2.heap.size w2 (w2.alloc (Obj.cells ZK 28)) := (Below.refl _ w2).alloc (Nat.le_refl _) _
  obtain ⟨w3, hw3⟩ : ∃ w3, w2.alloc (Obj.cells ZK 28) = w3 := ⟨_, rfl⟩
  obtain ⟨b3, hb3⟩ : ∃ b3, w2.heap.size = b3 := ⟨_, rfl⟩
  have hE3 : EvR w3 w.heap.size E A c := by rw [← hw3]; exact ⟨hE2.row.below hB23, hfit, hE2.body.below hB23⟩
  have hr2 : Row w3 (w.heap.size + 1) 28 zev := by rw [← hw3]; exact hr1.below hB23
  rw [hw3] at r3 hB23 ⊢
  rw [hb3] at r3 ⊢
  rw [← HZK.out] at r3
  unfold zk at r3
  rw [List.toList_toArray] at r3
  have hB3 := hB2.trans (hB23.mono hB2.size)
  have HB3 := Lib.hid hb3
  have hE3' := hE3
  rw [hb] at hE3' hr2
  have n0 : ¬ b = b3 := by have := HS2.out; omega
  have n1 : ¬ b + 1 = b3 := by have := HS2.out; omega
  have n0' : ¬ b3 = b := fun e => n0 e.symm
  have n1' : ¬ b3 = b + 1 := fun e => n1 e.symm
  obtain ⟨p0, p1, p2, p3, p4, p5, p6, p7, p8, p9, p42, p43, p44, p45⟩ := hE3'.cells hok
  rw [HK.out] at p0
  have z1 := r3.cell (j := 1) rfl
  have f1 := r3.frozen 1
  have z2 := r3.cell (j := 2) rfl
  have f2 := r3.frozen 2
  have z7 := r3.cell (j := 7) rfl
  have f7 := r3.frozen 7
  have z5 := r3.cell (j := 5) rfl
  have f5 := r3.frozen 5
  have z6 := r3.cell (j := 6) rfl
  have f6 := r3.frozen 6
  clear hw3 hb3 hE2 hB2 hr1 hbu hsn hZs
  have hv32 : (E.fresh.map bv).length = 32 := by rw [List.length_map]; exact hok.fresh
  go_upto_region 13 with fail
  obtain ⟨w4, hw4⟩ : ∃ w4, (((((w3.setCell ⟨b3, 1, none⟩ (.int .i64 E.who)).setCell ⟨b3, 2, none⟩ (.int .i64 E.dst)).setCell ⟨b3, 7, none⟩ (.bool E.sec)).setCell ⟨b3, 5, none⟩ (.string (bs E.thread))).setCell ⟨b3, 6, none⟩ (.slice A E.body.length c)) = w4 := ⟨_, rfl⟩
  have r4 := (((((r3.set 1 (.int .i64 E.who)).set 2 (.int .i64 E.dst)).set 7 (.bool E.sec)).set 5 (.string (bs E.thread))).set 6 (.slice A E.body.length c))
  have x4 := ((((((Ext.refl (fun i => i = b3) w3).set ⟨b3, 1, none⟩ (.int .i64 E.who) rfl).set ⟨b3, 2, none⟩ (.int .i64 E.dst) rfl).set ⟨b3, 7, none⟩ (.bool E.sec) rfl).set ⟨b3, 5, none⟩ (.string (bs E.thread)) rfl).set ⟨b3, 6, none⟩ (.slice A E.body.length c) rfl)
  rw [hw4] at r4 x4 ⊢
  have hfr := lda_fresh (b := b) ⟨x4.row hE3'.row n0, hfit, hR.below (x4.below hB3 hB3.size (fun i e => by have e2 : i = b3 := e; have := HS2.out; have := HB3.out; omega))⟩ hok.fresh
  have hsf := st_fresh r4 (by simp [evl, zeroEv]) _ hv32 (fresh_one E.fresh)
  have hfar := ext_setCells32 w4 b3 (E.fresh.map bv)
  obtain ⟨V, hV⟩ : ∃ V, (E.fresh.map bv).toArray = V := ⟨_, rfl⟩
  have hvt : V.toList = E.fresh.map bv := by rw [← hV]
  have hvs : V.size = 32 := by rw [← hV, List.size_toArray]; exact hv32
  rw [hV] at hfr
  rw [← hvt] at hsf hfar
  have HV := Lib.hid hV
  have HVT := Lib.hid hvt
  clear hV hvt hv32
  go_upto_region 23 with (refine wpList_load 24 (.tmp 63) rfl (.pointer (some ⟨b, 10, none⟩)) (.agg V) rfl rfl hfr ?_)
  obtain ⟨wF, hwF⟩ : ∃ wF, (w4.setCells b3 10 V.toList) = wF := ⟨_, rfl⟩
  have xF : Ext (fun i => i = b3) w3 wF := by
    have x5 := x4.trans hfar (fun _ h => .inl h)
    rw [← hwF]
    exact x5
  have rF : Row wF b3 28 (evl (toldL E) (.slice A (toldL E).body.length c)) := by
    have h := Row.setCells (E.fresh.map bv) 10 w4 _ r4 (by simp [evl, zeroEv, hok.fresh])
    rw [← HVT.out] at h
    have h2 := h
    rw [hwF] at h2
    rw [HT.out]
    rw [HVT.out] at h2
    simpa [evl, zeroEv, hok.fresh] using h2
  rw [hwF]
  have hbF := xF.below hB3 hB3.size (fun i e => by have e2 : i = b3 := e; have := HS2.out; have := HB3.out; omega)
  have r2F := xF.row hr2 n1
  clear hsf hfr
  have hl46 : (evl (toldL E) (.slice A (toldL E).body.length c)).length = 46 := by rw [HT.out]; simp [evl, zeroEv, hok.fresh]
  have hldF := lda_ev rF hl46
  obtain ⟨VF, hVF⟩ : ∃ VF, (evl (toldL E) (.slice A (toldL E).body.length c)).toArray = VF := ⟨_, rfl⟩
  have hVs : VF.size = 46 := by rw [← hVF, List.size_toArray]; exact hl46
  have hV1 : VF.all (·.oneCell') = true := by rw [← hVF]; exact evl_one _ _ _ _
  have hstF := st_ev r2F zev_len hVs hV1
  have hrG := r2F.setRow VF
  have hldG := ldv_ev hrG (by rw [Array.length_toList]; exact hVs)
  rw [Array.toArray_toList] at hldG
  have hbG : Below w.heap.size w (wF.setRow (b + 1) VF) := (ext_setRow wF (b + 1) VF).below hbF hbF.size (fun i e => by have e2 : i = b + 1 := e; omega)
  rw [hVF] at hldF
  have HVF := Lib.hid hVF
  clear hVF hV1 hwF rF r2F xF hl46 p0 p1 p2 p3 p4 p5 p6 p7 p8 p9 p42 p43 p44 p45
  go_wp2_with (refine wpList_load 28 (.tmp 3) rfl (.pointer (some ⟨b3, 0, none⟩)) (.agg VF) rfl rfl hldF ?_)
  refine bodyPost_ret (v := .agg VF) ?_ rfl ⟨A, c, by rw [HVF.out], by rw [HT.out]; exact hfit, by rw [HT.out]; exact hR.below hbG, hbG⟩
  rw [results_cell rfl]
  simp [asAddr, Result.andThen, hldG]
set_option maxRecDepth 100000 in
set_option maxHeartbeats 4000000 in
theorem rtold5 (E : Ev) (A : Option Addr) (c : Nat) (w : World) (hk : E.kind = 5) (hok : E.Ok) (hfit : E.body.length ≤ c) (hR : Rb w A E.body) :
    Calls Tryd.prog 10 #[.agg (evl E (.slice A E.body.length c)).toArray] w (ToldOut E w) := by
  have hr0 : Row (w.alloc (.cells (evl E (.slice A E.body.length c)).toArray 28)) w.heap.size 28 (evl E (.slice A E.body.length c)) := Row.new w _ _
  obtain ⟨X, hX⟩ : ∃ X, (evl E (.slice A E.body.length c)).toArray = X := ⟨_, rfl⟩
  obtain ⟨zz, hzz⟩ : ∃ zz, zev.toArray = zz := ⟨_, rfl⟩
  have hz0 := (zero_of_info zero_ev).1
  have hzsz : zz.size = 46 := by rw [← hzz]; exact zev_size
  have hB1 : Below w.heap.size w (w.alloc (.cells X 28)) := (Below.refl _ w).alloc (Nat.le_refl _) _
  have hBa : Below (w.alloc (.cells X 28)).heap.size (w.alloc (.cells X 28)) ((w.alloc (.cells X 28)).alloc (.cells zz 28)) := (Below.refl _ _).alloc (Nat.le_refl _) _
  have hr1 : Row ((w.alloc (.cells X 28)).alloc (.cells zev.toArray 28)) (w.heap.size + 1) 28 zev := by
    have h := Row.new (w.alloc (.cells X 28)) zev.toArray 28
    rw [World.size_alloc] at h
    exact h
  rw [hX] at hr0 ⊢
  rw [hzz] at hr1 hz0
  have hB2 := hB1.trans (hBa.mono hB1.size)
  have hE2 : EvR ((w.alloc (.cells X 28)).alloc (.cells zz 28)) w.heap.size E A c := ⟨hr0.below hBa, hfit, hR.below hB2⟩
  obtain ⟨w2, hw2⟩ : ∃ w2, (w.alloc (.cells X 28)).alloc (.cells zz 28) = w2 := ⟨_, rfl⟩
  have hs2 : w2.heap.size = w.heap.size + 2 := by rw [← hw2]; simp
  rw [hw2] at hr1 hB2 hE2
  obtain ⟨ZK, hZK⟩ : ∃ ZK, zk (5) = ZK := ⟨_, rfl⟩
  have hbu : ∀ W, (Instr.build 28 #[(0, .int .i64 (5))]).run Tryd.prog W = .ok (.agg ZK) W := fun W => by rw [← hZK]; exact build_ev _ W
  have hZs : ZK.size = 46 := by rw [← hZK]; exact zk_size _
  have hsn := store_new_ev w2 zz ZK hzsz hZs (by rw [← hZK]; exact evl_one _ _ _ _)
  have hk0 := (hE2.cells hok).c0
  rw [hk] at hk0
  have HW2 := Lib.hid hw2
  have HZK := Lib.hid hZK
  have HZZ := Lib.hid hzz
  have HX := Lib.hid hX
  have HS2 := Lib.hid hs2
  have HK := Lib.hid hk
  clear hw2 hZK hzz hX hs2 hk hr0 hBa hB1
  obtain ⟨b, hb⟩ : ∃ b, w.heap.size = b := ⟨_, rfl⟩
  rw [hb] at hk0
  have ht : toldL E = { zeroEv 5 with n := E.n, rk := E.rk, rn := E.rn, rm := E.rm, rt := E.rt } := by
    unfold toldL
    rw [HK.out]
    simp [formL, zeroEv]
  have HT := Lib.hid ht
  clear ht
  go_enter Tryd.func10, Tryd.ntmps10
  go_upto_region 1 with fail
  rw [HW2.out]
  go_upto_region 2 with (refine wpList_build rfl 28 (.tmp 6) rfl (.int .i64 5) (.agg ZK) rfl (hbu _) ?_)
  have r3 := Row.new w2 ZK 28
  have hB23 : Below w2.heap.size w2 (w2.alloc (Obj.cells ZK 28)) := (Below.refl _ w2).alloc (Nat.le_refl _) _
  obtain ⟨w3, hw3⟩ : ∃ w3, w2.alloc (Obj.cells ZK 28) = w3 := ⟨_, rfl⟩
  obtain ⟨b3, hb3⟩ : ∃ b3, w2.heap.size = b3 := ⟨_, rfl⟩
  have hE3 : EvR w3 w.heap.size E A c := by rw [← hw3]; exact ⟨hE2.row.below hB23, hfit, hE2.body.below hB23⟩
  have hr2 : Row w3 (w.heap.size + 1) 28 zev := by rw [← hw3]; exact hr1.below hB23
  rw [hw3] at r3 hB23 ⊢
  rw [hb3] at r3 ⊢
  rw [← HZK.out] at r3
  unfold zk at r3
  rw [List.toList_toArray] at r3
  have hB3 := hB2.trans (hB23.mono hB2.size)
  have HB3 := Lib.hid hb3
  have hE3' := hE3
  rw [hb] at hE3' hr2
  have n0 : ¬ b = b3 := by have := HS2.out; omega
  have n1 : ¬ b + 1 = b3 := by have := HS2.out; omega
  have n0' : ¬ b3 = b := fun e => n0 e.symm
  have n1' : ¬ b3 = b + 1 := fun e => n1 e.symm
  obtain ⟨p0, p1, p2, p3, p4, p5, p6, p7, p8, p9, p42, p43, p44, p45⟩ := hE3'.cells hok
  rw [HK.out] at p0
  have z3 := r3.cell (j := 3) rfl
  have f3 := r3.frozen 3
  have hg := evl_get (E := zeroEv 5) (vb := .slice none 0 0) (by simp [zeroEv])
  have z42 := r3.cell (j := 42) hg.1
  have f42 := r3.frozen 42
  have z43 := r3.cell (j := 43) hg.2.1
  have f43 := r3.frozen 43
  have z44 := r3.cell (j := 44) hg.2.2.1
  have f44 := r3.frozen 44
  have z45 := r3.cell (j := 45) hg.2.2.2
  have f45 := r3.frozen 45
  clear hw3 hb3 hE2 hB2 hr1 hbu hsn hZs
  go_upto_region 23 with fail
  obtain ⟨wF, hwF⟩ : ∃ wF, (((((w3.setCell ⟨b3, 3, none⟩ (.int .i64 E.n)).setCell ⟨b3, 42, none⟩ (.int .i64 E.rk)).setCell ⟨b3, 43, none⟩ (.int .i64 E.rn)).setCell ⟨b3, 44, none⟩ (.int .i64 E.rm)).setCell ⟨b3, 45, none⟩ (.string (bs E.rt))) = wF := ⟨_, rfl⟩
  have xF : Ext (fun i => i = b3) w3 wF := by rw [← hwF]; exact ((((((Ext.refl (fun i => i = b3) w3).set ⟨b3, 3, none⟩ (.int .i64 E.n) rfl).set ⟨b3, 42, none⟩ (.int .i64 E.rk) rfl).set ⟨b3, 43, none⟩ (.int .i64 E.rn) rfl).set ⟨b3, 44, none⟩ (.int .i64 E.rm) rfl).set ⟨b3, 45, none⟩ (.string (bs E.rt)) rfl)
  have rF : Row wF b3 28 (evl (toldL E) (.slice none (toldL E).body.length 0)) := by
    have h2 := (((((r3.set 3 (.int .i64 E.n)).set 42 (.int .i64 E.rk)).set 43 (.int .i64 E.rn)).set 44 (.int .i64 E.rm)).set 45 (.string (bs E.rt)))
    rw [hwF] at h2
    rw [HT.out]
    have g1 := (evl_set (E := { zeroEv 5 with n := E.n }) (vb := .slice none 0 0) (by simp [zeroEv]) E.rk []).1
    have g2 := (evl_set (E := { zeroEv 5 with n := E.n, rk := E.rk }) (vb := .slice none 0 0) (by simp [zeroEv]) E.rn []).2.1
    have g3 := (evl_set (E := { zeroEv 5 with n := E.n, rk := E.rk, rn := E.rn }) (vb := .slice none 0 0) (by simp [zeroEv]) E.rm []).2.2.1
    have g4 := (evl_set (E := { zeroEv 5 with n := E.n, rk := E.rk, rn := E.rn, rm := E.rm }) (vb := .slice none 0 0) (by simp [zeroEv]) 0 E.rt).2.2.2
    rw [show (evl (zeroEv 5) (.slice none 0 0)).set 3 (.int .i64 E.n) = evl { zeroEv 5 with n := E.n } (.slice none 0 0) from rfl, g1, g2, g3, g4] at h2
    exact h2
  rw [hwF]
  have hbF := xF.below hB3 hB3.size (fun i e => by have e2 : i = b3 := e; have := HS2.out; have := HB3.out; omega)
  have r2F := xF.row hr2 n1
  have hl46 : (evl (toldL E) (.slice none (toldL E).body.length 0)).length = 46 := by rw [HT.out]; simp [evl, zeroEv, hok.fresh]
  have hldF := lda_ev rF hl46
  obtain ⟨VF, hVF⟩ : ∃ VF, (evl (toldL E) (.slice none (toldL E).body.length 0)).toArray = VF := ⟨_, rfl⟩
  have hVs : VF.size = 46 := by rw [← hVF, List.size_toArray]; exact hl46
  have hV1 : VF.all (·.oneCell') = true := by rw [← hVF]; exact evl_one _ _ _ _
  have hstF := st_ev r2F zev_len hVs hV1
  have hrG := r2F.setRow VF
  have hldG := ldv_ev hrG (by rw [Array.length_toList]; exact hVs)
  rw [Array.toArray_toList] at hldG
  have hbG : Below w.heap.size w (wF.setRow (b + 1) VF) := (ext_setRow wF (b + 1) VF).below hbF hbF.size (fun i e => by have e2 : i = b + 1 := e; omega)
  rw [hVF] at hldF
  have HVF := Lib.hid hVF
  clear hVF hV1 hwF rF r2F xF hl46 p0 p1 p2 p3 p4 p5 p6 p7 p8 p9 p42 p43 p44 p45
  go_wp2_with (refine wpList_load 28 (.tmp 3) rfl (.pointer (some ⟨b3, 0, none⟩)) (.agg VF) rfl rfl hldF ?_)
  refine bodyPost_ret (v := .agg VF) ?_ rfl ⟨none, 0, by rw [HVF.out], by rw [HT.out]; exact Nat.le_refl _, by rw [HT.out]; exact Rb.nil _ _, hbG⟩
  rw [results_cell rfl]
  simp [asAddr, Result.andThen, hldG]
set_option maxRecDepth 100000 in
set_option maxHeartbeats 4000000 in
theorem rtold7 (E : Ev) (A : Option Addr) (c : Nat) (w : World) (hk : E.kind = 7) (hok : E.Ok) (hfit : E.body.length ≤ c) (hR : Rb w A E.body) :
    Calls Tryd.prog 10 #[.agg (evl E (.slice A E.body.length c)).toArray] w (ToldOut E w) := by
  have hr0 : Row (w.alloc (.cells (evl E (.slice A E.body.length c)).toArray 28)) w.heap.size 28 (evl E (.slice A E.body.length c)) := Row.new w _ _
  obtain ⟨X, hX⟩ : ∃ X, (evl E (.slice A E.body.length c)).toArray = X := ⟨_, rfl⟩
  obtain ⟨zz, hzz⟩ : ∃ zz, zev.toArray = zz := ⟨_, rfl⟩
  have hz0 := (zero_of_info zero_ev).1
  have hzsz : zz.size = 46 := by rw [← hzz]; exact zev_size
  have hB1 : Below w.heap.size w (w.alloc (.cells X 28)) := (Below.refl _ w).alloc (Nat.le_refl _) _
  have hBa : Below (w.alloc (.cells X 28)).heap.size (w.alloc (.cells X 28)) ((w.alloc (.cells X 28)).alloc (.cells zz 28)) := (Below.refl _ _).alloc (Nat.le_refl _) _
  have hr1 : Row ((w.alloc (.cells X 28)).alloc (.cells zev.toArray 28)) (w.heap.size + 1) 28 zev := by
    have h := Row.new (w.alloc (.cells X 28)) zev.toArray 28
    rw [World.size_alloc] at h
    exact h
  rw [hX] at hr0 ⊢
  rw [hzz] at hr1 hz0
  have hB2 := hB1.trans (hBa.mono hB1.size)
  have hE2 : EvR ((w.alloc (.cells X 28)).alloc (.cells zz 28)) w.heap.size E A c := ⟨hr0.below hBa, hfit, hR.below hB2⟩
  obtain ⟨w2, hw2⟩ : ∃ w2, (w.alloc (.cells X 28)).alloc (.cells zz 28) = w2 := ⟨_, rfl⟩
  have hs2 : w2.heap.size = w.heap.size + 2 := by rw [← hw2]; simp
  rw [hw2] at hr1 hB2 hE2
  obtain ⟨ZK, hZK⟩ : ∃ ZK, zk (7) = ZK := ⟨_, rfl⟩
  have hbu : ∀ W, (Instr.build 28 #[(0, .int .i64 (7))]).run Tryd.prog W = .ok (.agg ZK) W := fun W => by rw [← hZK]; exact build_ev _ W
  have hZs : ZK.size = 46 := by rw [← hZK]; exact zk_size _
  have hsn := store_new_ev w2 zz ZK hzsz hZs (by rw [← hZK]; exact evl_one _ _ _ _)
  have hk0 := (hE2.cells hok).c0
  rw [hk] at hk0
  have HW2 := Lib.hid hw2
  have HZK := Lib.hid hZK
  have HZZ := Lib.hid hzz
  have HX := Lib.hid hX
  have HS2 := Lib.hid hs2
  have HK := Lib.hid hk
  clear hw2 hZK hzz hX hs2 hk hr0 hBa hB1
  obtain ⟨b, hb⟩ : ∃ b, w.heap.size = b := ⟨_, rfl⟩
  rw [hb] at hk0
  have ht : toldL E = { zeroEv 7 with who := E.who, fresh := E.fresh, n := E.n } := by
    unfold toldL
    rw [HK.out]
    simp [formL, zeroEv]
  have HT := Lib.hid ht
  clear ht
  go_enter Tryd.func10, Tryd.ntmps10
  go_upto_region 1 with fail
  rw [HW2.out]
  go_upto_region 2 with (refine wpList_build rfl 28 (.tmp 6) rfl (.int .i64 7) (.agg ZK) rfl (hbu _) ?_)
  have r3 := Row.new w2 ZK 28
  have hB23 : Below w2.heap.size w2 (w2.alloc (Obj.cells ZK 28)) := (Below.refl _ w2).alloc (Nat.le_refl _) _
  obtain ⟨w3, hw3⟩ : ∃ w3, w2.alloc (Obj.cells ZK 28) = w3 := ⟨_, rfl⟩
  obtain ⟨b3, hb3⟩ : ∃ b3, w2.heap.size = b3 := ⟨_, rfl⟩
  have hE3 : EvR w3 w.heap.size E A c := by rw [← hw3]; exact ⟨hE2.row.below hB23, hfit, hE2.body.below hB23⟩
  have hr2 : Row w3 (w.heap.size + 1) 28 zev := by rw [← hw3]; exact hr1.below hB23
  rw [hw3] at r3 hB23 ⊢
  rw [hb3] at r3 ⊢
  rw [← HZK.out] at r3
  unfold zk at r3
  rw [List.toList_toArray] at r3
  have hB3 := hB2.trans (hB23.mono hB2.size)
  have HB3 := Lib.hid hb3
  have hE3' := hE3
  rw [hb] at hE3' hr2
  have n0 : ¬ b = b3 := by have := HS2.out; omega
  have n1 : ¬ b + 1 = b3 := by have := HS2.out; omega
  have n0' : ¬ b3 = b := fun e => n0 e.symm
  have n1' : ¬ b3 = b + 1 := fun e => n1 e.symm
  obtain ⟨p0, p1, p2, p3, p4, p5, p6, p7, p8, p9, p42, p43, p44, p45⟩ := hE3'.cells hok
  rw [HK.out] at p0
  have z1 := r3.cell (j := 1) rfl
  have f1 := r3.frozen 1
  have z3 := r3.cell (j := 3) rfl
  have f3 := r3.frozen 3
  clear hw3 hb3 hE2 hB2 hr1 hbu hsn hZs
  have hv32 : (E.fresh.map bv).length = 32 := by rw [List.length_map]; exact hok.fresh
  go_upto_region 13 with fail
  obtain ⟨w4, hw4⟩ : ∃ w4, (w3.setCell ⟨b3, 1, none⟩ (.int .i64 E.who)) = w4 := ⟨_, rfl⟩
  have r4 := (r3.set 1 (.int .i64 E.who))
  have x4 := ((Ext.refl (fun i => i = b3) w3).set ⟨b3, 1, none⟩ (.int .i64 E.who) rfl)
  rw [hw4] at r4 x4 ⊢
  have hfr := lda_fresh (b := b) ⟨x4.row hE3'.row n0, hfit, hR.below (x4.below hB3 hB3.size (fun i e => by have e2 : i = b3 := e; have := HS2.out; have := HB3.out; omega))⟩ hok.fresh
  have hsf := st_fresh r4 (by simp [evl, zeroEv]) _ hv32 (fresh_one E.fresh)
  have hfar := ext_setCells32 w4 b3 (E.fresh.map bv)
  obtain ⟨V, hV⟩ : ∃ V, (E.fresh.map bv).toArray = V := ⟨_, rfl⟩
  have hvt : V.toList = E.fresh.map bv := by rw [← hV]
  have hvs : V.size = 32 := by rw [← hV, List.size_toArray]; exact hv32
  rw [hV] at hfr
  rw [← hvt] at hsf hfar
  have HV := Lib.hid hV
  have HVT := Lib.hid hvt
  clear hV hvt hv32
  have p3b : (w4.setCells b3 10 V.toList).cell? ⟨b, 3, none⟩ = some (.int .i64 E.n) := ext_cell hfar (by rw [← hw4]; exact ext_cell ((Ext.refl (fun i => i = b3) w3).set ⟨b3, 1, none⟩ (.int .i64 E.who) rfl) p3 n0) n0
  have z3b : (w4.setCells b3 10 V.toList).cell? ⟨b3, 3, none⟩ = some (.int .i64 0) := by
    rw [World.cell?_setCells_out b3 _ _ _ _ (fun _ _ => Or.inl (by show 3 < 10; omega)), ← hw4]
    exact ((r3.set 1 (.int .i64 E.who))).cell (j := 3) rfl
  have f3b : (w4.setCells b3 10 V.toList).frozen? ⟨b3, 3, none⟩ = false := by rw [World.frozen?_setCells, ← hw4]; exact ((r3.set 1 (.int .i64 E.who))).frozen 3
  obtain ⟨w5, hw5⟩ : ∃ w5, w4.setCells b3 10 V.toList = w5 := ⟨_, rfl⟩
  rw [hw5] at p3b z3b f3b hsf
  go_upto_region 23 with (refine wpList_load 24 (.tmp 63) rfl (.pointer (some ⟨b, 10, none⟩)) (.agg V) rfl rfl hfr ?_)
  obtain ⟨wF, hwF⟩ : ∃ wF, (w5.setCell ⟨b3, 3, none⟩ (.int .i64 E.n)) = wF := ⟨_, rfl⟩
  have xF : Ext (fun i => i = b3) w3 wF := by
    have x5 := x4.trans hfar (fun _ h => .inl h)
    rw [hw5] at x5
    rw [← hwF]
    exact x5.set ⟨b3, 3, none⟩ _ rfl
  have rF : Row wF b3 28 (evl (toldL E) (.slice none (toldL E).body.length 0)) := by
    have h := Row.setCells (E.fresh.map bv) 10 w4 _ r4 (by simp [evl, zeroEv, hok.fresh])
    rw [← HVT.out, hw5] at h
    have h2 := h.set 3 (.int .i64 E.n)
    rw [hwF] at h2
    rw [HT.out]
    rw [HVT.out] at h2
    simpa [evl, zeroEv, hok.fresh] using h2
  rw [hwF]
  have hbF := xF.below hB3 hB3.size (fun i e => by have e2 : i = b3 := e; have := HS2.out; have := HB3.out; omega)
  have r2F := xF.row hr2 n1
  clear hsf hfr
  have hl46 : (evl (toldL E) (.slice none (toldL E).body.length 0)).length = 46 := by rw [HT.out]; simp [evl, zeroEv, hok.fresh]
  have hldF := lda_ev rF hl46
  obtain ⟨VF, hVF⟩ : ∃ VF, (evl (toldL E) (.slice none (toldL E).body.length 0)).toArray = VF := ⟨_, rfl⟩
  have hVs : VF.size = 46 := by rw [← hVF, List.size_toArray]; exact hl46
  have hV1 : VF.all (·.oneCell') = true := by rw [← hVF]; exact evl_one _ _ _ _
  have hstF := st_ev r2F zev_len hVs hV1
  have hrG := r2F.setRow VF
  have hldG := ldv_ev hrG (by rw [Array.length_toList]; exact hVs)
  rw [Array.toArray_toList] at hldG
  have hbG : Below w.heap.size w (wF.setRow (b + 1) VF) := (ext_setRow wF (b + 1) VF).below hbF hbF.size (fun i e => by have e2 : i = b + 1 := e; omega)
  rw [hVF] at hldF
  have HVF := Lib.hid hVF
  clear hVF hV1 hwF rF r2F xF hl46 p0 p1 p2 p3 p4 p5 p6 p7 p8 p9 p42 p43 p44 p45
  go_wp2_with (refine wpList_load 28 (.tmp 3) rfl (.pointer (some ⟨b3, 0, none⟩)) (.agg VF) rfl rfl hldF ?_)
  refine bodyPost_ret (v := .agg VF) ?_ rfl ⟨none, 0, by rw [HVF.out], by rw [HT.out]; exact Nat.le_refl _, by rw [HT.out]; exact Rb.nil _ _, hbG⟩
  rw [results_cell rfl]
  simp [asAddr, Result.andThen, hldG]

theorem rtold_any (E : Ev) (A : Option Addr) (c : Nat) (w : World) (hok : E.Ok) (hfit : E.body.length ≤ c) (hR : Rb w A E.body) :
    Calls Tryd.prog 10 #[.agg (evl E (.slice A E.body.length c)).toArray] w (ToldOut E w) := by
  cases hf : formL E.kind with
  | none => exact rtold0 E A c w hf hok hfit hR
  | some p =>
    rcases formL_some hf with h | h | h | h | h | h | h | h | h
    · exact rtold1 E A c w h hok hfit hR
    · exact rtold2 E A c w h hok hfit hR
    · exact rtold3 E A c w h hok hfit hR
    · exact rtold4 E A c w h hok hfit hR
    · exact rtold5 E A c w h hok hfit hR
    · exact rtold6 E A c w h hok hfit hR
    · exact rtold7 E A c w h hok hfit hR
    · exact rtold8 E A c w h hok hfit hR
    · exact rtold9 E A c w h hok hfit hR
theorem told_ok {E : Ev} (h : E.Ok) : (toldL E).Ok := by
  have hz := isInt_zero
  unfold toldL
  split
  · exact zeroEv_ok h.kind
  · refine ⟨h.kind, ?_, ?_, ?_, ?_, ?_, ?_, ?_, ?_⟩ <;> dsimp only <;> split <;> first | exact h.who | exact h.dst | exact h.n | exact h.m | exact h.rk | exact h.rn | exact h.rm | exact h.fresh | exact hz | simp
theorem told_sz {E : Ev} (h : E.Sz) : (toldL E).Sz := by
  unfold toldL
  split
  · exact ⟨by simp [zeroEv], by simp [zeroEv], by simp [zeroEv]⟩
  · refine ⟨?_, ?_, ?_⟩ <;> dsimp only <;> split <;> first | exact h.thread | exact h.body | exact h.rt | simp

end Go.Proofs.YtleolfpgiaimfaaDoor
