/- The document's line of an event, kind by kind. -/
import Derived.Test.YtleolfpgiaimfaaDoorDO
namespace Go.Proofs.YtleolfpgiaimfaaDoor
set_option linter.unusedVariables false
set_option linter.unusedSimpArgs false
open Go.RowKit Go.Shelf

/-- an event's cells as they are read -/
structure EvC (W : World) (b : Nat) (E : Ev) (A : Option Addr) (c : Nat) : Prop where
  c0 : W.cell? ⟨b, 0, none⟩ = some (.int .i64 E.kind)
  c1 : W.cell? ⟨b, 1, none⟩ = some (.int .i64 E.who)
  c2 : W.cell? ⟨b, 2, none⟩ = some (.int .i64 E.dst)
  c3 : W.cell? ⟨b, 3, none⟩ = some (.int .i64 E.n)
  c4 : W.cell? ⟨b, 4, none⟩ = some (.int .i64 E.m)
  c5 : W.cell? ⟨b, 5, none⟩ = some (.string (bs E.thread))
  c6 : W.cell? ⟨b, 6, none⟩ = some (.slice A E.body.length c)
  c7 : W.cell? ⟨b, 7, none⟩ = some (.bool E.sec)
  c8 : W.cell? ⟨b, 8, none⟩ = some (.bool E.stays)
  c9 : W.cell? ⟨b, 9, none⟩ = some (bv E.turn)
  c42 : W.cell? ⟨b, 42, none⟩ = some (.int .i64 E.rk)
  c43 : W.cell? ⟨b, 43, none⟩ = some (.int .i64 E.rn)
  c44 : W.cell? ⟨b, 44, none⟩ = some (.int .i64 E.rm)
  c45 : W.cell? ⟨b, 45, none⟩ = some (.string (bs E.rt))
theorem EvR.cells {w : World} {b c : Nat} {E : Ev} {A : Option Addr} (h : EvR w b E A c) (hok : E.Ok) : EvC w b E A c := by
  have hg := evl_get (E := E) (vb := .slice A E.body.length c) hok.fresh
  exact ⟨h.row.cell (j := 0) rfl, h.row.cell (j := 1) rfl, h.row.cell (j := 2) rfl, h.row.cell (j := 3) rfl, h.row.cell (j := 4) rfl, h.row.cell (j := 5) rfl, h.row.cell (j := 6) rfl, h.row.cell (j := 7) rfl, h.row.cell (j := 8) rfl, h.row.cell (j := 9) rfl, h.row.cell (j := 42) hg.1, h.row.cell (j := 43) hg.2.1, h.row.cell (j := 44) hg.2.2.1, h.row.cell (j := 45) hg.2.2.2⟩

set_option maxRecDepth 100000 in
set_option maxHeartbeats 4000000 in
theorem rline2 (E : Ev) (A : Option Addr) (c : Nat) (w : World) (hk : E.kind = 2) (hsz : E.Sz) (hok : E.Ok) (hfit : E.body.length ≤ c) (hR : Rb w A E.body) :
    Calls Tryd.prog 8 #[.agg (evl E (.slice A E.body.length c)).toArray] w fun e w' => e = .returned (.string (bs (lineL E))) ∧ Below w.heap.size w w' := by
  have hr0 : Row (w.alloc (.cells (evl E (.slice A E.body.length c)).toArray 28)) w.heap.size 28 (evl E (.slice A E.body.length c)) := Row.new w _ _
  have hB0 : Below w.heap.size w (w.alloc (.cells (evl E (.slice A E.body.length c)).toArray 28)) := (Below.refl _ w).alloc (Nat.le_refl _) _
  have hE0 : EvR (w.alloc (.cells (evl E (.slice A E.body.length c)).toArray 28)) w.heap.size E A c := ⟨hr0, hfit, hR.below hB0⟩
  have hC := hE0.cells hok
  have hF := fresh_rb hE0 hok.fresh
  obtain ⟨X, hX⟩ : ∃ X, (evl E (.slice A E.body.length c)).toArray = X := ⟨_, rfl⟩
  rw [hX] at hB0 hC hE0 hF ⊢
  have hc0 := hC.c0
  rw [hk] at hc0
  have HL : Hid (lineL E = ([112, 111, 115, 116, 32] : List UInt8) ++ Lib.itoa E.who) := Lib.hid (by
    unfold lineL
    rw [hk]
    simp [formL, joinW, joinTail_cons, Fk.word, show Lib.joinTail [32] [] = [] from rfl])
  have hfl := hok.fresh
  have hBl := hE0.body
  have hz_who := hok.who
  have hl_who := Lib.itoa_length_le E.who hz_who.1 hz_who.2
  have hc_who := hC.c1
  clear hr0 hX hC hk
  generalize E.who = z_who at *
  have hI_who := fun W => rint_any z_who W hz_who
  go_enter Tryd.func8, Tryd.ntmps8
  go_wp2_with (first | (go_at_call 14; (with_reducible refine (hI_who _).mono ?_); rintro e w' ⟨rfl, rfl⟩))
  go_ret
  refine ⟨ret_str ?_, ?_⟩
  · rw [HL.out]
    show bs [112, 111, 115, 116, 32] ++ bs (Lib.itoa z_who) = _
    simp only [bs_add]
  · exact hB0
set_option maxRecDepth 100000 in
set_option maxHeartbeats 4000000 in
theorem rline3 (E : Ev) (A : Option Addr) (c : Nat) (w : World) (hk : E.kind = 3) (hsz : E.Sz) (hok : E.Ok) (hfit : E.body.length ≤ c) (hR : Rb w A E.body) :
    Calls Tryd.prog 8 #[.agg (evl E (.slice A E.body.length c)).toArray] w fun e w' => e = .returned (.string (bs (lineL E))) ∧ Below w.heap.size w w' := by
  have hr0 : Row (w.alloc (.cells (evl E (.slice A E.body.length c)).toArray 28)) w.heap.size 28 (evl E (.slice A E.body.length c)) := Row.new w _ _
  have hB0 : Below w.heap.size w (w.alloc (.cells (evl E (.slice A E.body.length c)).toArray 28)) := (Below.refl _ w).alloc (Nat.le_refl _) _
  have hE0 : EvR (w.alloc (.cells (evl E (.slice A E.body.length c)).toArray 28)) w.heap.size E A c := ⟨hr0, hfit, hR.below hB0⟩
  have hC := hE0.cells hok
  have hF := fresh_rb hE0 hok.fresh
  obtain ⟨X, hX⟩ : ∃ X, (evl E (.slice A E.body.length c)).toArray = X := ⟨_, rfl⟩
  rw [hX] at hB0 hC hE0 hF ⊢
  have hc0 := hC.c0
  rw [hk] at hc0
  have HL : Hid (lineL E = ([99, 97, 114, 114, 121, 32] : List UInt8) ++ Lib.itoa E.n ++ [32] ++ tru E.stays) := Lib.hid (by
    unfold lineL
    rw [hk]
    simp [formL, joinW, joinTail_cons, Fk.word, show Lib.joinTail [32] [] = [] from rfl])
  have hfl := hok.fresh
  have hBl := hE0.body
  have hz_n := hok.n
  have hl_n := Lib.itoa_length_le E.n hz_n.1 hz_n.2
  have hc_n := hC.c3
  have hl_stays : (tru E.stays).length ≤ 1 := by unfold tru; split <;> simp
  have hc_stays := hC.c8
  clear hr0 hX hC hk
  generalize E.n = z_n at *
  generalize E.stays = y_stays at *
  have hI_n := fun W => rint_any z_n W hz_n
  have hT_stays := fun W => rtruth_any y_stays W
  go_enter Tryd.func8, Tryd.ntmps8
  go_upto_region 6 with fail
  go_quiet ((first | (go_at_call 14; with_reducible exact Calls.quiet_of_same (hI_n _)) | (go_at_call 16; with_reducible exact Calls.quiet_of_same (hT_stays _))))
  go_wp2_with fail
  go_ret
  refine ⟨ret_str ?_, ?_⟩
  · rw [HL.out]
    show bs [99, 97, 114, 114, 121, 32] ++ bs (Lib.itoa z_n) ++ bs [32] ++ bs (tru y_stays) = _
    simp only [bs_add]
  · exact hB0.trans ((Dn.of _ nq).below _)
set_option maxRecDepth 100000 in
set_option maxHeartbeats 4000000 in
theorem rline4 (E : Ev) (A : Option Addr) (c : Nat) (w : World) (hk : E.kind = 4) (hsz : E.Sz) (hok : E.Ok) (hfit : E.body.length ≤ c) (hR : Rb w A E.body) :
    Calls Tryd.prog 8 #[.agg (evl E (.slice A E.body.length c)).toArray] w fun e w' => e = .returned (.string (bs (lineL E))) ∧ Below w.heap.size w w' := by
  have hr0 : Row (w.alloc (.cells (evl E (.slice A E.body.length c)).toArray 28)) w.heap.size 28 (evl E (.slice A E.body.length c)) := Row.new w _ _
  have hB0 : Below w.heap.size w (w.alloc (.cells (evl E (.slice A E.body.length c)).toArray 28)) := (Below.refl _ w).alloc (Nat.le_refl _) _
  have hE0 : EvR (w.alloc (.cells (evl E (.slice A E.body.length c)).toArray 28)) w.heap.size E A c := ⟨hr0, hfit, hR.below hB0⟩
  have hC := hE0.cells hok
  have hF := fresh_rb hE0 hok.fresh
  obtain ⟨X, hX⟩ : ∃ X, (evl E (.slice A E.body.length c)).toArray = X := ⟨_, rfl⟩
  rw [hX] at hB0 hC hE0 hF ⊢
  have hc0 := hC.c0
  rw [hk] at hc0
  have HL : Hid (lineL E = ([100, 114, 111, 112, 32] : List UInt8) ++ Lib.itoa E.n) := Lib.hid (by
    unfold lineL
    rw [hk]
    simp [formL, joinW, joinTail_cons, Fk.word, show Lib.joinTail [32] [] = [] from rfl])
  have hfl := hok.fresh
  have hBl := hE0.body
  have hz_n := hok.n
  have hl_n := Lib.itoa_length_le E.n hz_n.1 hz_n.2
  have hc_n := hC.c3
  clear hr0 hX hC hk
  generalize E.n = z_n at *
  have hI_n := fun W => rint_any z_n W hz_n
  go_enter Tryd.func8, Tryd.ntmps8
  go_wp2_with (first | (go_at_call 14; (with_reducible refine (hI_n _).mono ?_); rintro e w' ⟨rfl, rfl⟩))
  go_ret
  refine ⟨ret_str ?_, ?_⟩
  · rw [HL.out]
    show bs [100, 114, 111, 112, 32] ++ bs (Lib.itoa z_n) = _
    simp only [bs_add]
  · exact hB0
set_option maxRecDepth 100000 in
set_option maxHeartbeats 4000000 in
theorem rline6 (E : Ev) (A : Option Addr) (c : Nat) (w : World) (hk : E.kind = 6) (hsz : E.Sz) (hok : E.Ok) (hfit : E.body.length ≤ c) (hR : Rb w A E.body) :
    Calls Tryd.prog 8 #[.agg (evl E (.slice A E.body.length c)).toArray] w fun e w' => e = .returned (.string (bs (lineL E))) ∧ Below w.heap.size w w' := by
  have hr0 : Row (w.alloc (.cells (evl E (.slice A E.body.length c)).toArray 28)) w.heap.size 28 (evl E (.slice A E.body.length c)) := Row.new w _ _
  have hB0 : Below w.heap.size w (w.alloc (.cells (evl E (.slice A E.body.length c)).toArray 28)) := (Below.refl _ w).alloc (Nat.le_refl _) _
  have hE0 : EvR (w.alloc (.cells (evl E (.slice A E.body.length c)).toArray 28)) w.heap.size E A c := ⟨hr0, hfit, hR.below hB0⟩
  have hC := hE0.cells hok
  have hF := fresh_rb hE0 hok.fresh
  obtain ⟨X, hX⟩ : ∃ X, (evl E (.slice A E.body.length c)).toArray = X := ⟨_, rfl⟩
  rw [hX] at hB0 hC hE0 hF ⊢
  have hc0 := hC.c0
  rw [hk] at hc0
  have HL : Hid (lineL E = ([99, 111, 114, 114, 117, 112, 116, 32] : List UInt8) ++ Lib.itoa E.n ++ [32] ++ Lib.itoa E.m ++ [32] ++ Lib.itoa (E.turn.toNat : Int)) := Lib.hid (by
    unfold lineL
    rw [hk]
    simp [formL, joinW, joinTail_cons, Fk.word, show Lib.joinTail [32] [] = [] from rfl])
  have hfl := hok.fresh
  have hBl := hE0.body
  have hz_n := hok.n
  have hl_n := Lib.itoa_length_le E.n hz_n.1 hz_n.2
  have hc_n := hC.c3
  have hz_m := hok.m
  have hl_m := Lib.itoa_length_le E.m hz_m.1 hz_m.2
  have hc_m := hC.c4
  have hz_turn := isInt_byte E.turn
  have hl_turn := Lib.itoa_length_le (E.turn.toNat : Int) hz_turn.1 hz_turn.2
  have hc_turn := hC.c9
  have hg_turn := u8_ge E.turn
  have hh_turn := u8_lt E.turn
  unfold bv at hc_turn
  clear hr0 hX hC hk
  generalize E.n = z_n at *
  generalize E.m = z_m at *
  generalize (E.turn.toNat : Int) = z_turn at *
  have hI_n := fun W => rint_any z_n W hz_n
  have hI_m := fun W => rint_any z_m W hz_m
  have hI_turn := fun W => rint_any z_turn W hz_turn
  go_enter Tryd.func8, Tryd.ntmps8
  go_upto_region 12 with fail
  go_quiet ((first | (go_at_call 14; with_reducible exact Calls.quiet_of_same (hI_n _)) | (go_at_call 14; with_reducible exact Calls.quiet_of_same (hI_m _)) | (go_at_call 14; with_reducible exact Calls.quiet_of_same (hI_turn _))))
  go_wp2_with fail
  go_ret
  refine ⟨ret_str ?_, ?_⟩
  · rw [HL.out]
    show bs [99, 111, 114, 114, 117, 112, 116, 32] ++ bs (Lib.itoa z_n) ++ bs [32] ++ bs (Lib.itoa z_m) ++ bs [32] ++ bs (Lib.itoa z_turn) = _
    simp only [bs_add]
  · exact hB0.trans ((Dn.of _ nq).below _)
set_option maxRecDepth 100000 in
set_option maxHeartbeats 4000000 in
theorem rline7 (E : Ev) (A : Option Addr) (c : Nat) (w : World) (hk : E.kind = 7) (hsz : E.Sz) (hok : E.Ok) (hfit : E.body.length ≤ c) (hR : Rb w A E.body) :
    Calls Tryd.prog 8 #[.agg (evl E (.slice A E.body.length c)).toArray] w fun e w' => e = .returned (.string (bs (lineL E))) ∧ Below w.heap.size w w' := by
  have hr0 : Row (w.alloc (.cells (evl E (.slice A E.body.length c)).toArray 28)) w.heap.size 28 (evl E (.slice A E.body.length c)) := Row.new w _ _
  have hB0 : Below w.heap.size w (w.alloc (.cells (evl E (.slice A E.body.length c)).toArray 28)) := (Below.refl _ w).alloc (Nat.le_refl _) _
  have hE0 : EvR (w.alloc (.cells (evl E (.slice A E.body.length c)).toArray 28)) w.heap.size E A c := ⟨hr0, hfit, hR.below hB0⟩
  have hC := hE0.cells hok
  have hF := fresh_rb hE0 hok.fresh
  obtain ⟨X, hX⟩ : ∃ X, (evl E (.slice A E.body.length c)).toArray = X := ⟨_, rfl⟩
  rw [hX] at hB0 hC hE0 hF ⊢
  have hc0 := hC.c0
  rw [hk] at hc0
  have HL : Hid (lineL E = ([102, 101, 116, 99, 104, 32] : List UInt8) ++ Lib.itoa E.who ++ [32] ++ Lib.itoa E.n ++ [32] ++ hexL E.fresh) := Lib.hid (by
    unfold lineL
    rw [hk]
    simp [formL, joinW, joinTail_cons, Fk.word, show Lib.joinTail [32] [] = [] from rfl])
  have hfl := hok.fresh
  have hBl := hE0.body
  have hz_who := hok.who
  have hl_who := Lib.itoa_length_le E.who hz_who.1 hz_who.2
  have hc_who := hC.c1
  have hz_n := hok.n
  have hl_n := Lib.itoa_length_le E.n hz_n.1 hz_n.2
  have hc_n := hC.c3
  have hq_fresh : E.fresh.length ≤ 1000000 := (by rw [hok.fresh]; omega)
  have hl_fresh : (hexL E.fresh).length ≤ 2000001 := by have := hexL_len E.fresh; omega
  clear hr0 hX hC hk
  generalize E.who = z_who at *
  generalize E.n = z_n at *
  have hI_who := fun W => rint_any z_who W hz_who
  have hI_n := fun W => rint_any z_n W hz_n
  go_enter Tryd.func8, Tryd.ntmps8
  go_upto_region 14 with fail
  obtain ⟨w1, hw1⟩ : ∃ w1, w.alloc (.cells X 28) = w1 := ⟨_, rfl⟩
  obtain ⟨b, hb⟩ : ∃ b, w.heap.size = b := ⟨_, rfl⟩
  rw [hw1] at hB0 hE0 hF hBl hc_who hc_n ⊢
  rw [hb] at hE0 hF hc_who hc_n ⊢
  have hlt : b < w1.heap.size := hE0.row.lt
  clear hw1 hc0 hE0
  have HS : Hid (∀ W, Below w1.heap.size w1 W → W.cell? ⟨b, 1, none⟩ = some (.int .i64 z_who) ∧ W.cell? ⟨b, 3, none⟩ = some (.int .i64 z_n)) := Lib.hid fun W hb => ⟨(hb.cell (p := ⟨b, 1, none⟩) hlt).trans hc_who, (hb.cell (p := ⟨b, 3, none⟩) hlt).trans hc_n⟩
  have hBd : Below w1.heap.size w1 w1.drew := (Below.refl _ w1).drew
  have hSd := HS.out _ hBd
  refine wp_region_held_drew (S := fun W => W.cell? ⟨b, 1, none⟩ = some (.int .i64 z_who) ∧ W.cell? ⟨b, 3, none⟩ = some (.int .i64 z_n)) (by kernel_rfl) (by exact hSd) (fun hHeld => ?_)
  refine wpAnyH_take (i := 0) (v := ?_) rfl (by kernel_rfl) (by kernel_rfl) (by kernel_rfl) (fun _ _ _ h => h) (Or.inl ⟨by rfl, ?_⟩) (by assumption) ?_
  rotate_left 1
  focus (intro w hSw; (try dsimp only at hSw); go_simp; (first | done | with_reducible rfl | (rw [if_neg] <;> first | omega | rfl) | skip))
  (try simp only [Act.put, List.setIfInBounds_toArray, List.set_cons_zero, List.set_cons_succ, List.getElem_toArray, List.getElem_cons_zero, List.getElem_cons_succ])
  refine wpAnyH_take (i := 1) (v := ?_) rfl (by kernel_rfl) (by kernel_rfl) (by kernel_rfl) (fun _ _ _ h => h) (Or.inl ⟨by rfl, ?_⟩) (by assumption) ?_
  rotate_left 1
  focus (intro w hSw; (try dsimp only at hSw); go_simp; (first | done | with_reducible rfl | (rw [if_neg] <;> first | omega | rfl) | skip))
  (try simp only [Act.put, List.setIfInBounds_toArray, List.set_cons_zero, List.set_cons_succ, List.getElem_toArray, List.getElem_cons_zero, List.getElem_cons_succ])
  refine wpAnyH_take (i := 5) (v := ?_) rfl (by kernel_rfl) (by kernel_rfl) (by kernel_rfl) (fun _ _ _ h => h) (Or.inl ⟨by rfl, ?_⟩) (by assumption) ?_
  rotate_left 1
  focus (intro w hSw; (try dsimp only at hSw); go_simp; (first | done | with_reducible rfl | (rw [if_neg] <;> first | omega | rfl) | skip))
  (try simp only [Act.put, List.setIfInBounds_toArray, List.set_cons_zero, List.set_cons_succ, List.getElem_toArray, List.getElem_cons_zero, List.getElem_cons_succ])
  refine wpAnyH_take (i := 6) (v := ?_) rfl (by kernel_rfl) (by kernel_rfl) (by kernel_rfl) (fun _ _ _ h => h) (Or.inl ⟨by rfl, ?_⟩) (by assumption) ?_
  rotate_left 1
  focus (intro w hSw; (try dsimp only at hSw); go_simp; (first | done | with_reducible rfl | (rw [if_neg] <;> first | omega | rfl) | skip))
  (try simp only [Act.put, List.setIfInBounds_toArray, List.set_cons_zero, List.set_cons_succ, List.getElem_toArray, List.getElem_cons_zero, List.getElem_cons_succ])
  refine wpAnyH_take (i := 10) (v := ?_) rfl (by kernel_rfl) (by kernel_rfl) (by kernel_rfl) (fun _ _ _ h => h) (Or.inl ⟨by rfl, ?_⟩) (by assumption) ?_
  rotate_left 1
  focus (intro w hSw; (try dsimp only at hSw); go_simp; (first | done | with_reducible rfl | (rw [if_neg] <;> first | omega | rfl) | skip))
  (try simp only [Act.put, List.setIfInBounds_toArray, List.set_cons_zero, List.set_cons_succ, List.getElem_toArray, List.getElem_cons_zero, List.getElem_cons_succ])
  refine wpAnyH_take (i := 11) (v := ?_) rfl (by kernel_rfl) (by kernel_rfl) (by kernel_rfl) (fun _ _ _ h => h) (Or.inl ⟨by rfl, ?_⟩) (by assumption) ?_
  rotate_left 1
  focus (intro w hSw; (try dsimp only at hSw); go_simp; (first | done | with_reducible rfl | (rw [if_neg] <;> first | omega | rfl) | skip))
  (try simp only [Act.put, List.setIfInBounds_toArray, List.set_cons_zero, List.set_cons_succ, List.getElem_toArray, List.getElem_cons_zero, List.getElem_cons_succ])
  refine wpAnyH_ready (rs := [2]) (by kernel_rfl) (by simp) ?_
  refine AllReadyH.cons rfl (fun K hK => ?_) AllReadyH.nil
  go_simp
  go_wp2_with (go_at_call 14; (with_reducible refine (hI_who _).mono ?_); rintro e w' ⟨rfl, rfl⟩)
  refine hK.out _ _ hHeld (fun hHeld => ?_)
  clear hK K
  (try simp only [Act.put, List.setIfInBounds_toArray, List.set_cons_zero, List.set_cons_succ, List.getElem_toArray, List.getElem_cons_zero, List.getElem_cons_succ])
  refine wpAnyH_take (i := 3) (v := ?_) rfl (by kernel_rfl) (by kernel_rfl) (by kernel_rfl) (fun _ _ _ h => h) (Or.inl ⟨by rfl, ?_⟩) (by assumption) ?_
  rotate_left 1
  focus (intro w hSw; (try dsimp only at hSw); go_simp; (first | done | with_reducible rfl | (rw [if_neg] <;> first | omega | rfl) | skip))
  (try simp only [Act.put, List.setIfInBounds_toArray, List.set_cons_zero, List.set_cons_succ, List.getElem_toArray, List.getElem_cons_zero, List.getElem_cons_succ])
  refine wpAnyH_take (i := 4) (v := ?_) rfl (by kernel_rfl) (by kernel_rfl) (by kernel_rfl) (fun _ _ _ h => h) (Or.inl ⟨by rfl, ?_⟩) (by assumption) ?_
  rotate_left 1
  focus (intro w hSw; (try dsimp only at hSw); go_simp; (first | done | with_reducible rfl | (rw [if_neg] <;> first | omega | rfl) | skip))
  (try simp only [Act.put, List.setIfInBounds_toArray, List.set_cons_zero, List.set_cons_succ, List.getElem_toArray, List.getElem_cons_zero, List.getElem_cons_succ])
  refine wpAnyH_ready (rs := [7]) (by kernel_rfl) (by simp) ?_
  refine AllReadyH.cons rfl (fun K hK => ?_) AllReadyH.nil
  go_simp
  go_wp2_with (go_at_call 14; (with_reducible refine (hI_n _).mono ?_); rintro e w' ⟨rfl, rfl⟩)
  refine hK.out _ _ hHeld (fun hHeld => ?_)
  clear hK K
  (try simp only [Act.put, List.setIfInBounds_toArray, List.set_cons_zero, List.set_cons_succ, List.getElem_toArray, List.getElem_cons_zero, List.getElem_cons_succ])
  refine wpAnyH_take (i := 8) (v := ?_) rfl (by kernel_rfl) (by kernel_rfl) (by kernel_rfl) (fun _ _ _ h => h) (Or.inl ⟨by rfl, ?_⟩) (by assumption) ?_
  rotate_left 1
  focus (intro w hSw; (try dsimp only at hSw); go_simp; (first | done | with_reducible rfl | (rw [if_neg] <;> first | omega | rfl) | skip))
  (try simp only [Act.put, List.setIfInBounds_toArray, List.set_cons_zero, List.set_cons_succ, List.getElem_toArray, List.getElem_cons_zero, List.getElem_cons_succ])
  refine wpAnyH_take (i := 9) (v := ?_) rfl (by kernel_rfl) (by kernel_rfl) (by kernel_rfl) (fun _ _ _ h => h) (Or.inl ⟨by rfl, ?_⟩) (by assumption) ?_
  rotate_left 1
  focus (intro w hSw; (try dsimp only at hSw); go_simp; (first | done | with_reducible rfl | (rw [if_neg] <;> first | omega | rfl) | skip))
  (try simp only [Act.put, List.setIfInBounds_toArray, List.set_cons_zero, List.set_cons_succ, List.getElem_toArray, List.getElem_cons_zero, List.getElem_cons_succ])
  refine wpAnyH_ready (rs := [12]) (by kernel_rfl) (by simp) ?_
  refine AllReadyH.cons rfl (fun K hK => ?_) AllReadyH.nil
  go_simp
  go_wp2_with (go_at_call 15; refine (rhex_any (some ⟨b, 10, none⟩) E.fresh 32 32 _ hfl (hF.below hBd) (by omega)).mono ?_; rintro e w5 ⟨rfl, hb5⟩; have hB5 := hBd.trans (hb5.mono hBd.size); have hS5 := HS.out _ hB5)
  refine hK.out _ _ hS5 (fun hHeld => ?_)
  clear hK K
  (try simp only [Act.put, List.setIfInBounds_toArray, List.set_cons_zero, List.set_cons_succ, List.getElem_toArray, List.getElem_cons_zero, List.getElem_cons_succ])
  refine wpAnyH_take (i := 13) (v := ?_) rfl (by kernel_rfl) (by kernel_rfl) (by kernel_rfl) (fun _ _ _ h => h) (Or.inl ⟨by rfl, ?_⟩) (by assumption) ?_
  rotate_left 1
  focus (intro w hSw; (try dsimp only at hSw); go_simp; (first | done | with_reducible rfl | (rw [if_neg] <;> first | omega | rfl) | skip))
  (try simp only [Act.put, List.setIfInBounds_toArray, List.set_cons_zero, List.set_cons_succ, List.getElem_toArray, List.getElem_cons_zero, List.getElem_cons_succ])
  refine wpAnyH_take (i := 14) (v := ?_) rfl (by kernel_rfl) (by kernel_rfl) (by kernel_rfl) (fun _ _ _ h => h) (Or.inl ⟨by rfl, ?_⟩) (by assumption) ?_
  rotate_left 1
  focus (intro w hSw; (try dsimp only at hSw); go_simp; (first | done | with_reducible rfl | (rw [if_neg] <;> first | omega | rfl) | skip))
  (try simp only [Act.put, List.setIfInBounds_toArray, List.set_cons_zero, List.set_cons_succ, List.getElem_toArray, List.getElem_cons_zero, List.getElem_cons_succ])
  refine wpAnyH_done (by kernel_rfl) ?_ _
  go_wp2_with fail
  go_ret
  refine ⟨ret_str ?_, ?_⟩
  · rw [HL.out]
    show bs [102, 101, 116, 99, 104, 32] ++ bs (Lib.itoa z_who) ++ bs [32] ++ bs (Lib.itoa z_n) ++ bs [32] ++ bs (hexL E.fresh) = _
    simp only [bs_add]
  · exact hB0.trans (hB5.mono hB0.size)
set_option maxRecDepth 100000 in
set_option maxHeartbeats 4000000 in
theorem rline8 (E : Ev) (A : Option Addr) (c : Nat) (w : World) (hk : E.kind = 8) (hsz : E.Sz) (hok : E.Ok) (hfit : E.body.length ≤ c) (hR : Rb w A E.body) :
    Calls Tryd.prog 8 #[.agg (evl E (.slice A E.body.length c)).toArray] w fun e w' => e = .returned (.string (bs (lineL E))) ∧ Below w.heap.size w w' := by
  have hr0 : Row (w.alloc (.cells (evl E (.slice A E.body.length c)).toArray 28)) w.heap.size 28 (evl E (.slice A E.body.length c)) := Row.new w _ _
  have hB0 : Below w.heap.size w (w.alloc (.cells (evl E (.slice A E.body.length c)).toArray 28)) := (Below.refl _ w).alloc (Nat.le_refl _) _
  have hE0 : EvR (w.alloc (.cells (evl E (.slice A E.body.length c)).toArray 28)) w.heap.size E A c := ⟨hr0, hfit, hR.below hB0⟩
  have hC := hE0.cells hok
  have hF := fresh_rb hE0 hok.fresh
  obtain ⟨X, hX⟩ : ∃ X, (evl E (.slice A E.body.length c)).toArray = X := ⟨_, rfl⟩
  rw [hX] at hB0 hC hE0 hF ⊢
  have hc0 := hC.c0
  rw [hk] at hc0
  have HL : Hid (lineL E = ([99, 114, 97, 115, 104, 32] : List UInt8) ++ Lib.itoa E.who ++ [32] ++ hexL E.body) := Lib.hid (by
    unfold lineL
    rw [hk]
    simp [formL, joinW, joinTail_cons, Fk.word, show Lib.joinTail [32] [] = [] from rfl])
  have hfl := hok.fresh
  have hBl := hE0.body
  have hz_who := hok.who
  have hl_who := Lib.itoa_length_le E.who hz_who.1 hz_who.2
  have hc_who := hC.c1
  have hq_body : E.body.length ≤ 1000000 := hsz.body
  have hl_body : (hexL E.body).length ≤ 2000001 := by have := hexL_len E.body; omega
  have hc_body := hC.c6
  clear hr0 hX hC hk
  generalize E.who = z_who at *
  have hI_who := fun W => rint_any z_who W hz_who
  go_enter Tryd.func8, Tryd.ntmps8
  go_upto_region 16 with fail
  obtain ⟨w1, hw1⟩ : ∃ w1, w.alloc (.cells X 28) = w1 := ⟨_, rfl⟩
  obtain ⟨b, hb⟩ : ∃ b, w.heap.size = b := ⟨_, rfl⟩
  rw [hw1] at hB0 hE0 hF hBl hc_who hc_body ⊢
  rw [hb] at hE0 hF hc_who hc_body ⊢
  have hlt : b < w1.heap.size := hE0.row.lt
  clear hw1 hc0 hE0
  have HS : Hid (∀ W, Below w1.heap.size w1 W → W.cell? ⟨b, 1, none⟩ = some (.int .i64 z_who) ∧ W.cell? ⟨b, 6, none⟩ = some (.slice A E.body.length c)) := Lib.hid fun W hb => ⟨(hb.cell (p := ⟨b, 1, none⟩) hlt).trans hc_who, (hb.cell (p := ⟨b, 6, none⟩) hlt).trans hc_body⟩
  have hBd : Below w1.heap.size w1 w1.drew := (Below.refl _ w1).drew
  have hSd := HS.out _ hBd
  refine wp_region_held_drew (S := fun W => W.cell? ⟨b, 1, none⟩ = some (.int .i64 z_who) ∧ W.cell? ⟨b, 6, none⟩ = some (.slice A E.body.length c)) (by kernel_rfl) (by exact hSd) (fun hHeld => ?_)
  refine wpAnyH_take (i := 0) (v := ?_) rfl (by kernel_rfl) (by kernel_rfl) (by kernel_rfl) (fun _ _ _ h => h) (Or.inl ⟨by rfl, ?_⟩) (by assumption) ?_
  rotate_left 1
  focus (intro w hSw; (try dsimp only at hSw); go_simp; (first | done | with_reducible rfl | (rw [if_neg] <;> first | omega | rfl) | skip))
  (try simp only [Act.put, List.setIfInBounds_toArray, List.set_cons_zero, List.set_cons_succ, List.getElem_toArray, List.getElem_cons_zero, List.getElem_cons_succ])
  refine wpAnyH_take (i := 1) (v := ?_) rfl (by kernel_rfl) (by kernel_rfl) (by kernel_rfl) (fun _ _ _ h => h) (Or.inl ⟨by rfl, ?_⟩) (by assumption) ?_
  rotate_left 1
  focus (intro w hSw; (try dsimp only at hSw); go_simp; (first | done | with_reducible rfl | (rw [if_neg] <;> first | omega | rfl) | skip))
  (try simp only [Act.put, List.setIfInBounds_toArray, List.set_cons_zero, List.set_cons_succ, List.getElem_toArray, List.getElem_cons_zero, List.getElem_cons_succ])
  refine wpAnyH_take (i := 5) (v := ?_) rfl (by kernel_rfl) (by kernel_rfl) (by kernel_rfl) (fun _ _ _ h => h) (Or.inl ⟨by rfl, ?_⟩) (by assumption) ?_
  rotate_left 1
  focus (intro w hSw; (try dsimp only at hSw); go_simp; (first | done | with_reducible rfl | (rw [if_neg] <;> first | omega | rfl) | skip))
  (try simp only [Act.put, List.setIfInBounds_toArray, List.set_cons_zero, List.set_cons_succ, List.getElem_toArray, List.getElem_cons_zero, List.getElem_cons_succ])
  refine wpAnyH_take (i := 6) (v := ?_) rfl (by kernel_rfl) (by kernel_rfl) (by kernel_rfl) (fun _ _ _ h => h) (Or.inl ⟨by rfl, ?_⟩) (by assumption) ?_
  rotate_left 1
  focus (intro w hSw; (try dsimp only at hSw); go_simp; (first | done | with_reducible rfl | (rw [if_neg] <;> first | omega | rfl) | skip))
  (try simp only [Act.put, List.setIfInBounds_toArray, List.set_cons_zero, List.set_cons_succ, List.getElem_toArray, List.getElem_cons_zero, List.getElem_cons_succ])
  refine wpAnyH_ready (rs := [2]) (by kernel_rfl) (by simp) ?_
  refine AllReadyH.cons rfl (fun K hK => ?_) AllReadyH.nil
  go_simp
  go_wp2_with (go_at_call 14; (with_reducible refine (hI_who _).mono ?_); rintro e w' ⟨rfl, rfl⟩)
  refine hK.out _ _ hHeld (fun hHeld => ?_)
  clear hK K
  (try simp only [Act.put, List.setIfInBounds_toArray, List.set_cons_zero, List.set_cons_succ, List.getElem_toArray, List.getElem_cons_zero, List.getElem_cons_succ])
  refine wpAnyH_take (i := 3) (v := ?_) rfl (by kernel_rfl) (by kernel_rfl) (by kernel_rfl) (fun _ _ _ h => h) (Or.inl ⟨by rfl, ?_⟩) (by assumption) ?_
  rotate_left 1
  focus (intro w hSw; (try dsimp only at hSw); go_simp; (first | done | with_reducible rfl | (rw [if_neg] <;> first | omega | rfl) | skip))
  (try simp only [Act.put, List.setIfInBounds_toArray, List.set_cons_zero, List.set_cons_succ, List.getElem_toArray, List.getElem_cons_zero, List.getElem_cons_succ])
  refine wpAnyH_take (i := 4) (v := ?_) rfl (by kernel_rfl) (by kernel_rfl) (by kernel_rfl) (fun _ _ _ h => h) (Or.inl ⟨by rfl, ?_⟩) (by assumption) ?_
  rotate_left 1
  focus (intro w hSw; (try dsimp only at hSw); go_simp; (first | done | with_reducible rfl | (rw [if_neg] <;> first | omega | rfl) | skip))
  (try simp only [Act.put, List.setIfInBounds_toArray, List.set_cons_zero, List.set_cons_succ, List.getElem_toArray, List.getElem_cons_zero, List.getElem_cons_succ])
  refine wpAnyH_ready (rs := [7]) (by kernel_rfl) (by simp) ?_
  refine AllReadyH.cons rfl (fun K hK => ?_) AllReadyH.nil
  go_simp
  go_wp2_with (go_at_call 15; refine (rhex_any A E.body E.body.length c _ rfl (hBl.below hBd) hq_body).mono ?_; rintro e w5 ⟨rfl, hb5⟩; have hB5 := hBd.trans (hb5.mono hBd.size); have hS5 := HS.out _ hB5)
  refine hK.out _ _ hS5 (fun hHeld => ?_)
  clear hK K
  (try simp only [Act.put, List.setIfInBounds_toArray, List.set_cons_zero, List.set_cons_succ, List.getElem_toArray, List.getElem_cons_zero, List.getElem_cons_succ])
  refine wpAnyH_take (i := 8) (v := ?_) rfl (by kernel_rfl) (by kernel_rfl) (by kernel_rfl) (fun _ _ _ h => h) (Or.inl ⟨by rfl, ?_⟩) (by assumption) ?_
  rotate_left 1
  focus (intro w hSw; (try dsimp only at hSw); go_simp; (first | done | with_reducible rfl | (rw [if_neg] <;> first | omega | rfl) | skip))
  (try simp only [Act.put, List.setIfInBounds_toArray, List.set_cons_zero, List.set_cons_succ, List.getElem_toArray, List.getElem_cons_zero, List.getElem_cons_succ])
  refine wpAnyH_take (i := 9) (v := ?_) rfl (by kernel_rfl) (by kernel_rfl) (by kernel_rfl) (fun _ _ _ h => h) (Or.inl ⟨by rfl, ?_⟩) (by assumption) ?_
  rotate_left 1
  focus (intro w hSw; (try dsimp only at hSw); go_simp; (first | done | with_reducible rfl | (rw [if_neg] <;> first | omega | rfl) | skip))
  (try simp only [Act.put, List.setIfInBounds_toArray, List.set_cons_zero, List.set_cons_succ, List.getElem_toArray, List.getElem_cons_zero, List.getElem_cons_succ])
  refine wpAnyH_done (by kernel_rfl) ?_ _
  go_wp2_with fail
  go_ret
  refine ⟨ret_str ?_, ?_⟩
  · rw [HL.out]
    show bs [99, 114, 97, 115, 104, 32] ++ bs (Lib.itoa z_who) ++ bs [32] ++ bs (hexL E.body) = _
    simp only [bs_add]
  · exact hB0.trans (hB5.mono hB0.size)
set_option maxRecDepth 100000 in
set_option maxHeartbeats 4000000 in
theorem rline9 (E : Ev) (A : Option Addr) (c : Nat) (w : World) (hk : E.kind = 9) (hsz : E.Sz) (hok : E.Ok) (hfit : E.body.length ≤ c) (hR : Rb w A E.body) :
    Calls Tryd.prog 8 #[.agg (evl E (.slice A E.body.length c)).toArray] w fun e w' => e = .returned (.string (bs (lineL E))) ∧ Below w.heap.size w w' := by
  have hr0 : Row (w.alloc (.cells (evl E (.slice A E.body.length c)).toArray 28)) w.heap.size 28 (evl E (.slice A E.body.length c)) := Row.new w _ _
  have hB0 : Below w.heap.size w (w.alloc (.cells (evl E (.slice A E.body.length c)).toArray 28)) := (Below.refl _ w).alloc (Nat.le_refl _) _
  have hE0 : EvR (w.alloc (.cells (evl E (.slice A E.body.length c)).toArray 28)) w.heap.size E A c := ⟨hr0, hfit, hR.below hB0⟩
  have hC := hE0.cells hok
  have hF := fresh_rb hE0 hok.fresh
  obtain ⟨X, hX⟩ : ∃ X, (evl E (.slice A E.body.length c)).toArray = X := ⟨_, rfl⟩
  rw [hX] at hB0 hC hE0 hF ⊢
  have hc0 := hC.c0
  rw [hk] at hc0
  have HL : Hid (lineL E = ([114, 101, 115, 101, 116, 32] : List UInt8) ++ Lib.itoa E.who ++ [32] ++ hexL E.thread) := Lib.hid (by
    unfold lineL
    rw [hk]
    simp [formL, joinW, joinTail_cons, Fk.word, show Lib.joinTail [32] [] = [] from rfl])
  have hfl := hok.fresh
  have hBl := hE0.body
  have hz_who := hok.who
  have hl_who := Lib.itoa_length_le E.who hz_who.1 hz_who.2
  have hc_who := hC.c1
  have hq_thread : E.thread.length ≤ 1000000 := hsz.thread
  have hl_thread : (hexL E.thread).length ≤ 2000001 := by have := hexL_len E.thread; omega
  have hc_thread := hC.c5
  clear hr0 hX hC hk
  generalize E.who = z_who at *
  have hI_who := fun W => rint_any z_who W hz_who
  go_enter Tryd.func8, Tryd.ntmps8
  go_upto_region 18 with fail
  obtain ⟨w1, hw1⟩ : ∃ w1, w.alloc (.cells X 28) = w1 := ⟨_, rfl⟩
  obtain ⟨b, hb⟩ : ∃ b, w.heap.size = b := ⟨_, rfl⟩
  rw [hw1] at hB0 hE0 hF hBl hc_who hc_thread ⊢
  rw [hb] at hE0 hF hc_who hc_thread ⊢
  have hlt : b < w1.heap.size := hE0.row.lt
  clear hw1 hc0 hE0
  have HS : Hid (∀ W, Below w1.heap.size w1 W → W.cell? ⟨b, 1, none⟩ = some (.int .i64 z_who) ∧ W.cell? ⟨b, 5, none⟩ = some (.string (bs E.thread))) := Lib.hid fun W hb => ⟨(hb.cell (p := ⟨b, 1, none⟩) hlt).trans hc_who, (hb.cell (p := ⟨b, 5, none⟩) hlt).trans hc_thread⟩
  have hBd : Below w1.heap.size w1 w1.drew := (Below.refl _ w1).drew
  have hSd := HS.out _ hBd
  obtain ⟨cx, Xx, fx, hcv, hlx, hRx⟩ := conv_bytes (P := Tryd.prog) (src := 9) (dst := 22) (e := 5) Tryd.underlying9 Tryd.underlying22 Tryd.underlying5 E.thread w1.drew
  have hBc : Below w1.heap.size w1 (w1.drew.drew.alloc (.cells Xx 5 fx)) := (hBd.drew).alloc (Nat.le_refl _) _
  have hSc := HS.out _ hBc
  refine wp_region_held_drew (S := fun W => W.cell? ⟨b, 1, none⟩ = some (.int .i64 z_who) ∧ W.cell? ⟨b, 5, none⟩ = some (.string (bs E.thread))) (by kernel_rfl) (by exact hSd) (fun hHeld => ?_)
  refine wpAnyH_take (i := 0) (v := ?_) rfl (by kernel_rfl) (by kernel_rfl) (by kernel_rfl) (fun _ _ _ h => h) (Or.inl ⟨by rfl, ?_⟩) (by assumption) ?_
  rotate_left 1
  focus (intro w hSw; (try dsimp only at hSw); go_simp; (first | done | with_reducible rfl | (rw [if_neg] <;> first | omega | rfl) | skip))
  (try simp only [Act.put, List.setIfInBounds_toArray, List.set_cons_zero, List.set_cons_succ, List.getElem_toArray, List.getElem_cons_zero, List.getElem_cons_succ])
  refine wpAnyH_take (i := 1) (v := ?_) rfl (by kernel_rfl) (by kernel_rfl) (by kernel_rfl) (fun _ _ _ h => h) (Or.inl ⟨by rfl, ?_⟩) (by assumption) ?_
  rotate_left 1
  focus (intro w hSw; (try dsimp only at hSw); go_simp; (first | done | with_reducible rfl | (rw [if_neg] <;> first | omega | rfl) | skip))
  (try simp only [Act.put, List.setIfInBounds_toArray, List.set_cons_zero, List.set_cons_succ, List.getElem_toArray, List.getElem_cons_zero, List.getElem_cons_succ])
  refine wpAnyH_take (i := 5) (v := ?_) rfl (by kernel_rfl) (by kernel_rfl) (by kernel_rfl) (fun _ _ _ h => h) (Or.inl ⟨by rfl, ?_⟩) (by assumption) ?_
  rotate_left 1
  focus (intro w hSw; (try dsimp only at hSw); go_simp; (first | done | with_reducible rfl | (rw [if_neg] <;> first | omega | rfl) | skip))
  (try simp only [Act.put, List.setIfInBounds_toArray, List.set_cons_zero, List.set_cons_succ, List.getElem_toArray, List.getElem_cons_zero, List.getElem_cons_succ])
  refine wpAnyH_take (i := 6) (v := ?_) rfl (by kernel_rfl) (by kernel_rfl) (by kernel_rfl) (fun _ _ _ h => h) (Or.inl ⟨by rfl, ?_⟩) (by assumption) ?_
  rotate_left 1
  focus (intro w hSw; (try dsimp only at hSw); go_simp; (first | done | with_reducible rfl | (rw [if_neg] <;> first | omega | rfl) | skip))
  (try simp only [Act.put, List.setIfInBounds_toArray, List.set_cons_zero, List.set_cons_succ, List.getElem_toArray, List.getElem_cons_zero, List.getElem_cons_succ])
  refine wpAnyH_ready (rs := [2, 7]) (by kernel_rfl) (by simp) ?_
  refine AllReadyH.cons rfl (fun K hK => ?_) (AllReadyH.cons rfl (fun K hK => ?_) AllReadyH.nil)
  · skip
    go_simp
    go_wp2_with (go_at_call 14; (with_reducible refine (hI_who _).mono ?_); rintro e w' ⟨rfl, rfl⟩)
    refine hK.out _ _ hHeld (fun hHeld => ?_)
    clear hK K
    (try simp only [Act.put, List.setIfInBounds_toArray, List.set_cons_zero, List.set_cons_succ, List.getElem_toArray, List.getElem_cons_zero, List.getElem_cons_succ])
    refine wpAnyH_take (i := 3) (v := ?_) rfl (by kernel_rfl) (by kernel_rfl) (by kernel_rfl) (fun _ _ _ h => h) (Or.inl ⟨by rfl, ?_⟩) (by assumption) ?_
    rotate_left 1
    focus (intro w hSw; (try dsimp only at hSw); go_simp; (first | done | with_reducible rfl | (rw [if_neg] <;> first | omega | rfl) | skip))
    (try simp only [Act.put, List.setIfInBounds_toArray, List.set_cons_zero, List.set_cons_succ, List.getElem_toArray, List.getElem_cons_zero, List.getElem_cons_succ])
    refine wpAnyH_take (i := 4) (v := ?_) rfl (by kernel_rfl) (by kernel_rfl) (by kernel_rfl) (fun _ _ _ h => h) (Or.inl ⟨by rfl, ?_⟩) (by assumption) ?_
    rotate_left 1
    focus (intro w hSw; (try dsimp only at hSw); go_simp; (first | done | with_reducible rfl | (rw [if_neg] <;> first | omega | rfl) | skip))
    (try simp only [Act.put, List.setIfInBounds_toArray, List.set_cons_zero, List.set_cons_succ, List.getElem_toArray, List.getElem_cons_zero, List.getElem_cons_succ])
    refine wpAnyH_ready (rs := [7]) (by kernel_rfl) (by simp) ?_
    refine AllReadyH.cons rfl (fun K hK => ?_) AllReadyH.nil
    go_simp
    refine hK.out _ _ hSc (fun hHeld => ?_)
    clear hK K
    (try simp only [Act.put, List.setIfInBounds_toArray, List.set_cons_zero, List.set_cons_succ, List.getElem_toArray, List.getElem_cons_zero, List.getElem_cons_succ])
    refine wpAnyH_ready (rs := [8]) (by kernel_rfl) (by simp) ?_
    refine AllReadyH.cons rfl (fun K hK => ?_) AllReadyH.nil
    go_simp
    go_wp2_with (go_at_call 15; refine (rhex_any (some ⟨w1.heap.size, 0, none⟩) E.thread E.thread.length cx _ rfl hRx hq_thread).mono ?_; rintro e w5 ⟨rfl, hb5⟩; have hB5 := hBc.trans (hb5.mono hBc.size); have hS5 := HS.out _ hB5)
    refine hK.out _ _ hS5 (fun hHeld => ?_)
    clear hK K
    (try simp only [Act.put, List.setIfInBounds_toArray, List.set_cons_zero, List.set_cons_succ, List.getElem_toArray, List.getElem_cons_zero, List.getElem_cons_succ])
    refine wpAnyH_take (i := 9) (v := ?_) rfl (by kernel_rfl) (by kernel_rfl) (by kernel_rfl) (fun _ _ _ h => h) (Or.inl ⟨by rfl, ?_⟩) (by assumption) ?_
    rotate_left 1
    focus (intro w hSw; (try dsimp only at hSw); go_simp; (first | done | with_reducible rfl | (rw [if_neg] <;> first | omega | rfl) | skip))
    (try simp only [Act.put, List.setIfInBounds_toArray, List.set_cons_zero, List.set_cons_succ, List.getElem_toArray, List.getElem_cons_zero, List.getElem_cons_succ])
    refine wpAnyH_take (i := 10) (v := ?_) rfl (by kernel_rfl) (by kernel_rfl) (by kernel_rfl) (fun _ _ _ h => h) (Or.inl ⟨by rfl, ?_⟩) (by assumption) ?_
    rotate_left 1
    focus (intro w hSw; (try dsimp only at hSw); go_simp; (first | done | with_reducible rfl | (rw [if_neg] <;> first | omega | rfl) | skip))
    (try simp only [Act.put, List.setIfInBounds_toArray, List.set_cons_zero, List.set_cons_succ, List.getElem_toArray, List.getElem_cons_zero, List.getElem_cons_succ])
    refine wpAnyH_done (by kernel_rfl) ?_ _
    go_wp2_with fail
    go_ret
    refine ⟨ret_str ?_, ?_⟩
    · rw [HL.out]
      show bs [114, 101, 115, 101, 116, 32] ++ bs (Lib.itoa z_who) ++ bs [32] ++ bs (hexL E.thread) = _
      simp only [bs_add]
    · exact hB0.trans (hB5.mono hB0.size)
  · skip
    go_simp
    refine hK.out _ _ hSc (fun hHeld => ?_)
    clear hK K
    (try simp only [Act.put, List.setIfInBounds_toArray, List.set_cons_zero, List.set_cons_succ, List.getElem_toArray, List.getElem_cons_zero, List.getElem_cons_succ])
    refine wpAnyH_ready (rs := [2]) (by kernel_rfl) (by simp) ?_
    refine AllReadyH.cons rfl (fun K hK => ?_) AllReadyH.nil
    go_simp
    go_wp2_with (go_at_call 14; (with_reducible refine (hI_who _).mono ?_); rintro e w' ⟨rfl, rfl⟩)
    refine hK.out _ _ hHeld (fun hHeld => ?_)
    clear hK K
    (try simp only [Act.put, List.setIfInBounds_toArray, List.set_cons_zero, List.set_cons_succ, List.getElem_toArray, List.getElem_cons_zero, List.getElem_cons_succ])
    refine wpAnyH_take (i := 3) (v := ?_) rfl (by kernel_rfl) (by kernel_rfl) (by kernel_rfl) (fun _ _ _ h => h) (Or.inl ⟨by rfl, ?_⟩) (by assumption) ?_
    rotate_left 1
    focus (intro w hSw; (try dsimp only at hSw); go_simp; (first | done | with_reducible rfl | (rw [if_neg] <;> first | omega | rfl) | skip))
    (try simp only [Act.put, List.setIfInBounds_toArray, List.set_cons_zero, List.set_cons_succ, List.getElem_toArray, List.getElem_cons_zero, List.getElem_cons_succ])
    refine wpAnyH_take (i := 4) (v := ?_) rfl (by kernel_rfl) (by kernel_rfl) (by kernel_rfl) (fun _ _ _ h => h) (Or.inl ⟨by rfl, ?_⟩) (by assumption) ?_
    rotate_left 1
    focus (intro w hSw; (try dsimp only at hSw); go_simp; (first | done | with_reducible rfl | (rw [if_neg] <;> first | omega | rfl) | skip))
    (try simp only [Act.put, List.setIfInBounds_toArray, List.set_cons_zero, List.set_cons_succ, List.getElem_toArray, List.getElem_cons_zero, List.getElem_cons_succ])
    refine wpAnyH_ready (rs := [8]) (by kernel_rfl) (by simp) ?_
    refine AllReadyH.cons rfl (fun K hK => ?_) AllReadyH.nil
    go_simp
    go_wp2_with (go_at_call 15; refine (rhex_any (some ⟨w1.heap.size, 0, none⟩) E.thread E.thread.length cx _ rfl hRx hq_thread).mono ?_; rintro e w5 ⟨rfl, hb5⟩; have hB5 := hBc.trans (hb5.mono hBc.size); have hS5 := HS.out _ hB5)
    refine hK.out _ _ hS5 (fun hHeld => ?_)
    clear hK K
    (try simp only [Act.put, List.setIfInBounds_toArray, List.set_cons_zero, List.set_cons_succ, List.getElem_toArray, List.getElem_cons_zero, List.getElem_cons_succ])
    refine wpAnyH_take (i := 9) (v := ?_) rfl (by kernel_rfl) (by kernel_rfl) (by kernel_rfl) (fun _ _ _ h => h) (Or.inl ⟨by rfl, ?_⟩) (by assumption) ?_
    rotate_left 1
    focus (intro w hSw; (try dsimp only at hSw); go_simp; (first | done | with_reducible rfl | (rw [if_neg] <;> first | omega | rfl) | skip))
    (try simp only [Act.put, List.setIfInBounds_toArray, List.set_cons_zero, List.set_cons_succ, List.getElem_toArray, List.getElem_cons_zero, List.getElem_cons_succ])
    refine wpAnyH_take (i := 10) (v := ?_) rfl (by kernel_rfl) (by kernel_rfl) (by kernel_rfl) (fun _ _ _ h => h) (Or.inl ⟨by rfl, ?_⟩) (by assumption) ?_
    rotate_left 1
    focus (intro w hSw; (try dsimp only at hSw); go_simp; (first | done | with_reducible rfl | (rw [if_neg] <;> first | omega | rfl) | skip))
    (try simp only [Act.put, List.setIfInBounds_toArray, List.set_cons_zero, List.set_cons_succ, List.getElem_toArray, List.getElem_cons_zero, List.getElem_cons_succ])
    refine wpAnyH_done (by kernel_rfl) ?_ _
    go_wp2_with fail
    go_ret
    refine ⟨ret_str ?_, ?_⟩
    · rw [HL.out]
      show bs [114, 101, 115, 101, 116, 32] ++ bs (Lib.itoa z_who) ++ bs [32] ++ bs (hexL E.thread) = _
      simp only [bs_add]
    · exact hB0.trans (hB5.mono hB0.size)


end Go.Proofs.YtleolfpgiaimfaaDoor
