/- The walk of the law, part 46. -/
import Derived.Test.YtkllecicddfjpaaGreatDoorJ45
import Derived.BigRegion
import Derived.Deep.RegionHeld3
import Derived.Deep.RegionHeldLaw
set_option maxRecDepth 100000
set_option maxHeartbeats 16000000
set_option linter.unusedVariables false
set_option linter.unusedSimpArgs false
namespace Go.Proofs.YtkllecicddfjpaaGreatDoor
section
open Go.RowKit
theorem ver_pre (u5 : Option Addr) (u7 : Nat) (W : World) (hb : Rb W u5 verB) (hc : 10 ≤ u7) :
 Calls Tryz.prog 96 #[.slice u5 10 u7,.slice (some ⟨W.heap.size,0,none⟩) 10 10] (W.alloc (.cells #[.int .u8 86,.int .u8 101,.int .u8 114,.int .u8 115,.int .u8 105,.int .u8 111,.int .u8 110,.int .u8 58,.int .u8 32,.int .u8 49] 5 (10,11))) fun e w' => e = .returned (.bool true) ∧ w' = W.alloc (.cells #[.int .u8 86,.int .u8 101,.int .u8 114,.int .u8 115,.int .u8 105,.int .u8 111,.int .u8 110,.int .u8 58,.int .u8 32,.int .u8 49] 5 (10,11)) := by
 have hb1 := (Below.refl W.heap.size W).alloc (Nat.le_refl _) (.cells #[.int .u8 86,.int .u8 101,.int .u8 114,.int .u8 115,.int .u8 105,.int .u8 111,.int .u8 110,.int .u8 58,.int .u8 32,.int .u8 49] 5 (10,11))
 have hx1 : Rb (W.alloc (.cells #[.int .u8 86,.int .u8 101,.int .u8 114,.int .u8 115,.int .u8 105,.int .u8 111,.int .u8 110,.int .u8 58,.int .u8 32,.int .u8 49] 5 (10,11))) (some ⟨W.heap.size,0,none⟩) verB := Rb_new W verB _ _ rfl 10 (10,11)
 have h := Tryz.bytes_HasPrefix_all u5 (some ⟨W.heap.size,0,none⟩) 10 u7 10 10 (nums verB) (nums verB) _ rfl rfl hc (bytesIn_of (hb.below hb1)) (bytesIn_of hx1)
 rw [bytesOf_nums] at h
 exact h
theorem inside_seal (A : Option Addr) (c : Nat) (code : Int) (B : Option Addr) (nb cb : Nat) (C : Option Addr) (cc : Nat) (q0 q1 : Pv) (w : World) (hA : Rv w A (Tk.pcells prms)) (hC : Rv w C (pvs [q0,q1])) (h0 : q0.k = oursN) (h1 : q1.k = octN)
 (hb : Rb w q0.B verB) (hnb : q0.nb = 10) (hcb : 10 ≤ q0.cb) :
 Calls Tryz.prog 45 #[.agg #[.string (bs sealN),.slice A 2 c,.int .i64 code,.slice B nb cb,.slice C 2 cc]] w fun e w' => e = .returned (.tuple #[.slice q1.B q1.nb q1.cb,.bool false,.bool true]) ∧ Below w.heap.size w w' := by
 have hB0 : Below w.heap.size w (w.alloc (.cells #[.string (bs sealN),.slice A 2 c,.int .i64 code,.slice B nb cb,.slice C 2 cc] 34)) := (Below.refl _ _).alloc (Nat.le_refl _) _
 have r0 := Row.new w #[.string (bs sealN),.slice A 2 c,.int .i64 code,.slice B nb cb,.slice C 2 cc] 34
 have hix := prot_any A prms 2 c (w.alloc (.cells #[.string (bs sealN),.slice A 2 c,.int .i64 code,.slice B nb cb,.slice C 2 cc] 34)) rfl (hA.below hB0) (by omega)
 rw [show parZ prms protN = 1 by decide] at hix
 go_enter Tryz.func45,Tryz.ntmps45
 go_wp2_with fail
 refine hix.mono ?_
 rintro e w1 ⟨rfl,hb1⟩
 have hB1 := hB0.trans (hb1.mono hB0.size)
 have r1 := r0.below hb1
 have k0 := r1.cell (j := 0) rfl
 have k1 := r1.cell (j := 1) rfl
 have k3 := r1.cell (j := 3) rfl
 have k4 := r1.cell (j := 4) rfl
 obtain ⟨ba,oa,rfl,hca⟩ := (hA.below hB1) (by decide)
 have j1 : w1.cell? ⟨ba,oa + 1 * 2 + 1,none⟩ = some (.string (bs oursN)) := hca 3 _ rfl
 obtain ⟨bc,oc,rfl,hcc⟩ := (hC.below hB1) (by simp [pvs,Pv.cells])
 obtain ⟨u0,u1,u2,u3,u4,u5,u6,u7,u8,u9,u10⟩ := q0
 obtain ⟨v0,v1,v2,v3,v4,v5,v6,v7,v8,v9,v10⟩ := q1
 simp only at h0 h1 hb hnb hcb ⊢
 subst h0 h1 hnb
 have m0 : w1.cell? ⟨bc,oc,none⟩ = some (.string (bs oursN)) := hcc 0 _ rfl
 have m1 : w1.cell? ⟨bc,oc + 1,none⟩ = some (.slice u1 u2 u3) := hcc 1 _ rfl
 have m2 : w1.cell? ⟨bc,oc + 2,none⟩ = some (.int .i64 u4) := hcc 2 _ rfl
 have m3 : w1.cell? ⟨bc,oc + 3,none⟩ = some (.slice u5 10 u7) := hcc 3 _ rfl
 have m4 : w1.cell? ⟨bc,oc + 4,none⟩ = some (.slice u8 u9 u10) := hcc 4 _ rfl
 have m5 : w1.cell? ⟨bc,oc + 5,none⟩ = some (.string (bs octN)) := hcc 5 _ rfl
 have m6 : w1.cell? ⟨bc,oc + 5 + 1,none⟩ = some (.slice v1 v2 v3) := hcc 6 _ rfl
 have m7 : w1.cell? ⟨bc,oc + 5 + 2,none⟩ = some (.int .i64 v4) := hcc 7 _ rfl
 have m8 : w1.cell? ⟨bc,oc + 5 + 3,none⟩ = some (.slice v5 v6 v7) := hcc 8 _ rfl
 have m9 : w1.cell? ⟨bc,oc + 5 + 4,none⟩ = some (.slice v8 v9 v10) := hcc 9 _ rfl
 have hbc := cell_lt m0
 have hlt : w.heap.size < w1.heap.size := cell_lt k0
 clear hix hca hcc
 go_wp2_with fail
 go_region
 ·have rx := (Row.new w1 #[.string (bs oursN),.slice u1 u2 u3,.int .i64 u4,.slice u5 10 u7,.slice u8 u9 u10] 34).alloc (.cells #[.string (bs octN),.slice v1 v2 v3,.int .i64 v4,.slice v5 v6 v7,.slice v8 v9 v10] 34)
  have ry := Row.new (w1.alloc (.cells #[.string (bs oursN),.slice u1 u2 u3,.int .i64 u4,.slice u5 10 u7,.slice u8 u9 u10] 34)) #[.string (bs octN),.slice v1 v2 v3,.int .i64 v4,.slice v5 v6 v7,.slice v8 v9 v10] 34
  rw [World.size_alloc] at ry
  have hbx : Below w1.heap.size w1 ((w1.alloc (.cells #[.string (bs oursN),.slice u1 u2 u3,.int .i64 u4,.slice u5 10 u7,.slice u8 u9 u10] 34)).alloc (.cells #[.string (bs octN),.slice v1 v2 v3,.int .i64 v4,.slice v5 v6 v7,.slice v8 v9 v10] 34)).drew := (((Below.refl _ _).alloc (Nat.le_refl _) _).alloc (by simp) _).drew
  have m0 : ((w1.alloc (.cells #[.string (bs oursN),.slice u1 u2 u3,.int .i64 u4,.slice u5 10 u7,.slice u8 u9 u10] 34)).alloc (.cells #[.string (bs octN),.slice v1 v2 v3,.int .i64 v4,.slice v5 v6 v7,.slice v8 v9 v10] 34)).drew.cell? ⟨w1.heap.size,0,none⟩ = some (.string (bs oursN)) := rx.cell (j := 0) rfl
  have m1 : ((w1.alloc (.cells #[.string (bs oursN),.slice u1 u2 u3,.int .i64 u4,.slice u5 10 u7,.slice u8 u9 u10] 34)).alloc (.cells #[.string (bs octN),.slice v1 v2 v3,.int .i64 v4,.slice v5 v6 v7,.slice v8 v9 v10] 34)).drew.cell? ⟨w1.heap.size,3,none⟩ = some (.slice u5 10 u7) := rx.cell (j := 3) rfl
  have m2 : ((w1.alloc (.cells #[.string (bs oursN),.slice u1 u2 u3,.int .i64 u4,.slice u5 10 u7,.slice u8 u9 u10] 34)).alloc (.cells #[.string (bs octN),.slice v1 v2 v3,.int .i64 v4,.slice v5 v6 v7,.slice v8 v9 v10] 34)).drew.cell? ⟨w1.heap.size + 1,0,none⟩ = some (.string (bs octN)) := ry.cell (j := 0) rfl
  have m3 : ((w1.alloc (.cells #[.string (bs oursN),.slice u1 u2 u3,.int .i64 u4,.slice u5 10 u7,.slice u8 u9 u10] 34)).alloc (.cells #[.string (bs octN),.slice v1 v2 v3,.int .i64 v4,.slice v5 v6 v7,.slice v8 v9 v10] 34)).drew.cell? ⟨w1.heap.size + 1,3,none⟩ = some (.slice v5 v6 v7) := ry.cell (j := 3) rfl
  obtain ⟨W,hW⟩ : ∃ W,((w1.alloc (.cells #[.string (bs oursN),.slice u1 u2 u3,.int .i64 u4,.slice u5 10 u7,.slice u8 u9 u10] 34)).alloc (.cells #[.string (bs octN),.slice v1 v2 v3,.int .i64 v4,.slice v5 v6 v7,.slice v8 v9 v10] 34)).drew = W := ⟨_,rfl⟩
  rw [hW] at m0 m1 m2 m3 hbx ⊢
  clear hW rx ry
  have HS := Lib.hid (show ∀ W',Below W.heap.size W W' → (Below W.heap.size W W' ∧ W'.cell? ⟨w1.heap.size,0,none⟩ = some (.string (bs oursN)) ∧ W'.cell? ⟨w1.heap.size,3,none⟩ = some (.slice u5 10 u7) ∧ W'.cell? ⟨w1.heap.size + 1,0,none⟩ = some (.string (bs octN)) ∧ W'.cell? ⟨w1.heap.size + 1,3,none⟩ = some (.slice v5 v6 v7)) from fun W' h => ⟨h,(h.cell (cell_lt m0)).trans m0,(h.cell (cell_lt m1)).trans m1,(h.cell (cell_lt m2)).trans m2,(h.cell (cell_lt m3)).trans m3⟩)
  have HV := Lib.hid (show ∀ W',Below W.heap.size W W' → Calls Tryz.prog 96 #[.slice u5 10 u7,.slice (some ⟨W'.heap.size,0,none⟩) 10 10] (W'.alloc (.cells #[.int .u8 86,.int .u8 101,.int .u8 114,.int .u8 115,.int .u8 105,.int .u8 111,.int .u8 110,.int .u8 58,.int .u8 32,.int .u8 49] 5 (10,11))).drew fun e w' => e = .returned (.bool true) ∧ w' = (W'.alloc (.cells #[.int .u8 86,.int .u8 101,.int .u8 114,.int .u8 115,.int .u8 105,.int .u8 111,.int .u8 110,.int .u8 58,.int .u8 32,.int .u8 49] 5 (10,11))).drew from fun W' h => ver_pre u5 u7 W'.drew (((hb.below (hB1.trans (hbx.mono hB1.size))).below h).drewN 1) hcb)
  have hcv : ∀ W : World,(convert 22 22 (.slice (some ⟨W.heap.size,0,none⟩) 10 10)).run Tryz.prog (W.alloc (.cells #[.int .u8 86,.int .u8 101,.int .u8 114,.int .u8 115,.int .u8 105,.int .u8 111,.int .u8 110,.int .u8 58,.int .u8 32,.int .u8 49] 5)).drew = .ok (.slice (some ⟨W.heap.size,0,none⟩) 10 10) (W.alloc (.cells #[.int .u8 86,.int .u8 101,.int .u8 114,.int .u8 115,.int .u8 105,.int .u8 111,.int .u8 110,.int .u8 58,.int .u8 32,.int .u8 49] 5 (10,11))).drew := fun W => Lib.run_convert_bytes_const (P := Tryz.prog) W.drew 22 5 #[.int .u8 86,.int .u8 101,.int .u8 114,.int .u8 115,.int .u8 105,.int .u8 111,.int .u8 110,.int .u8 58,.int .u8 32,.int .u8 49] 10 10 Tryz.underlying22 Tryz.underlying5
  have h00 := Below.refl W.heap.size W
  go_wp2_with fail
  refine wp_region_held_drew (S := (fun W' => Below W.heap.size W W' ∧ W'.cell? ⟨w1.heap.size,0,none⟩ = some (.string (bs oursN)) ∧ W'.cell? ⟨w1.heap.size,3,none⟩ = some (.slice u5 10 u7) ∧ W'.cell? ⟨w1.heap.size + 1,0,none⟩ = some (.string (bs octN)) ∧ W'.cell? ⟨w1.heap.size + 1,3,none⟩ = some (.slice v5 v6 v7))) (by kernel_rfl) (by exact HS.out _ (by first | with_reducible assumption | exact Below.drew (by with_reducible assumption) | exact Below.alloc (by with_reducible assumption) (Below.size (by with_reducible assumption)) _ | exact Below.drew (Below.alloc (by with_reducible assumption) (Below.size (by with_reducible assumption)) _))) (fun hHeld => ?_)
  refine wpAnyH_take (i := 0) (v := ?_) rfl (by kernel_rfl) (by kernel_rfl) (by kernel_rfl) (fun _ _ _ h => h) (Or.inl ⟨by rfl,?_⟩) (by assumption) ?_
  rotate_left 1
  focus (intro w hSw; (try dsimp only at hSw); go_simp; (try with_reducible rfl))
  (try simp only [Act.put,List.setIfInBounds_toArray,List.set_cons_zero,List.set_cons_succ,List.getElem_toArray,List.getElem_cons_zero,List.getElem_cons_succ])
  refine wpAnyH_take (i := 1) (v := ?_) rfl (by kernel_rfl) (by kernel_rfl) (by kernel_rfl) (fun _ _ _ h => h) (Or.inl ⟨by rfl,?_⟩) (by assumption) ?_
  rotate_left 1
  focus (intro w hSw; (try dsimp only at hSw); go_simp; (try with_reducible rfl))
  (try simp only [Act.put,List.setIfInBounds_toArray,List.set_cons_zero,List.set_cons_succ,List.getElem_toArray,List.getElem_cons_zero,List.getElem_cons_succ])
  refine wpAnyH_take (i := 2) (v := ?_) rfl (by kernel_rfl) (by kernel_rfl) (by kernel_rfl) (fun _ _ _ h => h) (Or.inl ⟨by rfl,?_⟩) (by assumption) ?_
  rotate_left 1
  focus (intro w hSw; (try dsimp only at hSw); go_simp; (try with_reducible rfl))
  (try simp only [Act.put,List.setIfInBounds_toArray,List.set_cons_zero,List.set_cons_succ,List.getElem_toArray,List.getElem_cons_zero,List.getElem_cons_succ])
  refine wpAnyH_take (i := 3) (v := ?_) rfl (by kernel_rfl) (by kernel_rfl) (by kernel_rfl) (fun _ _ _ h => h) (Or.inl ⟨by rfl,?_⟩) (by assumption) ?_
  rotate_left 1
  focus (intro w hSw; (try dsimp only at hSw); go_simp; (try with_reducible rfl))
  (try simp only [Act.put,List.setIfInBounds_toArray,List.set_cons_zero,List.set_cons_succ,List.getElem_toArray,List.getElem_cons_zero,List.getElem_cons_succ])
  refine wpAnyH_take (i := 4) (v := ?_) rfl (by kernel_rfl) (by kernel_rfl) (by kernel_rfl) (fun _ _ _ h => h) (Or.inl ⟨by rfl,?_⟩) (by assumption) ?_
  rotate_left 1
  focus (intro w hSw; (try dsimp only at hSw); go_simp; (try with_reducible rfl))
  (try simp only [Act.put,List.setIfInBounds_toArray,List.set_cons_zero,List.set_cons_succ,List.getElem_toArray,List.getElem_cons_zero,List.getElem_cons_succ])
  refine wpAnyH_take (i := 5) (v := ?_) rfl (by kernel_rfl) (by kernel_rfl) (by kernel_rfl) (fun _ _ _ h => h) (Or.inl ⟨by rfl,?_⟩) (by assumption) ?_
  rotate_left 1
  focus (intro w hSw; (try dsimp only at hSw); go_simp; (try with_reducible rfl))
  (try simp only [Act.put,List.setIfInBounds_toArray,List.set_cons_zero,List.set_cons_succ,List.getElem_toArray,List.getElem_cons_zero,List.getElem_cons_succ])
  refine wpAnyH_take (i := 6) (v := ?_) rfl (by kernel_rfl) (by kernel_rfl) (by kernel_rfl) (fun _ _ _ h => h) (Or.inl ⟨by rfl,?_⟩) (by assumption) ?_
  rotate_left 1
  focus (intro w hSw; (try dsimp only at hSw); go_simp; (try with_reducible rfl))
  (try simp only [Act.put,List.setIfInBounds_toArray,List.set_cons_zero,List.set_cons_succ,List.getElem_toArray,List.getElem_cons_zero,List.getElem_cons_succ])
  refine wpAnyH_take (i := 7) (v := ?_) rfl (by kernel_rfl) (by kernel_rfl) (by kernel_rfl) (fun _ _ _ h => h) (Or.inl ⟨by rfl,?_⟩) (by assumption) ?_
  rotate_left 1
  focus (intro w hSw; (try dsimp only at hSw); go_simp; (try with_reducible rfl))
  (try simp only [Act.put,List.setIfInBounds_toArray,List.set_cons_zero,List.set_cons_succ,List.getElem_toArray,List.getElem_cons_zero,List.getElem_cons_succ])
  refine wpAnyH_take (i := 8) (v := ?_) rfl (by kernel_rfl) (by kernel_rfl) (by kernel_rfl) (fun _ _ _ h => h) (Or.inl ⟨by rfl,?_⟩) (by assumption) ?_
  rotate_left 1
  focus (intro w hSw; (try dsimp only at hSw); go_simp; (try with_reducible rfl))
  (try simp only [Act.put,List.setIfInBounds_toArray,List.set_cons_zero,List.set_cons_succ,List.getElem_toArray,List.getElem_cons_zero,List.getElem_cons_succ])
  refine wpAnyH_take (i := 9) (v := ?_) rfl (by kernel_rfl) (by kernel_rfl) (by kernel_rfl) (fun _ _ _ h => h) (Or.inl ⟨by rfl,?_⟩) (by assumption) ?_
  rotate_left 1
  focus (intro w hSw; (try dsimp only at hSw); go_simp; (try with_reducible rfl))
  (try simp only [Act.put,List.setIfInBounds_toArray,List.set_cons_zero,List.set_cons_succ,List.getElem_toArray,List.getElem_cons_zero,List.getElem_cons_succ])
  refine wpAnyH_take (i := 10) (v := ?_) rfl (by kernel_rfl) (by kernel_rfl) (by kernel_rfl) (fun _ _ _ h => h) (Or.inl ⟨by rfl,?_⟩) (by assumption) ?_
  rotate_left 1
  focus (intro w hSw; (try dsimp only at hSw); go_simp; (try with_reducible rfl))
  (try simp only [Act.put,List.setIfInBounds_toArray,List.set_cons_zero,List.set_cons_succ,List.getElem_toArray,List.getElem_cons_zero,List.getElem_cons_succ])
  refine wpAnyH_take (i := 11) (v := ?_) rfl (by kernel_rfl) (by kernel_rfl) (by kernel_rfl) (fun _ _ _ h => h) (Or.inl ⟨by rfl,?_⟩) (by assumption) ?_
  rotate_left 1
  focus (intro w hSw; (try dsimp only at hSw); go_simp; (try with_reducible rfl))
  (try simp only [Act.put,List.setIfInBounds_toArray,List.set_cons_zero,List.set_cons_succ,List.getElem_toArray,List.getElem_cons_zero,List.getElem_cons_succ])
  refine wpAnyH_take (i := 12) (v := ?_) rfl (by kernel_rfl) (by kernel_rfl) (by kernel_rfl) (fun _ _ _ h => h) (Or.inl ⟨by rfl,?_⟩) (by assumption) ?_
  rotate_left 1
  focus (intro w hSw; (try dsimp only at hSw); go_simp; (try with_reducible rfl))
  (try simp only [Act.put,List.setIfInBounds_toArray,List.set_cons_zero,List.set_cons_succ,List.getElem_toArray,List.getElem_cons_zero,List.getElem_cons_succ])
  refine wpAnyH_ready (rs := [13]) (by kernel_rfl) (by simp) (AllReadyH.cons rfl (fun K hK => ?_) AllReadyH.nil)
  go_simp
  first | (refine hK.out _ _ hHeld (fun hHeld => ?_)) | (go_wp2_with ((go_at_call 96; refine (HV.out W h00).mono ?_; rintro e x1 ⟨rfl,hx1⟩; obtain rfl := hx1)); refine hK.out _ _ (by exact HS.out _ (by first | with_reducible assumption | exact Below.drew (by with_reducible assumption) | exact Below.alloc (by with_reducible assumption) (Below.size (by with_reducible assumption)) _ | exact Below.drew (Below.alloc (by with_reducible assumption) (Below.size (by with_reducible assumption)) _))) (fun hHeld => ?_))
  clear hK K
  (try simp only [Act.put,List.setIfInBounds_toArray,List.set_cons_zero,List.set_cons_succ,List.getElem_toArray,List.getElem_cons_zero,List.getElem_cons_succ])
  refine wpAnyH_ready (rs := [14]) (by kernel_rfl) (by simp) (AllReadyH.cons rfl (fun K hK => ?_) AllReadyH.nil)
  go_simp
  first | (refine hK.out _ _ hHeld (fun hHeld => ?_)) | (go_wp2_with ((go_at_call 96; refine (HV.out W h00).mono ?_; rintro e x1 ⟨rfl,hx1⟩; obtain rfl := hx1)); refine hK.out _ _ (by exact HS.out _ (by first | with_reducible assumption | exact Below.drew (by with_reducible assumption) | exact Below.alloc (by with_reducible assumption) (Below.size (by with_reducible assumption)) _ | exact Below.drew (Below.alloc (by with_reducible assumption) (Below.size (by with_reducible assumption)) _))) (fun hHeld => ?_))
  clear hK K
  (try simp only [Act.put,List.setIfInBounds_toArray,List.set_cons_zero,List.set_cons_succ,List.getElem_toArray,List.getElem_cons_zero,List.getElem_cons_succ])
  refine wpAnyH_ready (rs := [15]) (by kernel_rfl) (by simp) (AllReadyH.cons rfl (fun K hK => ?_) AllReadyH.nil)
  go_simp
  first | (refine hK.out _ _ hHeld (fun hHeld => ?_)) | (go_wp2_with ((go_at_call 96; refine (HV.out W h00).mono ?_; rintro e x1 ⟨rfl,hx1⟩; obtain rfl := hx1)); refine hK.out _ _ (by exact HS.out _ (by first | with_reducible assumption | exact Below.drew (by with_reducible assumption) | exact Below.alloc (by with_reducible assumption) (Below.size (by with_reducible assumption)) _ | exact Below.drew (Below.alloc (by with_reducible assumption) (Below.size (by with_reducible assumption)) _))) (fun hHeld => ?_))
  clear hK K
  (try simp only [Act.put,List.setIfInBounds_toArray,List.set_cons_zero,List.set_cons_succ,List.getElem_toArray,List.getElem_cons_zero,List.getElem_cons_succ])
  refine wpAnyH_take (i := 16) (v := ?_) rfl (by kernel_rfl) (by kernel_rfl) (by kernel_rfl) (fun _ _ _ h => h) (Or.inl ⟨by rfl,?_⟩) (by assumption) ?_
  rotate_left 1
  focus (intro w hSw; (try dsimp only at hSw); go_simp; (try with_reducible rfl))
  (try simp only [Act.put,List.setIfInBounds_toArray,List.set_cons_zero,List.set_cons_succ,List.getElem_toArray,List.getElem_cons_zero,List.getElem_cons_succ])
  refine wpAnyH_take (i := 17) (v := ?_) rfl (by kernel_rfl) (by kernel_rfl) (by kernel_rfl) (fun _ _ _ h => h) (Or.inl ⟨by rfl,?_⟩) (by assumption) ?_
  rotate_left 1
  focus (intro w hSw; (try dsimp only at hSw); go_simp; (try with_reducible rfl))
  (try simp only [Act.put,List.setIfInBounds_toArray,List.set_cons_zero,List.set_cons_succ,List.getElem_toArray,List.getElem_cons_zero,List.getElem_cons_succ])
  refine wpAnyH_take (i := 18) (v := ?_) rfl (by kernel_rfl) (by kernel_rfl) (by kernel_rfl) (fun _ _ _ h => h) (Or.inl ⟨by rfl,?_⟩) (by assumption) ?_
  rotate_left 1
  focus (intro w hSw; (try dsimp only at hSw); go_simp; (try with_reducible rfl))
  (try simp only [Act.put,List.setIfInBounds_toArray,List.set_cons_zero,List.set_cons_succ,List.getElem_toArray,List.getElem_cons_zero,List.getElem_cons_succ])
  refine wpAnyH_take (i := 19) (v := ?_) rfl (by kernel_rfl) (by kernel_rfl) (by kernel_rfl) (fun _ _ _ h => h) (Or.inl ⟨by rfl,?_⟩) (by assumption) ?_
  rotate_left 1
  focus (intro w hSw; (try dsimp only at hSw); go_simp; (try with_reducible rfl))
  (try simp only [Act.put,List.setIfInBounds_toArray,List.set_cons_zero,List.set_cons_succ,List.getElem_toArray,List.getElem_cons_zero,List.getElem_cons_succ])
  refine wpAnyH_done (by kernel_rfl) ?_ _
  go_wp2_with fail
  go_ret3
  exact ⟨rfl,((hB1.trans (hbx.mono hB1.size)).alloc (Nat.le_trans hB1.size hbx.size) _).drew⟩
 ·have rx := (Row.new w1 #[.string (bs octN),.slice v1 v2 v3,.int .i64 v4,.slice v5 v6 v7,.slice v8 v9 v10] 34).alloc (.cells #[.string (bs oursN),.slice u1 u2 u3,.int .i64 u4,.slice u5 10 u7,.slice u8 u9 u10] 34)
  have ry := Row.new (w1.alloc (.cells #[.string (bs octN),.slice v1 v2 v3,.int .i64 v4,.slice v5 v6 v7,.slice v8 v9 v10] 34)) #[.string (bs oursN),.slice u1 u2 u3,.int .i64 u4,.slice u5 10 u7,.slice u8 u9 u10] 34
  rw [World.size_alloc] at ry
  have hbx : Below w1.heap.size w1 ((w1.alloc (.cells #[.string (bs octN),.slice v1 v2 v3,.int .i64 v4,.slice v5 v6 v7,.slice v8 v9 v10] 34)).alloc (.cells #[.string (bs oursN),.slice u1 u2 u3,.int .i64 u4,.slice u5 10 u7,.slice u8 u9 u10] 34)).drew := (((Below.refl _ _).alloc (Nat.le_refl _) _).alloc (by simp) _).drew
  have m0 : ((w1.alloc (.cells #[.string (bs octN),.slice v1 v2 v3,.int .i64 v4,.slice v5 v6 v7,.slice v8 v9 v10] 34)).alloc (.cells #[.string (bs oursN),.slice u1 u2 u3,.int .i64 u4,.slice u5 10 u7,.slice u8 u9 u10] 34)).drew.cell? ⟨w1.heap.size + 1,0,none⟩ = some (.string (bs oursN)) := ry.cell (j := 0) rfl
  have m1 : ((w1.alloc (.cells #[.string (bs octN),.slice v1 v2 v3,.int .i64 v4,.slice v5 v6 v7,.slice v8 v9 v10] 34)).alloc (.cells #[.string (bs oursN),.slice u1 u2 u3,.int .i64 u4,.slice u5 10 u7,.slice u8 u9 u10] 34)).drew.cell? ⟨w1.heap.size + 1,3,none⟩ = some (.slice u5 10 u7) := ry.cell (j := 3) rfl
  have m2 : ((w1.alloc (.cells #[.string (bs octN),.slice v1 v2 v3,.int .i64 v4,.slice v5 v6 v7,.slice v8 v9 v10] 34)).alloc (.cells #[.string (bs oursN),.slice u1 u2 u3,.int .i64 u4,.slice u5 10 u7,.slice u8 u9 u10] 34)).drew.cell? ⟨w1.heap.size,0,none⟩ = some (.string (bs octN)) := rx.cell (j := 0) rfl
  have m3 : ((w1.alloc (.cells #[.string (bs octN),.slice v1 v2 v3,.int .i64 v4,.slice v5 v6 v7,.slice v8 v9 v10] 34)).alloc (.cells #[.string (bs oursN),.slice u1 u2 u3,.int .i64 u4,.slice u5 10 u7,.slice u8 u9 u10] 34)).drew.cell? ⟨w1.heap.size,3,none⟩ = some (.slice v5 v6 v7) := rx.cell (j := 3) rfl
  obtain ⟨W,hW⟩ : ∃ W,((w1.alloc (.cells #[.string (bs octN),.slice v1 v2 v3,.int .i64 v4,.slice v5 v6 v7,.slice v8 v9 v10] 34)).alloc (.cells #[.string (bs oursN),.slice u1 u2 u3,.int .i64 u4,.slice u5 10 u7,.slice u8 u9 u10] 34)).drew = W := ⟨_,rfl⟩
  rw [hW] at m0 m1 m2 m3 hbx ⊢
  clear hW rx ry
  have HS := Lib.hid (show ∀ W',Below W.heap.size W W' → (Below W.heap.size W W' ∧ W'.cell? ⟨w1.heap.size + 1,0,none⟩ = some (.string (bs oursN)) ∧ W'.cell? ⟨w1.heap.size + 1,3,none⟩ = some (.slice u5 10 u7) ∧ W'.cell? ⟨w1.heap.size,0,none⟩ = some (.string (bs octN)) ∧ W'.cell? ⟨w1.heap.size,3,none⟩ = some (.slice v5 v6 v7)) from fun W' h => ⟨h,(h.cell (cell_lt m0)).trans m0,(h.cell (cell_lt m1)).trans m1,(h.cell (cell_lt m2)).trans m2,(h.cell (cell_lt m3)).trans m3⟩)
  have HV := Lib.hid (show ∀ W',Below W.heap.size W W' → Calls Tryz.prog 96 #[.slice u5 10 u7,.slice (some ⟨W'.heap.size,0,none⟩) 10 10] (W'.alloc (.cells #[.int .u8 86,.int .u8 101,.int .u8 114,.int .u8 115,.int .u8 105,.int .u8 111,.int .u8 110,.int .u8 58,.int .u8 32,.int .u8 49] 5 (10,11))).drew fun e w' => e = .returned (.bool true) ∧ w' = (W'.alloc (.cells #[.int .u8 86,.int .u8 101,.int .u8 114,.int .u8 115,.int .u8 105,.int .u8 111,.int .u8 110,.int .u8 58,.int .u8 32,.int .u8 49] 5 (10,11))).drew from fun W' h => ver_pre u5 u7 W'.drew (((hb.below (hB1.trans (hbx.mono hB1.size))).below h).drewN 1) hcb)
  have hcv : ∀ W : World,(convert 22 22 (.slice (some ⟨W.heap.size,0,none⟩) 10 10)).run Tryz.prog (W.alloc (.cells #[.int .u8 86,.int .u8 101,.int .u8 114,.int .u8 115,.int .u8 105,.int .u8 111,.int .u8 110,.int .u8 58,.int .u8 32,.int .u8 49] 5)).drew = .ok (.slice (some ⟨W.heap.size,0,none⟩) 10 10) (W.alloc (.cells #[.int .u8 86,.int .u8 101,.int .u8 114,.int .u8 115,.int .u8 105,.int .u8 111,.int .u8 110,.int .u8 58,.int .u8 32,.int .u8 49] 5 (10,11))).drew := fun W => Lib.run_convert_bytes_const (P := Tryz.prog) W.drew 22 5 #[.int .u8 86,.int .u8 101,.int .u8 114,.int .u8 115,.int .u8 105,.int .u8 111,.int .u8 110,.int .u8 58,.int .u8 32,.int .u8 49] 10 10 Tryz.underlying22 Tryz.underlying5
  have h00 := Below.refl W.heap.size W
  go_wp2_with fail
  refine wp_region_held_drew (S := (fun W' => Below W.heap.size W W' ∧ W'.cell? ⟨w1.heap.size + 1,0,none⟩ = some (.string (bs oursN)) ∧ W'.cell? ⟨w1.heap.size + 1,3,none⟩ = some (.slice u5 10 u7) ∧ W'.cell? ⟨w1.heap.size,0,none⟩ = some (.string (bs octN)) ∧ W'.cell? ⟨w1.heap.size,3,none⟩ = some (.slice v5 v6 v7))) (by kernel_rfl) (by exact HS.out _ (by first | with_reducible assumption | exact Below.drew (by with_reducible assumption) | exact Below.alloc (by with_reducible assumption) (Below.size (by with_reducible assumption)) _ | exact Below.drew (Below.alloc (by with_reducible assumption) (Below.size (by with_reducible assumption)) _))) (fun hHeld => ?_)
  refine wpAnyH_take (i := 0) (v := ?_) rfl (by kernel_rfl) (by kernel_rfl) (by kernel_rfl) (fun _ _ _ h => h) (Or.inl ⟨by rfl,?_⟩) (by assumption) ?_
  rotate_left 1
  focus (intro w hSw; (try dsimp only at hSw); go_simp; (try with_reducible rfl))
  (try simp only [Act.put,List.setIfInBounds_toArray,List.set_cons_zero,List.set_cons_succ,List.getElem_toArray,List.getElem_cons_zero,List.getElem_cons_succ])
  refine wpAnyH_take (i := 1) (v := ?_) rfl (by kernel_rfl) (by kernel_rfl) (by kernel_rfl) (fun _ _ _ h => h) (Or.inl ⟨by rfl,?_⟩) (by assumption) ?_
  rotate_left 1
  focus (intro w hSw; (try dsimp only at hSw); go_simp; (try with_reducible rfl))
  (try simp only [Act.put,List.setIfInBounds_toArray,List.set_cons_zero,List.set_cons_succ,List.getElem_toArray,List.getElem_cons_zero,List.getElem_cons_succ])
  refine wpAnyH_take (i := 2) (v := ?_) rfl (by kernel_rfl) (by kernel_rfl) (by kernel_rfl) (fun _ _ _ h => h) (Or.inl ⟨by rfl,?_⟩) (by assumption) ?_
  rotate_left 1
  focus (intro w hSw; (try dsimp only at hSw); go_simp; (try with_reducible rfl))
  (try simp only [Act.put,List.setIfInBounds_toArray,List.set_cons_zero,List.set_cons_succ,List.getElem_toArray,List.getElem_cons_zero,List.getElem_cons_succ])
  refine wpAnyH_take (i := 3) (v := ?_) rfl (by kernel_rfl) (by kernel_rfl) (by kernel_rfl) (fun _ _ _ h => h) (Or.inl ⟨by rfl,?_⟩) (by assumption) ?_
  rotate_left 1
  focus (intro w hSw; (try dsimp only at hSw); go_simp; (try with_reducible rfl))
  (try simp only [Act.put,List.setIfInBounds_toArray,List.set_cons_zero,List.set_cons_succ,List.getElem_toArray,List.getElem_cons_zero,List.getElem_cons_succ])
  refine wpAnyH_take (i := 4) (v := ?_) rfl (by kernel_rfl) (by kernel_rfl) (by kernel_rfl) (fun _ _ _ h => h) (Or.inl ⟨by rfl,?_⟩) (by assumption) ?_
  rotate_left 1
  focus (intro w hSw; (try dsimp only at hSw); go_simp; (try with_reducible rfl))
  (try simp only [Act.put,List.setIfInBounds_toArray,List.set_cons_zero,List.set_cons_succ,List.getElem_toArray,List.getElem_cons_zero,List.getElem_cons_succ])
  refine wpAnyH_take (i := 5) (v := ?_) rfl (by kernel_rfl) (by kernel_rfl) (by kernel_rfl) (fun _ _ _ h => h) (Or.inl ⟨by rfl,?_⟩) (by assumption) ?_
  rotate_left 1
  focus (intro w hSw; (try dsimp only at hSw); go_simp; (try with_reducible rfl))
  (try simp only [Act.put,List.setIfInBounds_toArray,List.set_cons_zero,List.set_cons_succ,List.getElem_toArray,List.getElem_cons_zero,List.getElem_cons_succ])
  refine wpAnyH_take (i := 6) (v := ?_) rfl (by kernel_rfl) (by kernel_rfl) (by kernel_rfl) (fun _ _ _ h => h) (Or.inl ⟨by rfl,?_⟩) (by assumption) ?_
  rotate_left 1
  focus (intro w hSw; (try dsimp only at hSw); go_simp; (try with_reducible rfl))
  (try simp only [Act.put,List.setIfInBounds_toArray,List.set_cons_zero,List.set_cons_succ,List.getElem_toArray,List.getElem_cons_zero,List.getElem_cons_succ])
  refine wpAnyH_take (i := 7) (v := ?_) rfl (by kernel_rfl) (by kernel_rfl) (by kernel_rfl) (fun _ _ _ h => h) (Or.inl ⟨by rfl,?_⟩) (by assumption) ?_
  rotate_left 1
  focus (intro w hSw; (try dsimp only at hSw); go_simp; (try with_reducible rfl))
  (try simp only [Act.put,List.setIfInBounds_toArray,List.set_cons_zero,List.set_cons_succ,List.getElem_toArray,List.getElem_cons_zero,List.getElem_cons_succ])
  refine wpAnyH_take (i := 8) (v := ?_) rfl (by kernel_rfl) (by kernel_rfl) (by kernel_rfl) (fun _ _ _ h => h) (Or.inl ⟨by rfl,?_⟩) (by assumption) ?_
  rotate_left 1
  focus (intro w hSw; (try dsimp only at hSw); go_simp; (try with_reducible rfl))
  (try simp only [Act.put,List.setIfInBounds_toArray,List.set_cons_zero,List.set_cons_succ,List.getElem_toArray,List.getElem_cons_zero,List.getElem_cons_succ])
  refine wpAnyH_take (i := 9) (v := ?_) rfl (by kernel_rfl) (by kernel_rfl) (by kernel_rfl) (fun _ _ _ h => h) (Or.inl ⟨by rfl,?_⟩) (by assumption) ?_
  rotate_left 1
  focus (intro w hSw; (try dsimp only at hSw); go_simp; (try with_reducible rfl))
  (try simp only [Act.put,List.setIfInBounds_toArray,List.set_cons_zero,List.set_cons_succ,List.getElem_toArray,List.getElem_cons_zero,List.getElem_cons_succ])
  refine wpAnyH_take (i := 10) (v := ?_) rfl (by kernel_rfl) (by kernel_rfl) (by kernel_rfl) (fun _ _ _ h => h) (Or.inl ⟨by rfl,?_⟩) (by assumption) ?_
  rotate_left 1
  focus (intro w hSw; (try dsimp only at hSw); go_simp; (try with_reducible rfl))
  (try simp only [Act.put,List.setIfInBounds_toArray,List.set_cons_zero,List.set_cons_succ,List.getElem_toArray,List.getElem_cons_zero,List.getElem_cons_succ])
  refine wpAnyH_take (i := 11) (v := ?_) rfl (by kernel_rfl) (by kernel_rfl) (by kernel_rfl) (fun _ _ _ h => h) (Or.inl ⟨by rfl,?_⟩) (by assumption) ?_
  rotate_left 1
  focus (intro w hSw; (try dsimp only at hSw); go_simp; (try with_reducible rfl))
  (try simp only [Act.put,List.setIfInBounds_toArray,List.set_cons_zero,List.set_cons_succ,List.getElem_toArray,List.getElem_cons_zero,List.getElem_cons_succ])
  refine wpAnyH_take (i := 12) (v := ?_) rfl (by kernel_rfl) (by kernel_rfl) (by kernel_rfl) (fun _ _ _ h => h) (Or.inl ⟨by rfl,?_⟩) (by assumption) ?_
  rotate_left 1
  focus (intro w hSw; (try dsimp only at hSw); go_simp; (try with_reducible rfl))
  (try simp only [Act.put,List.setIfInBounds_toArray,List.set_cons_zero,List.set_cons_succ,List.getElem_toArray,List.getElem_cons_zero,List.getElem_cons_succ])
  refine wpAnyH_ready (rs := [13]) (by kernel_rfl) (by simp) (AllReadyH.cons rfl (fun K hK => ?_) AllReadyH.nil)
  go_simp
  first | (refine hK.out _ _ hHeld (fun hHeld => ?_)) | (go_wp2_with ((go_at_call 96; refine (HV.out W h00).mono ?_; rintro e x1 ⟨rfl,hx1⟩; obtain rfl := hx1)); refine hK.out _ _ (by exact HS.out _ (by first | with_reducible assumption | exact Below.drew (by with_reducible assumption) | exact Below.alloc (by with_reducible assumption) (Below.size (by with_reducible assumption)) _ | exact Below.drew (Below.alloc (by with_reducible assumption) (Below.size (by with_reducible assumption)) _))) (fun hHeld => ?_))
  clear hK K
  (try simp only [Act.put,List.setIfInBounds_toArray,List.set_cons_zero,List.set_cons_succ,List.getElem_toArray,List.getElem_cons_zero,List.getElem_cons_succ])
  refine wpAnyH_ready (rs := [14]) (by kernel_rfl) (by simp) (AllReadyH.cons rfl (fun K hK => ?_) AllReadyH.nil)
  go_simp
  first | (refine hK.out _ _ hHeld (fun hHeld => ?_)) | (go_wp2_with ((go_at_call 96; refine (HV.out W h00).mono ?_; rintro e x1 ⟨rfl,hx1⟩; obtain rfl := hx1)); refine hK.out _ _ (by exact HS.out _ (by first | with_reducible assumption | exact Below.drew (by with_reducible assumption) | exact Below.alloc (by with_reducible assumption) (Below.size (by with_reducible assumption)) _ | exact Below.drew (Below.alloc (by with_reducible assumption) (Below.size (by with_reducible assumption)) _))) (fun hHeld => ?_))
  clear hK K
  (try simp only [Act.put,List.setIfInBounds_toArray,List.set_cons_zero,List.set_cons_succ,List.getElem_toArray,List.getElem_cons_zero,List.getElem_cons_succ])
  refine wpAnyH_ready (rs := [15]) (by kernel_rfl) (by simp) (AllReadyH.cons rfl (fun K hK => ?_) AllReadyH.nil)
  go_simp
  first | (refine hK.out _ _ hHeld (fun hHeld => ?_)) | (go_wp2_with ((go_at_call 96; refine (HV.out W h00).mono ?_; rintro e x1 ⟨rfl,hx1⟩; obtain rfl := hx1)); refine hK.out _ _ (by exact HS.out _ (by first | with_reducible assumption | exact Below.drew (by with_reducible assumption) | exact Below.alloc (by with_reducible assumption) (Below.size (by with_reducible assumption)) _ | exact Below.drew (Below.alloc (by with_reducible assumption) (Below.size (by with_reducible assumption)) _))) (fun hHeld => ?_))
  clear hK K
  (try simp only [Act.put,List.setIfInBounds_toArray,List.set_cons_zero,List.set_cons_succ,List.getElem_toArray,List.getElem_cons_zero,List.getElem_cons_succ])
  refine wpAnyH_take (i := 16) (v := ?_) rfl (by kernel_rfl) (by kernel_rfl) (by kernel_rfl) (fun _ _ _ h => h) (Or.inl ⟨by rfl,?_⟩) (by assumption) ?_
  rotate_left 1
  focus (intro w hSw; (try dsimp only at hSw); go_simp; (try with_reducible rfl))
  (try simp only [Act.put,List.setIfInBounds_toArray,List.set_cons_zero,List.set_cons_succ,List.getElem_toArray,List.getElem_cons_zero,List.getElem_cons_succ])
  refine wpAnyH_take (i := 17) (v := ?_) rfl (by kernel_rfl) (by kernel_rfl) (by kernel_rfl) (fun _ _ _ h => h) (Or.inl ⟨by rfl,?_⟩) (by assumption) ?_
  rotate_left 1
  focus (intro w hSw; (try dsimp only at hSw); go_simp; (try with_reducible rfl))
  (try simp only [Act.put,List.setIfInBounds_toArray,List.set_cons_zero,List.set_cons_succ,List.getElem_toArray,List.getElem_cons_zero,List.getElem_cons_succ])
  refine wpAnyH_take (i := 18) (v := ?_) rfl (by kernel_rfl) (by kernel_rfl) (by kernel_rfl) (fun _ _ _ h => h) (Or.inl ⟨by rfl,?_⟩) (by assumption) ?_
  rotate_left 1
  focus (intro w hSw; (try dsimp only at hSw); go_simp; (try with_reducible rfl))
  (try simp only [Act.put,List.setIfInBounds_toArray,List.set_cons_zero,List.set_cons_succ,List.getElem_toArray,List.getElem_cons_zero,List.getElem_cons_succ])
  refine wpAnyH_take (i := 19) (v := ?_) rfl (by kernel_rfl) (by kernel_rfl) (by kernel_rfl) (fun _ _ _ h => h) (Or.inl ⟨by rfl,?_⟩) (by assumption) ?_
  rotate_left 1
  focus (intro w hSw; (try dsimp only at hSw); go_simp; (try with_reducible rfl))
  (try simp only [Act.put,List.setIfInBounds_toArray,List.set_cons_zero,List.set_cons_succ,List.getElem_toArray,List.getElem_cons_zero,List.getElem_cons_succ])
  refine wpAnyH_done (by kernel_rfl) ?_ _
  go_wp2_with fail
  go_ret3
  exact ⟨rfl,((hB1.trans (hbx.mono hB1.size)).alloc (Nat.le_trans hB1.size hbx.size) _).drew⟩
end
end Go.Proofs.YtkllecicddfjpaaGreatDoor
