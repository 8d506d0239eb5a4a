/- A line read: what tale.Read hands back. -/
import Derived.Test.YtleolfpgiaimfaaDoorDM
namespace Go.Proofs.YtleolfpgiaimfaaDoor
set_option linter.unusedVariables false
set_option linter.unusedSimpArgs false
open Go.RowKit Go.Shelf
open Go.ChangeMaps (setBlock)

set_option maxRecDepth 100000 in
set_option maxHeartbeats 2000000 in
theorem tread_any (s : List UInt8) (w : World) (hl : s.length ≤ 1000000) (hG : Gt w) :
    Calls Tryd.prog 7 #[.string (bs s)] w (ROut s w) := by
  obtain ⟨zz, hzz⟩ : ∃ zz, zev.toArray = zz := ⟨_, rfl⟩
  have hz0 := (zero_of_info zero_ev).1
  have hr0 : Row (w.alloc (.cells zev.toArray 28)) w.heap.size 28 zev := Row.new w zev.toArray 28
  have hB0 : Below w.heap.size w (w.alloc (.cells zev.toArray 28)) := (Below.refl _ w).alloc (Nat.le_refl _) _
  rw [hzz] at hz0 hr0 hB0
  obtain ⟨ws, hws⟩ : ∃ ws, splitP 32 s = ws := ⟨_, rfl⟩
  have hsp := split_any s (w.alloc (.cells zz 28)) (hG.below hB0) hl
  rw [hws] at hsp
  obtain ⟨n, hn⟩ : ∃ n, ws.length = n := ⟨_, rfl⟩
  rw [hn] at hsp
  have HZ := Lib.hid hzz
  have HWS := Lib.hid hws
  have HN := Lib.hid hn
  clear hzz hws hn
  have hforms := forms_any
  go_enter Tryd.func7, Tryd.ntmps7
  go_wp2_with (first
    | (go_at_call 13; refine hsp.mono ?_; rintro e w1 ⟨wA, wc, rfl, hwR, hb1⟩)
    | (go_at_call 11; refine (hforms _).mono ?_; rintro e wf ⟨B, es, clock, rfl, hBf, hF, hbf⟩; have hrg := run_range_forms hF))
  obtain ⟨w3, hw3⟩ : ∃ w3, wf.alloc (.mapIter (some B) clock #[] clock) = w3 := ⟨_, rfl⟩
  obtain ⟨it, hit⟩ : ∃ it, wf.heap.size = it := ⟨_, rfl⟩
  obtain ⟨b0, hb0⟩ : ∃ b0, w.heap.size = b0 := ⟨_, rfl⟩
  have hba : Below wf.heap.size wf (wf.alloc (.mapIter (some B) clock #[] clock)) := (Below.refl _ wf).alloc (Nat.le_refl _) _
  have hiter : (wf.alloc (.mapIter (some B) clock #[] clock)).heap[wf.heap.size]? = some (.mapIter (some B) clock #[] clock) := heap_alloc_new wf _
  have hF3 := hF.below hba
  have hb13 := hbf.trans (hba.mono hbf.size)
  have hR3 := hwR.below hb13
  have hb03 := hb1.trans (hb13.mono hb1.size)
  have hr3 := hr0.below hb03
  have hB3 := hB0.trans (hb03.mono hB0.size)
  have hlt : w.heap.size < wf.heap.size := by have h1 := hb1.size; have h2 := hbf.size; simp at h1; omega
  rw [hw3] at hba hiter hF3 hb13 hR3 hb03 hr3 hB3 ⊢
  rw [hit] at hlt hiter ⊢
  rw [hb0] at hlt hr3 ⊢
  clear hba hb13 hb03 hw3 hrg hbf hF hwR hb1 hBf hr0 hB0 hsp hforms hit
  obtain ⟨w0, wt, hw0⟩ := splitP_cons 32 s
  rw [HWS.out] at hw0
  subst hw0
  obtain ⟨gw, ow, rfl, hcw⟩ := hR3 (by simp)
  have hcw0 : w3.cell? ⟨gw, ow + 0, none⟩ = some (.string (bs w0)) := hcw 0 (sv w0) rfl
  have hgi := ne_iter hcw0 hiter
  have HCW := Lib.hid hcw
  rw [Nat.add_zero] at hcw0
  clear hcw hR3
  go_loopw [15] (fun _ wr => ∃ seen, RdAt s w3 it B clock es seen wr) (fun _ wr => (leftOf es (wr.iterSeen it)).size)
  case atStart => exact ⟨#[], ⟨⟨clock, hiter, Nat.le_refl _⟩, hF3, fun e _ h => by simp at h, Ext.refl _ _⟩⟩
  case round =>
    obtain ⟨seen, hat⟩ := hrel
    obtain ⟨c0, hit1, hc0⟩ := hat.iter
    have hrr := hat.ext.row hr3 (fun e => by have e2 : b0 = it := e; omega)
    have hzsz : zz.size = 46 := by rw [← HZ.out]; exact zev_size
    have hst := st_ev hrr zev_len hzsz (by rw [← HZ.out]; exact zev_one)
    go_wp2_with (at_next; refine next_forms rfl (.tmp 14) rfl it B clock c0 seen es rfl hat.forms hit1 hc0 ?_ ?_)
    · intro hdone0
      as_aux_lemma =>
        have hdone := Lib.hid hdone0
        clear hdone0
        go_wp2_with fail
        have hr5 := hrr.setRow zz
        have hld := ldv_ev hr5 (by rw [Array.length_toList]; exact hzsz)
        rw [Array.toArray_toList] at hld
        have hb4 := hat.ext.below hB3 hB3.size (fun b e => by have e2 : b = it := e; omega)
        refine bodyPost_ret (v := .tuple #[.agg zz, .int .i64 3]) ?_ rfl ⟨zeroEv 0, none, 0, 3, ?_, zeroEv_ok isInt_zero, ⟨by simp [zeroEv], by simp [zeroEv], by simp [zeroEv]⟩, Nat.le_refl _, Rb.nil _ _, .inr ⟨rfl, rfl, fun k => ?_⟩, (ext_setRow wr b0 zz).below hb4 hb4.size (fun b e => by have e2 : b = b0 := e; omega)⟩
        · rw [results_cell_tmp rfl]
          simp [asAddr, Result.andThen, hld]
        · rw [← HZ.out]
          rfl
        · cases hk : formL k with
          | none => exact readOne_no hk s
          | some p =>
            obtain ⟨e, he, hek⟩ := hat.forms.2.2.2 k p hk
            exact hat.no e he (by have h := hdone.out e (Array.mem_toList_iff.1 he); simpa using h) k hek
    · intro k word fs g m e w4 he hek hf hm hsl hF4 hit4 hE4 hsz4' hsh hen
      have HM := Lib.hid hm
      as_aux_lemma =>
        have HS4 := Lib.hid hsz4'
        have HEK := Lib.hid hek
        clear hm hsz4' hek
        have hcr := ext_cell (hat.ext.trans hE4 (fun _ h => .inl h)) hcw0 hgi
        have q0 := cell_al (.cells #[.string (bs word), .slice (some ⟨g, 0, none⟩) m m] 40) hcr
        have rf := Row.new w4 #[.string (bs word), .slice (some ⟨g, 0, none⟩) m m] 40
        have f0 := rf.cell (j := 0) rfl
        have f1 := rf.cell (j := 1) rfl
        have hn1 : 0 < n := by rw [← HN.out]; simp
        have hn2 : n ≤ 1000001 := by have := splitP_len 32 s; rw [HWS.out, HN.out] at this; omega
        have hm6 : m ≤ 6 := by rw [HM.out]; exact form_len hf
        go_upto_region 5 with fail
        by_cases hwd : word = w0
        · obtain rfl : word = w0 := hwd
          by_cases hmn : m + 1 = n
          · obtain rfl : n = m + 1 := hmn.symm
            as_aux_lemma =>
              clear hmn
              have hz1 : wrap64 (m : Int) = (m : Int) := by unfold wrap64; omega
              go_quiet (fail)
              as_aux_lemma =>
                obtain ⟨w5, hw5⟩ : ∃ w5, (w4.alloc (Obj.cells #[Value.string (bs word), Value.slice (some { block := g, off := 0 }) m m] 40)).drewN nq = w5 := ⟨_, rfl⟩
                have hB45 : Below w4.heap.size w4 w5 := by rw [← hw5]; exact Below.trans ((Below.refl _ w4).alloc (Nat.le_refl _) _) ((Dn.of _ nq).below _)
                have hs5 : w5.heap.size = w4.heap.size + 1 := by rw [← hw5]; simp
                have f1d : w5.cell? ⟨w4.heap.size, 1, none⟩ = some (.slice (some ⟨g, 0, none⟩) m m) := by rw [← hw5]; exact f1
                rw [hw5]
                obtain ⟨ZK, hZK⟩ : ∃ ZK, zk k = ZK := ⟨_, rfl⟩
                have hbu : ∀ W, (Instr.build 28 #[(0, .int .i64 k)]).run Tryd.prog W = .ok (.agg ZK) W := fun W => by rw [← hZK]; exact build_ev k W
                have hZs : ZK.size = 46 := by rw [← hZK]; exact zk_size k
                have hsn := store_new_ev w5 zz ZK hzsz hZs (by rw [← hZK]; exact evl_one _ _ _ _)
                have f1e := cell_al (.cells ZK 28) f1d
                have HZK := Lib.hid hZK
                have HS5 := Lib.hid hs5
                have HW5 := Lib.hid hw5
                clear hz1 hst hs5 hw5 hZK f0 f1 q0 f1d
                go_upto_region 8 with (refine wpList_build rfl 28 (.tmp 35) rfl (.int .i64 k) (.agg ZK) rfl (hbu _) ?_)
                have r6 := Row.new w5 ZK 28
                have hB56 : Below w5.heap.size w5 (w5.alloc (Obj.cells ZK 28)) := (Below.refl _ w5).alloc (Nat.le_refl _) _
                obtain ⟨b, hbb⟩ : ∃ b, w5.heap.size = b := ⟨_, rfl⟩
                obtain ⟨w6, hw6⟩ : ∃ w6, w5.alloc (Obj.cells ZK 28) = w6 := ⟨_, rfl⟩
                rw [hw6] at r6 hB56 ⊢
                rw [hbb] at r6 ⊢
                rw [← HZK.out] at r6
                have HBB : Hid (w4.heap.size + 1 = b) := Lib.hid (by rw [← hbb]; exact HS5.out.symm)
                clear hbb hbu hsn hZs f1e hw6
                have hB46 : Below w4.heap.size w4 w6 := hB45.trans (hB56.mono hB45.size)
                have h4 := hE4.below (hat.ext.below hB3 hB3.size (fun b e => by have e2 : b = it := e; omega)) (by have h1 := hB3.size; have h2 := hat.ext.size; omega) (fun b e => by have e2 : b = it := e; omega)
                have hs04 := h4.size
                have hG6 : Gt w6 := hG.below (h4.trans (hB46.mono h4.size))
                have hbw : b < w6.heap.size := r6.lt
                have hgb : ¬ (gw = b) := by have := cell_lt hcr; have := HBB.out; omega
                have hcw6 := Lib.hid (fun (j : Nat) (v : Value) (hj : ((word :: wt).map sv)[j]? = some v) => ((hB46.cell (p := ⟨gw, ow + j, none⟩) (cell_lt hcr)).trans (ext_cell (hat.ext.trans hE4 (fun _ h => .inl h)) (HCW.out j v hj) hgi)))
                have hE6 : EvAt w6 b (zeroEv k) none 0 := ⟨⟨by unfold zk at r6; rw [List.toList_toArray] at r6; exact r6, Nat.le_refl _, Rb.nil _ _⟩, fun x hx => by simp [Value.ownBlock] at hx⟩
                obtain ⟨sg, scs, hsg, hsr, hsi⟩ := hsl
                have hgs : g = sg := congrArg (fun v => match v with | Value.slice (some a) _ _ => a.block | _ => 0) hsg
                subst hgs
                clear hsg
                have hsr6 := hsr.below hB46
                have hsgb : ¬ (g = b) := by have := hsr.lt; have := HBB.out; omega
                have HSI := Lib.hid hsi
                have HSR := Lib.hid hsr
                have HHAT := Lib.hid hat
                have HHE4 := Lib.hid hE4
                have HHEN := Lib.hid hsh
                have HF4 := Lib.hid hF4
                have HIT4 := Lib.hid hit4
                have HTL : Hid (∀ (i : Nat) (t : List UInt8), wt[i]? = some t → t.length ≤ 1000000) := Lib.hid (fun i t ht => by
                  have h1 := splitP_mem 32 s t (by rw [HWS.out]; exact List.mem_cons_of_mem _ (List.mem_of_getElem? ht))
                  omega)
                have hkO := formL_int hf
                clear hsi hcr rf hn1 r6 hsr hat hE4 hsh hF4 hit4 hen hit1 hrr hF3 hiter
                obtain ⟨wo, rfl⟩ : ∃ wo : World, wo = wr := ⟨_, rfl⟩
                go_loopw [8, 40] (fun vk vi wi => ∃ i : Nat, vi = .int .i64 i ∧ i ≤ m ∧ ∃ (E : Ev) (ok : Bool) (A : Option Addr) (c : Nat), vk = .bool ok ∧ readFs (fs.take i) wt (zeroEv k) true = (E, ok) ∧ EvAt wi b E A c ∧ Ext (fun x => x = b) w6 wi ∧ ∀ x, (Value.slice A E.body.length c).ownBlock = some x → w6.heap.size ≤ x) (fun _ i _ => m - (intOf i).toNat)
                case atStart => exact ⟨0, rfl, by omega, zeroEv k, true, none, 0, rfl, by simp [readFs], hE6, Ext.refl _ _, fun x hx => by simp [Value.ownBlock] at hx⟩
                case round =>
                  obtain ⟨i, rfl, hi, E, ok, A, c, rfl, hrd, hE, hX, hfar⟩ := hrel
                  have HRD := Lib.hid hrd
                  clear hrd
                  by_cases hlt : i < m
                  · obtain ⟨x, hx⟩ : ∃ x, fs[i]? = some x := ⟨_, List.getElem?_eq_getElem (by rw [← HM.out]; exact hlt)⟩
                    as_aux_lemma =>
                      obtain ⟨t, ht⟩ : ∃ t, wt[i]? = some t := ⟨_, List.getElem?_eq_getElem (by have := HN.out; simp at this; omega)⟩
                      obtain ⟨bx, h1, h2, h3⟩ := HSI.out i x hx
                      have hrs := readFs_take fs wt (zeroEv k) true i x t hx ht
                      rw [HRD.out] at hrs
                      have hok : E.Ok := by
                        have := readFs_ok (fs.take i) wt (zeroEv k) true (zeroEv_ok hkO)
                        rw [HRD.out] at this
                        exact this
                      have hsr7 := hX.row hsr6 hsgb
                      have c1 := hsr7.cell h1
                      have c2 := hsr7.cell h2
                      rw [Nat.mul_comm] at c1 c2
                      obtain ⟨f1, hf1⟩ : ∃ f1, (fvs x bx).1 = f1 := ⟨_, rfl⟩
                      obtain ⟨f2, hf2⟩ : ∃ f2, (fvs x bx).2 = f2 := ⟨_, rfl⟩
                      rw [hf1] at c1
                      rw [hf2] at c2
                      obtain ⟨g1, caps1, hg1⟩ := fvs_fn1 x bx
                      rw [hf1] at hg1
                      subst hg1
                      obtain ⟨g2, caps, hg2⟩ := fvs_fn x bx
                      rw [hf2] at hg2
                      subst hg2
                      have r1 := Row.new wr #[.func (.func g1) #[] caps1, .func (.func g2) #[] caps] 48
                      have hBa : Below wr.heap.size wr (wr.alloc (.cells #[.func (.func g1) #[] caps1, .func (.func g2) #[] caps] 48)) := (Below.refl _ wr).alloc (Nat.le_refl _) _
                      obtain ⟨w7, hw7⟩ : ∃ w7, wr.alloc (.cells #[.func (.func g1) #[] caps1, .func (.func g2) #[] caps] 48) = w7 := ⟨_, rfl⟩
                      rw [hw7] at r1 hBa
                      have HW7 := Lib.hid hw7
                      clear hw7
                      have hBd := hBa.drew
                      have hG1 : Gt w7.drew := (hG6.extN hX (fun j hj e => by have e2 : j = b := e; have h1 := hG.lt; have h2 := HBB.out; unfold gtop at hj; omega)).below hBd
                      have hE1 : EvAt w7.drew b E A c := ⟨⟨hE.row.below hBd, hE.fit, hE.body.below hBd⟩, hE.far⟩
                      have hdo := read_any x bx b c E A t _ ((h3.turned hB46 hX (by have := HBB.out; omega)).keep (KeepC.below hBd)) hE1 hok (HTL.out i t ht) hG1
                      rw [hf2] at hdo
                      obtain ⟨f, caps2, hf3, hent, hcall⟩ := hdo
                      cases hf3
                      have n1 : w7.drew.cell? ⟨wr.heap.size, 1, none⟩ = some (.func (.func g2) #[] caps) := r1.cell (j := 1) rfl
                      have cw : wr.cell? ⟨gw, ow + (i + 1), none⟩ = some (.string (bs t)) := ext_cell hX (hcw6.out (i + 1) (sv t) (by simp [ht])) hgb
                      have cw1 : w7.drew.cell? ⟨gw, ow + (i + 1), none⟩ = some (.string (bs t)) := (hBd.cell (p := ⟨gw, ow + (i + 1), none⟩) (cell_lt cw)).trans cw
                      obtain ⟨⟨E2, rb⟩, hq⟩ : ∃ q, x.read E t = q := ⟨_, rfl⟩
                      have hcall2 := hcall.mono fun e w' h => h.to hq hfar (by have h1 := hX.size; have h2 := hBd.size; omega)
                      rw [hq] at hrs
                      have HRS := Lib.hid hrs
                      clear cw h1 h2 h3 hf1 hf2 hrs hsr7 hx ht r1 hq hE1 hG1 hcall
                      as_aux_lemma =>
                        go_upto_region 10 with fail
                        rw [HW7.out]
                        have hs7 : wr.heap.size ≤ w7.heap.size := hBa.size
                        have hnb : ¬ (wr.heap.size = b) := by have := hE.row.lt; omega
                        have hw4 : (i : Int) + 1 < (m : Int) + 1 := by omega
                        have hw5' : i + 1 < m + 1 := by omega
                        have hw2 : 0 ≤ (i : Int) + 1 := by omega
                        have hw3 : ((i : Int) + 1).toNat = i + 1 := by omega
                        have hw1 : IntKind.i64.wrap ((i : Int) + 1) = (i : Int) + 1 := by rw [IntKind.wrap_i64]; omega
                        clear hcw6 HSI HTL hE6 HRD
                        cases rb
                        · skip
                          refine wp_region_held_drew (S := (fun W => W.cell? ⟨wr.heap.size, 1, none⟩ = some (.func (.func g2) #[] caps) ∧ W.cell? ⟨gw, ow + (i + 1), none⟩ = some (.string (bs t)))) (by kernel_rfl) (by exact ⟨by with_reducible assumption, by with_reducible assumption⟩) (fun hHeld => ?_)
                          first
                          | (refine wpAnyH_take (i := 0) (v := ?_) rfl (by kernel_rfl) (by kernel_rfl) (by kernel_rfl) (fun _ _ _ h => h) (Or.inl ⟨by rfl, ?_⟩) (by assumption) ?_; rotate_left 1; (focus (intro w hSw; (try dsimp only at hSw); go_simp; (try with_reducible rfl))); (try simp only [Act.put, List.setIfInBounds_toArray, List.set_cons_zero, List.set_cons_succ, List.getElem_toArray, List.getElem_cons_zero, List.getElem_cons_succ]))
                          | (refine wpAnyH_take (i := 0) (v := undef) rfl (by kernel_rfl) (by kernel_rfl) (by kernel_rfl) (fun _ _ _ h => h) (Or.inr ⟨by rfl, rfl⟩) (by assumption) ?_; (try simp only [Act.put, List.setIfInBounds_toArray, List.set_cons_zero, List.set_cons_succ, List.getElem_toArray, List.getElem_cons_zero, List.getElem_cons_succ]))
                          first
                          | (refine wpAnyH_take (i := 1) (v := ?_) rfl (by kernel_rfl) (by kernel_rfl) (by kernel_rfl) (fun _ _ _ h => h) (Or.inl ⟨by rfl, ?_⟩) (by assumption) ?_; rotate_left 1; (focus (intro w hSw; (try dsimp only at hSw); go_simp; (try with_reducible rfl))); (try simp only [Act.put, List.setIfInBounds_toArray, List.set_cons_zero, List.set_cons_succ, List.getElem_toArray, List.getElem_cons_zero, List.getElem_cons_succ]))
                          | (refine wpAnyH_take (i := 1) (v := undef) rfl (by kernel_rfl) (by kernel_rfl) (by kernel_rfl) (fun _ _ _ h => h) (Or.inr ⟨by rfl, rfl⟩) (by assumption) ?_; (try simp only [Act.put, List.setIfInBounds_toArray, List.set_cons_zero, List.set_cons_succ, List.getElem_toArray, List.getElem_cons_zero, List.getElem_cons_succ]))
                          first
                          | (refine wpAnyH_take (i := 2) (v := ?_) rfl (by kernel_rfl) (by kernel_rfl) (by kernel_rfl) (fun _ _ _ h => h) (Or.inl ⟨by rfl, ?_⟩) (by assumption) ?_; rotate_left 1; (focus (intro w hSw; (try dsimp only at hSw); go_simp; (try with_reducible rfl))); (try simp only [Act.put, List.setIfInBounds_toArray, List.set_cons_zero, List.set_cons_succ, List.getElem_toArray, List.getElem_cons_zero, List.getElem_cons_succ]))
                          | (refine wpAnyH_take (i := 2) (v := undef) rfl (by kernel_rfl) (by kernel_rfl) (by kernel_rfl) (fun _ _ _ h => h) (Or.inr ⟨by rfl, rfl⟩) (by assumption) ?_; (try simp only [Act.put, List.setIfInBounds_toArray, List.set_cons_zero, List.set_cons_succ, List.getElem_toArray, List.getElem_cons_zero, List.getElem_cons_succ]))
                          first
                          | (refine wpAnyH_take (i := 3) (v := ?_) rfl (by kernel_rfl) (by kernel_rfl) (by kernel_rfl) (fun _ _ _ h => h) (Or.inl ⟨by rfl, ?_⟩) (by assumption) ?_; rotate_left 1; (focus (intro w hSw; (try dsimp only at hSw); go_simp; (try with_reducible rfl))); (try simp only [Act.put, List.setIfInBounds_toArray, List.set_cons_zero, List.set_cons_succ, List.getElem_toArray, List.getElem_cons_zero, List.getElem_cons_succ]))
                          | (refine wpAnyH_take (i := 3) (v := undef) rfl (by kernel_rfl) (by kernel_rfl) (by kernel_rfl) (fun _ _ _ h => h) (Or.inr ⟨by rfl, rfl⟩) (by assumption) ?_; (try simp only [Act.put, List.setIfInBounds_toArray, List.set_cons_zero, List.set_cons_succ, List.getElem_toArray, List.getElem_cons_zero, List.getElem_cons_succ]))
                          first
                          | (refine wpAnyH_take (i := 4) (v := ?_) rfl (by kernel_rfl) (by kernel_rfl) (by kernel_rfl) (fun _ _ _ h => h) (Or.inl ⟨by rfl, ?_⟩) (by assumption) ?_; rotate_left 1; (focus (intro w hSw; (try dsimp only at hSw); go_simp; (try with_reducible rfl))); (try simp only [Act.put, List.setIfInBounds_toArray, List.set_cons_zero, List.set_cons_succ, List.getElem_toArray, List.getElem_cons_zero, List.getElem_cons_succ]))
                          | (refine wpAnyH_take (i := 4) (v := undef) rfl (by kernel_rfl) (by kernel_rfl) (by kernel_rfl) (fun _ _ _ h => h) (Or.inr ⟨by rfl, rfl⟩) (by assumption) ?_; (try simp only [Act.put, List.setIfInBounds_toArray, List.set_cons_zero, List.set_cons_succ, List.getElem_toArray, List.getElem_cons_zero, List.getElem_cons_succ]))
                          first
                          | (refine wpAnyH_take (i := 5) (v := ?_) rfl (by kernel_rfl) (by kernel_rfl) (by kernel_rfl) (fun _ _ _ h => h) (Or.inl ⟨by rfl, ?_⟩) (by assumption) ?_; rotate_left 1; (focus (intro w hSw; (try dsimp only at hSw); go_simp; (try with_reducible rfl))); (try simp only [Act.put, List.setIfInBounds_toArray, List.set_cons_zero, List.set_cons_succ, List.getElem_toArray, List.getElem_cons_zero, List.getElem_cons_succ]))
                          | (refine wpAnyH_take (i := 5) (v := undef) rfl (by kernel_rfl) (by kernel_rfl) (by kernel_rfl) (fun _ _ _ h => h) (Or.inr ⟨by rfl, rfl⟩) (by assumption) ?_; (try simp only [Act.put, List.setIfInBounds_toArray, List.set_cons_zero, List.set_cons_succ, List.getElem_toArray, List.getElem_cons_zero, List.getElem_cons_succ]))
                          first
                          | (refine wpAnyH_take (i := 6) (v := ?_) rfl (by kernel_rfl) (by kernel_rfl) (by kernel_rfl) (fun _ _ _ h => h) (Or.inl ⟨by rfl, ?_⟩) (by assumption) ?_; rotate_left 1; (focus (intro w hSw; (try dsimp only at hSw); go_simp; (try with_reducible rfl))); (try simp only [Act.put, List.setIfInBounds_toArray, List.set_cons_zero, List.set_cons_succ, List.getElem_toArray, List.getElem_cons_zero, List.getElem_cons_succ]))
                          | (refine wpAnyH_take (i := 6) (v := undef) rfl (by kernel_rfl) (by kernel_rfl) (by kernel_rfl) (fun _ _ _ h => h) (Or.inr ⟨by rfl, rfl⟩) (by assumption) ?_; (try simp only [Act.put, List.setIfInBounds_toArray, List.set_cons_zero, List.set_cons_succ, List.getElem_toArray, List.getElem_cons_zero, List.getElem_cons_succ]))
                          refine wpAnyH_ready (rs := [7]) (by kernel_rfl) (by simp) ?_
                          refine AllReadyH.cons rfl (fun K hK => ?_) AllReadyH.nil
                          go_simp
                          first
                          | (refine hK.out _ _ hHeld (fun hHeld => ?_))
                          | (go_wp2_with (((with_reducible refine hcall2.mono ?_); rintro e w8 ⟨rfl, A2, c2, hE2, hX2, hf2⟩; have m1 := ext_cell hX2 n1 hnb; have m2 := ext_cell hX2 cw1 hgb)); refine hK.out _ _ (by exact ⟨by with_reducible assumption, by with_reducible assumption⟩) (fun hHeld => ?_))
                          clear hK K
                          (try simp only [Act.put, List.setIfInBounds_toArray, List.set_cons_zero, List.set_cons_succ, List.getElem_toArray, List.getElem_cons_zero, List.getElem_cons_succ])
                          first
                          | (refine wpAnyH_take (i := 8) (v := ?_) rfl (by kernel_rfl) (by kernel_rfl) (by kernel_rfl) (fun _ _ _ h => h) (Or.inl ⟨by rfl, ?_⟩) (by assumption) ?_; rotate_left 1; (focus (intro w hSw; (try dsimp only at hSw); go_simp; (try with_reducible rfl))); (try simp only [Act.put, List.setIfInBounds_toArray, List.set_cons_zero, List.set_cons_succ, List.getElem_toArray, List.getElem_cons_zero, List.getElem_cons_succ]))
                          | (refine wpAnyH_take (i := 8) (v := undef) rfl (by kernel_rfl) (by kernel_rfl) (by kernel_rfl) (fun _ _ _ h => h) (Or.inr ⟨by rfl, rfl⟩) (by assumption) ?_; (try simp only [Act.put, List.setIfInBounds_toArray, List.set_cons_zero, List.set_cons_succ, List.getElem_toArray, List.getElem_cons_zero, List.getElem_cons_succ]))
                          first
                          | (refine wpAnyH_take (i := 9) (v := ?_) rfl (by kernel_rfl) (by kernel_rfl) (by kernel_rfl) (fun _ _ _ h => h) (Or.inl ⟨by rfl, ?_⟩) (by assumption) ?_; rotate_left 1; (focus (intro w hSw; (try dsimp only at hSw); go_simp; (try with_reducible rfl))); (try simp only [Act.put, List.setIfInBounds_toArray, List.set_cons_zero, List.set_cons_succ, List.getElem_toArray, List.getElem_cons_zero, List.getElem_cons_succ]))
                          | (refine wpAnyH_take (i := 9) (v := undef) rfl (by kernel_rfl) (by kernel_rfl) (by kernel_rfl) (fun _ _ _ h => h) (Or.inr ⟨by rfl, rfl⟩) (by assumption) ?_; (try simp only [Act.put, List.setIfInBounds_toArray, List.set_cons_zero, List.set_cons_succ, List.getElem_toArray, List.getElem_cons_zero, List.getElem_cons_succ]))
                          first
                          | (refine wpAnyH_take (i := 10) (v := ?_) rfl (by kernel_rfl) (by kernel_rfl) (by kernel_rfl) (fun _ _ _ h => h) (Or.inl ⟨by rfl, ?_⟩) (by assumption) ?_; rotate_left 1; (focus (intro w hSw; (try dsimp only at hSw); go_simp; (try with_reducible rfl))); (try simp only [Act.put, List.setIfInBounds_toArray, List.set_cons_zero, List.set_cons_succ, List.getElem_toArray, List.getElem_cons_zero, List.getElem_cons_succ]))
                          | (refine wpAnyH_take (i := 10) (v := undef) rfl (by kernel_rfl) (by kernel_rfl) (by kernel_rfl) (fun _ _ _ h => h) (Or.inr ⟨by rfl, rfl⟩) (by assumption) ?_; (try simp only [Act.put, List.setIfInBounds_toArray, List.set_cons_zero, List.set_cons_succ, List.getElem_toArray, List.getElem_cons_zero, List.getElem_cons_succ]))
                          first
                          | (refine wpAnyH_take (i := 11) (v := ?_) rfl (by kernel_rfl) (by kernel_rfl) (by kernel_rfl) (fun _ _ _ h => h) (Or.inl ⟨by rfl, ?_⟩) (by assumption) ?_; rotate_left 1; (focus (intro w hSw; (try dsimp only at hSw); go_simp; (try with_reducible rfl))); (try simp only [Act.put, List.setIfInBounds_toArray, List.set_cons_zero, List.set_cons_succ, List.getElem_toArray, List.getElem_cons_zero, List.getElem_cons_succ]))
                          | (refine wpAnyH_take (i := 11) (v := undef) rfl (by kernel_rfl) (by kernel_rfl) (by kernel_rfl) (fun _ _ _ h => h) (Or.inr ⟨by rfl, rfl⟩) (by assumption) ?_; (try simp only [Act.put, List.setIfInBounds_toArray, List.set_cons_zero, List.set_cons_succ, List.getElem_toArray, List.getElem_cons_zero, List.getElem_cons_succ]))
                          refine wpAnyH_done (by kernel_rfl) ?_ _
                          clear hw1 hw2 hw3 hw4 hw5' m1 m2 hHeld
                          go_wp2_with fail
                          go_roundw
                          case rel => exact ⟨i + 1, by go_num, by omega, E2, _, A2, c2, rfl, HRS.out, hE2, hX.trans (Ext.belowL hBd hX2) (fun _ h => .inl h), hf2⟩
                          case measure => simp [intOf]; omega
                        · skip
                          refine wp_region_held_drew (S := (fun W => W.cell? ⟨wr.heap.size, 1, none⟩ = some (.func (.func g2) #[] caps) ∧ W.cell? ⟨gw, ow + (i + 1), none⟩ = some (.string (bs t)))) (by kernel_rfl) (by exact ⟨by with_reducible assumption, by with_reducible assumption⟩) (fun hHeld => ?_)
                          first
                          | (refine wpAnyH_take (i := 0) (v := ?_) rfl (by kernel_rfl) (by kernel_rfl) (by kernel_rfl) (fun _ _ _ h => h) (Or.inl ⟨by rfl, ?_⟩) (by assumption) ?_; rotate_left 1; (focus (intro w hSw; (try dsimp only at hSw); go_simp; (try with_reducible rfl))); (try simp only [Act.put, List.setIfInBounds_toArray, List.set_cons_zero, List.set_cons_succ, List.getElem_toArray, List.getElem_cons_zero, List.getElem_cons_succ]))
                          | (refine wpAnyH_take (i := 0) (v := undef) rfl (by kernel_rfl) (by kernel_rfl) (by kernel_rfl) (fun _ _ _ h => h) (Or.inr ⟨by rfl, rfl⟩) (by assumption) ?_; (try simp only [Act.put, List.setIfInBounds_toArray, List.set_cons_zero, List.set_cons_succ, List.getElem_toArray, List.getElem_cons_zero, List.getElem_cons_succ]))
                          first
                          | (refine wpAnyH_take (i := 1) (v := ?_) rfl (by kernel_rfl) (by kernel_rfl) (by kernel_rfl) (fun _ _ _ h => h) (Or.inl ⟨by rfl, ?_⟩) (by assumption) ?_; rotate_left 1; (focus (intro w hSw; (try dsimp only at hSw); go_simp; (try with_reducible rfl))); (try simp only [Act.put, List.setIfInBounds_toArray, List.set_cons_zero, List.set_cons_succ, List.getElem_toArray, List.getElem_cons_zero, List.getElem_cons_succ]))
                          | (refine wpAnyH_take (i := 1) (v := undef) rfl (by kernel_rfl) (by kernel_rfl) (by kernel_rfl) (fun _ _ _ h => h) (Or.inr ⟨by rfl, rfl⟩) (by assumption) ?_; (try simp only [Act.put, List.setIfInBounds_toArray, List.set_cons_zero, List.set_cons_succ, List.getElem_toArray, List.getElem_cons_zero, List.getElem_cons_succ]))
                          first
                          | (refine wpAnyH_take (i := 2) (v := ?_) rfl (by kernel_rfl) (by kernel_rfl) (by kernel_rfl) (fun _ _ _ h => h) (Or.inl ⟨by rfl, ?_⟩) (by assumption) ?_; rotate_left 1; (focus (intro w hSw; (try dsimp only at hSw); go_simp; (try with_reducible rfl))); (try simp only [Act.put, List.setIfInBounds_toArray, List.set_cons_zero, List.set_cons_succ, List.getElem_toArray, List.getElem_cons_zero, List.getElem_cons_succ]))
                          | (refine wpAnyH_take (i := 2) (v := undef) rfl (by kernel_rfl) (by kernel_rfl) (by kernel_rfl) (fun _ _ _ h => h) (Or.inr ⟨by rfl, rfl⟩) (by assumption) ?_; (try simp only [Act.put, List.setIfInBounds_toArray, List.set_cons_zero, List.set_cons_succ, List.getElem_toArray, List.getElem_cons_zero, List.getElem_cons_succ]))
                          first
                          | (refine wpAnyH_take (i := 3) (v := ?_) rfl (by kernel_rfl) (by kernel_rfl) (by kernel_rfl) (fun _ _ _ h => h) (Or.inl ⟨by rfl, ?_⟩) (by assumption) ?_; rotate_left 1; (focus (intro w hSw; (try dsimp only at hSw); go_simp; (try with_reducible rfl))); (try simp only [Act.put, List.setIfInBounds_toArray, List.set_cons_zero, List.set_cons_succ, List.getElem_toArray, List.getElem_cons_zero, List.getElem_cons_succ]))
                          | (refine wpAnyH_take (i := 3) (v := undef) rfl (by kernel_rfl) (by kernel_rfl) (by kernel_rfl) (fun _ _ _ h => h) (Or.inr ⟨by rfl, rfl⟩) (by assumption) ?_; (try simp only [Act.put, List.setIfInBounds_toArray, List.set_cons_zero, List.set_cons_succ, List.getElem_toArray, List.getElem_cons_zero, List.getElem_cons_succ]))
                          first
                          | (refine wpAnyH_take (i := 4) (v := ?_) rfl (by kernel_rfl) (by kernel_rfl) (by kernel_rfl) (fun _ _ _ h => h) (Or.inl ⟨by rfl, ?_⟩) (by assumption) ?_; rotate_left 1; (focus (intro w hSw; (try dsimp only at hSw); go_simp; (try with_reducible rfl))); (try simp only [Act.put, List.setIfInBounds_toArray, List.set_cons_zero, List.set_cons_succ, List.getElem_toArray, List.getElem_cons_zero, List.getElem_cons_succ]))
                          | (refine wpAnyH_take (i := 4) (v := undef) rfl (by kernel_rfl) (by kernel_rfl) (by kernel_rfl) (fun _ _ _ h => h) (Or.inr ⟨by rfl, rfl⟩) (by assumption) ?_; (try simp only [Act.put, List.setIfInBounds_toArray, List.set_cons_zero, List.set_cons_succ, List.getElem_toArray, List.getElem_cons_zero, List.getElem_cons_succ]))
                          first
                          | (refine wpAnyH_take (i := 5) (v := ?_) rfl (by kernel_rfl) (by kernel_rfl) (by kernel_rfl) (fun _ _ _ h => h) (Or.inl ⟨by rfl, ?_⟩) (by assumption) ?_; rotate_left 1; (focus (intro w hSw; (try dsimp only at hSw); go_simp; (try with_reducible rfl))); (try simp only [Act.put, List.setIfInBounds_toArray, List.set_cons_zero, List.set_cons_succ, List.getElem_toArray, List.getElem_cons_zero, List.getElem_cons_succ]))
                          | (refine wpAnyH_take (i := 5) (v := undef) rfl (by kernel_rfl) (by kernel_rfl) (by kernel_rfl) (fun _ _ _ h => h) (Or.inr ⟨by rfl, rfl⟩) (by assumption) ?_; (try simp only [Act.put, List.setIfInBounds_toArray, List.set_cons_zero, List.set_cons_succ, List.getElem_toArray, List.getElem_cons_zero, List.getElem_cons_succ]))
                          first
                          | (refine wpAnyH_take (i := 6) (v := ?_) rfl (by kernel_rfl) (by kernel_rfl) (by kernel_rfl) (fun _ _ _ h => h) (Or.inl ⟨by rfl, ?_⟩) (by assumption) ?_; rotate_left 1; (focus (intro w hSw; (try dsimp only at hSw); go_simp; (try with_reducible rfl))); (try simp only [Act.put, List.setIfInBounds_toArray, List.set_cons_zero, List.set_cons_succ, List.getElem_toArray, List.getElem_cons_zero, List.getElem_cons_succ]))
                          | (refine wpAnyH_take (i := 6) (v := undef) rfl (by kernel_rfl) (by kernel_rfl) (by kernel_rfl) (fun _ _ _ h => h) (Or.inr ⟨by rfl, rfl⟩) (by assumption) ?_; (try simp only [Act.put, List.setIfInBounds_toArray, List.set_cons_zero, List.set_cons_succ, List.getElem_toArray, List.getElem_cons_zero, List.getElem_cons_succ]))
                          refine wpAnyH_ready (rs := [7]) (by kernel_rfl) (by simp) ?_
                          refine AllReadyH.cons rfl (fun K hK => ?_) AllReadyH.nil
                          go_simp
                          first
                          | (refine hK.out _ _ hHeld (fun hHeld => ?_))
                          | (go_wp2_with (((with_reducible refine hcall2.mono ?_); rintro e w8 ⟨rfl, A2, c2, hE2, hX2, hf2⟩; have m1 := ext_cell hX2 n1 hnb; have m2 := ext_cell hX2 cw1 hgb)); refine hK.out _ _ (by exact ⟨by with_reducible assumption, by with_reducible assumption⟩) (fun hHeld => ?_))
                          clear hK K
                          (try simp only [Act.put, List.setIfInBounds_toArray, List.set_cons_zero, List.set_cons_succ, List.getElem_toArray, List.getElem_cons_zero, List.getElem_cons_succ])
                          first
                          | (refine wpAnyH_take (i := 8) (v := ?_) rfl (by kernel_rfl) (by kernel_rfl) (by kernel_rfl) (fun _ _ _ h => h) (Or.inl ⟨by rfl, ?_⟩) (by assumption) ?_; rotate_left 1; (focus (intro w hSw; (try dsimp only at hSw); go_simp; (try with_reducible rfl))); (try simp only [Act.put, List.setIfInBounds_toArray, List.set_cons_zero, List.set_cons_succ, List.getElem_toArray, List.getElem_cons_zero, List.getElem_cons_succ]))
                          | (refine wpAnyH_take (i := 8) (v := undef) rfl (by kernel_rfl) (by kernel_rfl) (by kernel_rfl) (fun _ _ _ h => h) (Or.inr ⟨by rfl, rfl⟩) (by assumption) ?_; (try simp only [Act.put, List.setIfInBounds_toArray, List.set_cons_zero, List.set_cons_succ, List.getElem_toArray, List.getElem_cons_zero, List.getElem_cons_succ]))
                          first
                          | (refine wpAnyH_take (i := 9) (v := ?_) rfl (by kernel_rfl) (by kernel_rfl) (by kernel_rfl) (fun _ _ _ h => h) (Or.inl ⟨by rfl, ?_⟩) (by assumption) ?_; rotate_left 1; (focus (intro w hSw; (try dsimp only at hSw); go_simp; (try with_reducible rfl))); (try simp only [Act.put, List.setIfInBounds_toArray, List.set_cons_zero, List.set_cons_succ, List.getElem_toArray, List.getElem_cons_zero, List.getElem_cons_succ]))
                          | (refine wpAnyH_take (i := 9) (v := undef) rfl (by kernel_rfl) (by kernel_rfl) (by kernel_rfl) (fun _ _ _ h => h) (Or.inr ⟨by rfl, rfl⟩) (by assumption) ?_; (try simp only [Act.put, List.setIfInBounds_toArray, List.set_cons_zero, List.set_cons_succ, List.getElem_toArray, List.getElem_cons_zero, List.getElem_cons_succ]))
                          first
                          | (refine wpAnyH_take (i := 10) (v := ?_) rfl (by kernel_rfl) (by kernel_rfl) (by kernel_rfl) (fun _ _ _ h => h) (Or.inl ⟨by rfl, ?_⟩) (by assumption) ?_; rotate_left 1; (focus (intro w hSw; (try dsimp only at hSw); go_simp; (try with_reducible rfl))); (try simp only [Act.put, List.setIfInBounds_toArray, List.set_cons_zero, List.set_cons_succ, List.getElem_toArray, List.getElem_cons_zero, List.getElem_cons_succ]))
                          | (refine wpAnyH_take (i := 10) (v := undef) rfl (by kernel_rfl) (by kernel_rfl) (by kernel_rfl) (fun _ _ _ h => h) (Or.inr ⟨by rfl, rfl⟩) (by assumption) ?_; (try simp only [Act.put, List.setIfInBounds_toArray, List.set_cons_zero, List.set_cons_succ, List.getElem_toArray, List.getElem_cons_zero, List.getElem_cons_succ]))
                          first
                          | (refine wpAnyH_take (i := 11) (v := ?_) rfl (by kernel_rfl) (by kernel_rfl) (by kernel_rfl) (fun _ _ _ h => h) (Or.inl ⟨by rfl, ?_⟩) (by assumption) ?_; rotate_left 1; (focus (intro w hSw; (try dsimp only at hSw); go_simp; (try with_reducible rfl))); (try simp only [Act.put, List.setIfInBounds_toArray, List.set_cons_zero, List.set_cons_succ, List.getElem_toArray, List.getElem_cons_zero, List.getElem_cons_succ]))
                          | (refine wpAnyH_take (i := 11) (v := undef) rfl (by kernel_rfl) (by kernel_rfl) (by kernel_rfl) (fun _ _ _ h => h) (Or.inr ⟨by rfl, rfl⟩) (by assumption) ?_; (try simp only [Act.put, List.setIfInBounds_toArray, List.set_cons_zero, List.set_cons_succ, List.getElem_toArray, List.getElem_cons_zero, List.getElem_cons_succ]))
                          refine wpAnyH_done (by kernel_rfl) ?_ _
                          clear hw1 hw2 hw3 hw4 hw5' m1 m2 hHeld
                          go_wp2_with fail
                          go_roundw
                          case rel => exact ⟨i + 1, by go_num, by omega, E2, _, A2, c2, rfl, HRS.out, hE2, hX.trans (Ext.belowL hBd hX2) (fun _ h => .inl h), hf2⟩
                          case measure => simp [intOf]; omega
                  · obtain rfl : i = m := by omega
                    as_aux_lemma =>
                      have hall : fs.take i = fs := take_all fs (by rw [← HM.out]; exact Nat.le_refl _)
                      have hrd : readFs fs wt (zeroEv k) true = (E, ok) := by rw [← HRD.out, hall]
                      have hok : E.Ok := by
                        have := readFs_ok fs wt (zeroEv k) true (zeroEv_ok hkO)
                        rw [hrd] at this
                        exact this
                      have hsz : E.Sz := by
                        have := readFs_sz fs wt (zeroEv k) true ⟨by simp [zeroEv], by simp [zeroEv], by simp [zeroEv]⟩ (fun t ht => by
                          obtain ⟨j, hj⟩ := List.mem_iff_getElem?.1 ht
                          exact HTL.out j t hj)
                        rw [hrd] at this
                        exact this
                      have hkk : E.kind = k := by
                        have := readFs_kind fs wt (zeroEv k) true
                        rw [hrd] at this
                        exact this
                      have HRD2 := Lib.hid hrd
                      have HKK := Lib.hid hkk
                      have HALL := Lib.hid hall
                      have hfit := readOne_fit hf HWS.out (by rw [HN.out, HM.out]) hrd
                      have HFIT := Lib.hid hfit
                      have hBX := hX.below (h4.trans (hB46.mono h4.size)) (by have := hB46.size; omega) (fun j e => by have e2 : j = b := e; have := HBB.out; omega)
                      have hXw : Ext (fun i => w4.heap.size ≤ i) w4 wr := Ext.belowL hB46 (hX.mono (fun j e => by have e2 : j = b := e; have := HBB.out; omega))
                      have hrw4 := HHE4.out.row (HHAT.out.ext.row hr3 (fun e => by have e2 : b0 = it := e; omega)) (fun e => by have e2 : b0 = it := e; omega)
                      have hrw := hXw.row hrw4 (by have := hrw4.lt; omega)
                      clear hrd hkk hall hfit
                      cases ok
                      · have hno : readOne k s = none := by rw [HFIT.out]; simp
                        have HNO := Lib.hid hno
                        clear hno
                        go_wp2_with fail
                        have hnx := HHAT.out.next HHE4.out HF4.out HIT4.out (by simpa using he) HEK.out HNO.out hXw
                        go_roundw
                        case rel => exact ⟨_, hnx⟩
                        case measure => exact HHAT.out.shrinks hnx HHEN.out
                      · obtain ⟨VE, hVE⟩ : ∃ VE, (evl E (.slice A E.body.length c)).toArray = VE := ⟨_, rfl⟩
                        have hrE := hE.row
                        have hVs : VE.size = 46 := by rw [← hVE, List.size_toArray]; exact evl_len hok.fresh
                        have hV1 : VE.all (·.oneCell') = true := by rw [← hVE]; exact evl_one _ _ _ _
                        have hld := lda_ev hrE (evl_len hok.fresh)
                        have hline := line_any E A c wr hsz hok hE.fit hE.body (hG.below hBX)
                        rw [hVE] at hld hline
                        obtain ⟨LE, hLE⟩ : ∃ LE, lineL E = LE := ⟨_, rfl⟩
                        rw [hLE] at hline
                        have HVE := Lib.hid hVE
                        have HLE := Lib.hid hLE
                        have HV1 := Lib.hid hV1
                        clear hVE hLE hV1
                        by_cases hls : LE = s
                        · have hcmp : (LE == s) = true := by rw [beq_iff_eq]; exact hls
                          have HLS := Lib.hid hls
                          clear hls
                          go_wp2_with (first | (refine wpList_load 28 (.tmp 7) rfl (.pointer (some ⟨b, 0, none⟩)) (.agg VE) rfl rfl hld ?_) | (refine wpList_load 28 (.tmp 7) rfl (.pointer (some ⟨b, 0, none⟩)) (.agg VE) rfl rfl hld9 ?_) | (go_at_call 6; refine hline.mono ?_; rintro e w9 ⟨rfl, hb9⟩; have hst9 := st_ev (hrw.below hb9) zev_len hVs HV1.out; have hld9 := lda_ev (hrE.below hb9) (evl_len hok.fresh); rw [HVE.out] at hld9))
                          have hr10 := (hrw.below hb9).setRow VE
                          have hldv := ldv_ev hr10 (by rw [Array.length_toList]; exact hVs)
                          rw [Array.toArray_toList] at hldv
                          refine bodyPost_ret (v := .tuple #[.agg VE, .int .i64 0]) ?_ rfl ⟨E, A, c, 0, by rw [HVE.out], hok, hsz, hE.fit, ?_, .inl ⟨rfl, ?_⟩, ?_⟩
                          · rw [results_cell_tmp rfl]
                            simp [asAddr, Result.andThen, hldv]
                          · exact Rb.extF (n := E.body.length) (c := c) (hE.body.below hb9) (ext_setRow w9 b0 VE) (fun x hx e => by have e2 : x = b0 := e; have := hfar x hx; have := hB46.size; have := (Array.getElem?_eq_some_iff.1 HIT4.out).1; omega)
                          · rw [HKK.out, HFIT.out, if_pos ⟨by trivial, HLE.out.trans HLS.out⟩]
                          · have h9 := hBX.trans (hb9.mono hBX.size)
                            exact (ext_setRow w9 b0 VE).below h9 h9.size (fun j e => by have e2 : j = b0 := e; omega)
                        · have hcmp : (LE == s) = false := by rw [beq_eq_false_iff_ne]; exact hls
                          have HLS := Lib.hid hls
                          clear hls
                          go_wp2_with (first | (refine wpList_load 28 (.tmp 7) rfl (.pointer (some ⟨b, 0, none⟩)) (.agg VE) rfl rfl hld ?_) | (go_at_call 6; refine hline.mono ?_; rintro e w9 ⟨rfl, hb9⟩))
                          have hno : readOne k s = none := by
                            rw [HFIT.out, if_neg]
                            rintro ⟨_, h⟩
                            exact HLS.out (HLE.out.symm.trans h)
                          have hnx := HHAT.out.next HHE4.out HF4.out HIT4.out (by simpa using he) HEK.out hno (hXw.belowR hb9)
                          go_roundw
                          case rel => exact ⟨_, hnx⟩
                          case measure => exact HHAT.out.shrinks hnx HHEN.out
          · have hne := hmn
            have hz1 : wrap64 ((n : Int) - 1) = (n : Int) - 1 := by unfold wrap64; omega
            as_aux_lemma =>
              have hz2 : ((m : Int) != (n : Int) - 1) = true := by rw [bne_iff_ne]; omega
              have hz3 : ((m : Int) == (n : Int) - 1) = false := by rw [beq_eq_false_iff_ne]; omega
              clear hmn
              clear hst
              go_quiet (fail)
              go_wp2_with fail
              have hnx := hat.next hE4 hF4 hit4 (by simpa using he) HEK.out (readOne_len hf HWS.out (by rw [HN.out, ← HM.out]; exact hne)) (ext_of_below (((Below.refl _ w4).alloc (Nat.le_refl _) (.cells #[.string (bs word), .slice (some ⟨g, 0, none⟩) m m] 40)).trans ((Dn.of _ nq).below _)))
              go_roundw
              case rel => exact ⟨_, hnx⟩
              case measure => exact hat.shrinks hnx hsh
        · have hwb : (word == w0) = false := by rw [beq_eq_false_iff_ne]; exact hwd
          go_quiet (fail)
          as_aux_lemma =>
            go_wp2_with fail
            have hnx := hat.next hE4 hF4 hit4 (by simpa using he) HEK.out (readOne_word hf HWS.out hwd) (ext_of_below (((Below.refl _ w4).alloc (Nat.le_refl _) (.cells #[.string (bs word), .slice (some ⟨g, 0, none⟩) m m] 40)).trans ((Dn.of _ nq).below _)))
            go_roundw
            case rel => exact ⟨_, hnx⟩
            case measure => exact hat.shrinks hnx hsh

end Go.Proofs.YtleolfpgiaimfaaDoor
