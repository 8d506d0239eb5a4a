/- The program's wrap: the texts of lines, cut anew. -/
import Derived.Test.YtcagkoakbdbbaaaGreatDoorJ21
import Derived.Test.YtcagkoakbdbbaaaGreatDoorJ22
import Derived.Test.YtcagkoakbdbbaaaGreatDoorJ23
namespace Go.Proofs.YtcagkoakbdbbaaaGreatDoor
set_option linter.unusedVariables false
set_option linter.unusedSimpArgs false
open Go.RowKit Go.Shelf

attribute [local go_sem] Oper.semAt_some

/-- the bytes of a chunk -/
def chw (xs : List UInt8) (k j : Nat) : List UInt8 := (xs.drop (j * k)).take k
/-- the lines after some chunks -/
def wrF (l : List UInt8) (k n : Nat) (pre : List (Cj k n)) : List UInt8 := pre.flatMap fun j => chw l k j.1 ++ [13, 10]
/-- all lines -/
def wrapL (k m : Nat) (l : List UInt8) : List UInt8 := (List.range m).flatMap fun j => chw l k j ++ [13, 10]
theorem wrF_length (l : List UInt8) (k n : Nat) (pre : List (Cj k n)) : (wrF l k n pre).length ≤ (k + 2) * pre.length := by
  induction pre with
  | nil => simp [wrF]
  | cons j pre ih =>
    have h : (chw l k j.1).length ≤ k := by unfold chw; simp; omega
    have e : wrF l k n (j :: pre) = (chw l k j.1 ++ [13, 10]) ++ wrF l k n pre := by simp [wrF]
    rw [e, List.length_append, List.length_cons, List.length_append, Nat.mul_add]
    simp only [List.length_cons, List.length_nil]
    omega
theorem wrF_all {l : List UInt8} {k n m : Nat} {pre : List (Cj k n)} (h : pre.map Subtype.val = List.range m) : wrF l k n pre = wrapL k m l := by
  have e1 : wrF l k n pre = (pre.map Subtype.val).flatMap fun j => chw l k j ++ [13, 10] := by simp [wrF, List.flatMap_map]
  rw [e1, h, wrapL]
theorem Rb.chw {w : World} {A : Option Addr} {xs : List UInt8} {b o k j n : Nat} (h : Rb w A xs) (hn : xs.length = n) (hA : 0 < n → A = some ⟨b, o, none⟩) (hj : j * k < n) :
    (chw xs k j).length = min k (n - j * k) ∧ Rb w (some ⟨b, o + j * k, none⟩) (chw xs k j) := by
  refine ⟨by simp [Go.Proofs.YtcagkoakbdbbaaaGreatDoor.chw, hn], fun _ => ⟨b, o + j * k, rfl, fun q v hq => ?_⟩⟩
  obtain ⟨b', o', e, hc⟩ := h (by simp; omega)
  have := hA (by omega)
  rw [e] at this
  cases this
  rw [Nat.add_assoc]
  refine hc _ v ?_
  simp only [Go.Proofs.YtcagkoakbdbbaaaGreatDoor.chw, List.getElem?_map, List.getElem?_take, List.getElem?_drop] at hq ⊢
  split at hq
  · exact hq
  · simp at hq
theorem Rb_lower {B : Nat} {W W' : World} {b o : Nat} {l : List UInt8} (hb : Below B W W') (h : b < B) (hr : Rb W (some ⟨b, o, none⟩) l) : Rb W' (some ⟨b, o, none⟩) l := fun hp => by
  obtain ⟨b', o', e, hc⟩ := hr hp
  cases e
  exact ⟨b, o, rfl, fun j v hj => (hb.cell (p := ⟨b, o + j, none⟩) h).trans (hc j v hj)⟩
theorem flatT_app (a b : List (List UInt8)) : flatT (a ++ b) = flatT a ++ flatT b := by simp [flatT]
theorem flat_text_le (ls : List (List UInt8)) (i : Nat) : (flatT (ls.take i)).length ≤ (flatT ls).length := by
  have e : flatT ls = flatT (ls.take i) ++ flatT (ls.drop i) := by
    rw [← flatT_app, List.take_append_drop]
  rw [e, List.length_append]
  omega

set_option maxRecDepth 100000 in
set_option maxHeartbeats 2000000 in
theorem wrap_in (f : Nat) (hf : 5 ≤ f) (A Al : Option Addr) (b : List UInt8) (ps : List (Nat × Nat)) (n cl k : Nat) (w : World) (hA : Rb w A b) (hps : ps.length = n) (hL : Rv w Al (ps.map (lnV A))) (hok : ∀ p ∈ ps, p.1 < p.2 ∧ p.2 ≤ b.length)
    (hnc : n ≤ cl) (hb : b.length ≤ 1000000) (hall : (flatT (lnTold b ps)).length ≤ 1000000) (hk1 : 1 ≤ k) (hk2 : k ≤ 1000) (hn : n ≤ 1000000) :
    CallsIn Fence.wide f Tryz.prog 45 #[.slice Al n cl, .int .i64 k] w fun e w' => (∃ v, e = .returned v ∧ ∃ m, m ≤ (flatT (lnTold b ps)).length ∧ (∀ j, j < m → j * k < (flatT (lnTold b ps)).length) ∧ w'.ownsRow w.heap.size 5 1 v (wrapL k m (flatT (lnTold b ps))).length ((wrapL k m (flatT (lnTold b ps))).map bv)) ∧ Below w.heap.size w w' := by
  have HN := Lib.hid hps
  have HOK := Lib.hid hok
  have HALL := Lib.hid hall
  obtain ⟨all, hall2⟩ : ∃ all, flatT (lnTold b ps) = all := ⟨_, rfl⟩
  have HALQ := Lib.hid hall2
  rw [hall2]
  clear hps hok hall hall2
  have bO0 := Boxed.new w 22 (.slice none 0 0)
  have hB0 : Below w.heap.size w (w.alloc (.cells #[.slice none 0 0] 22)) := (Below.refl _ w).alloc (Nat.le_refl _) _
  refine callsIn_of_wp_marks Tryz.func45 rfl trivial ?_ rfl
  simp only [Tryz.ntmps45, List.size_toArray, List.length_cons, List.length_nil, Nat.reduceAdd, Nat.reduceSub, Array.replicate_succ, Array.replicate_zero, List.push_toArray, List.append_toArray, List.nil_append, List.cons_append]
  gi_wp2
  gi_loopw [5, 11] (fun s5 s11 wr => ∃ (i q : Nat), s11 = .int .i64 i ∧ i ≤ n ∧ q ≤ 1000000 ∧ Hid ((flatT ((lnTold b ps).take i)).length = q) ∧ Hid (wr.ownsRow (w.heap.size + 1) 5 1 s5 q ((flatT ((lnTold b ps).take i)).map bv)) ∧ Below (w.heap.size + 1) (w.alloc (.cells #[.slice none 0 0] 22)) wr) (fun _ s11 _ => n - (intOf s11).toNat)
  case atStart => exact ⟨0, 0, rfl, by omega, by omega, Lib.hid rfl, Lib.hid (World.ownsRow_nil _ _ _ _), Below.refl _ _⟩
  case round =>
    rename_i s5
    obtain ⟨i, q, rfl, hi, hq, HQ, HO, hB⟩ := hrel
    have hsr : w.heap.size + 1 ≤ wr.heap.size := by have := hB.size; simpa using this
    have hBw : Below w.heap.size w wr := hB0.trans (hB.mono (by omega))
    obtain ⟨Ao, co, hov, _, _, _, _⟩ := own_form HO.out
    subst hov
    by_cases hlt : i < n
    · obtain ⟨p, hp⟩ : ∃ p, ps[i]? = some p := ⟨_, List.getElem?_eq_getElem (by rw [HN.out]; exact hlt)⟩
      have hpo := HOK.out p (List.mem_of_getElem? hp)
      obtain ⟨b0, o0, _, hAe, _, _⟩ := hA.one (k := 0) (by omega)
      subst hAe
      obtain ⟨bl, ol, x, rfl, hx, hcx⟩ := (hL.below hBw).one (k := i) (by rw [List.length_map, HN.out]; exact hlt)
      have hx2 := hx.out
      rw [List.getElem?_map, hp] at hx2
      have hx3 : lnV (some ⟨b0, o0, none⟩) p = x := Option.some.inj hx2
      obtain ⟨l, hl⟩ : ∃ l, sg b p.1 p.2 = l := ⟨_, rfl⟩
      obtain ⟨m, hm⟩ : ∃ m, p.2 - p.1 = m := ⟨_, rfl⟩
      have hlm : l.length = m := by rw [← hl, sg_len hpo.2, hm]
      have hx4 : x = .slice (some ⟨b0, o0 + p.1, none⟩) m m := by rw [← hx3, ← hm]; rfl
      subst hx4
      have HRL : Hid (∀ W, Below w.heap.size w W → Rb W (some ⟨b0, o0 + p.1, none⟩) l) := Lib.hid (fun W hW => by rw [← hl]; exact rb_sg (hA.below hW) p.1 p.2)
      obtain ⟨of, hof⟩ : ∃ of, o0 + p.1 = of := ⟨_, rfl⟩
      rw [hof] at hcx HRL
      have hl1 : (lnTold b ps)[i]? = some l := by rw [lnTold, List.getElem?_map, hp, ← hl]; rfl
      have HTK : Hid ((lnTold b ps).take (i + 1) = (lnTold b ps).take i ++ [l]) := Lib.hid (take_succ_of hl1)
      obtain ⟨tn, htn⟩ : ∃ tn, (textL l).length = tn := ⟨_, rfl⟩
      have HTN := Lib.hid htn
      have HM := Lib.hid hlm
      have htl : tn ≤ m := by rw [← htn, ← hlm]; exact textL_len l
      have hqt : q + tn ≤ 1000000 := by
        have h1 := flat_text_le (lnTold b ps) (i + 1)
        rw [HTK.out, flatT_snoc, List.length_append, HQ.out, HTN.out] at h1
        exact Nat.le_trans h1 HALL.out
      have hm6 : m ≤ 1000000 := by omega
      have htx : ∀ W, Below w.heap.size w W → Calls Tryz.prog 31 #[.slice (some ⟨b0, of, none⟩) m m] W fun e w' => e = .returned (.slice (some ⟨b0, of, none⟩) tn m) ∧ Below W.heap.size W w' := fun W hW => by
        have h := text_any (some ⟨b0, of, none⟩) l m m W HM.out (HRL.out W hW) (Nat.le_refl _) (by omega)
        rw [HTN.out] at h
        exact h
      clear hx hx2 hx3 hl hm hlm hl1 hpo hof hp htn
      gi_wp2
      refine ⟨trivial, fun h => by simp [Fence.wide] at h, ?_⟩
      refine (callsIn_wide.2 (htx _ hBw)).mono ?_
      rintro e w2 ⟨rfl, hb2⟩
      have hB2 := hB.trans (hb2.mono hsr)
      have hBw2 := hBw.trans (hb2.mono hBw.size)
      have hO2 := own_below HO.out hb2
      have hsr2 : w.heap.size + 1 ≤ w2.heap.size := Nat.le_trans hsr hb2.size
      have hsrc : Src Tryz.prog 1 22 (.slice (some ⟨b0, of, none⟩) tn m) tn ((textL l).map bv) w2 := Src_rb Tryz.underlying22 HTN.out (by have h := HRL.out _ hBw2; rw [textL_take]; exact h.take _)
      gi_wp2_with (gi_at_builtin; refine wpListIn_app rfl _ _ _ _ rfl TU8 hO2 rfl hsrc rfl (by omega) hsr2 ?_; intro v3 w3 hown3 hgr3 hat3; have hB3 := below_app hB2 hO2 hgr3 hsr2 (Nat.le_refl _))
      go_roundw
      case rel => exact ⟨i + 1, q + tn, by go_num, by omega, hqt, Lib.hid (by rw [HTK.out, flatT_snoc, List.length_append, HQ.out, HTN.out]), Lib.hid (by rw [HTK.out, flatT_snoc, List.map_append]; exact hown3), hB3⟩
      case measure => simp [intOf]; omega
    · obtain rfl : i = n := by omega
      have hfull : (lnTold b ps).take i = lnTold b ps := List.take_of_length_le (by rw [lnTold, List.length_map, HN.out]; exact Nat.le_refl _)
      have HQ2 := HQ.out
      have HO2 := HO.out
      rw [hfull, HALQ.out] at HQ2 HO2
      clear hfull HQ HO
      obtain ⟨_, _, e9, h1c, h2c, hR, _⟩ := own_form HO2
      cases e9
      have HQ := Lib.hid HQ2
      clear HQ2
      gi_wp2
      refine ⟨trivial, fun h => by simp [Fence.wide] at h, ?_⟩
      refine (chunk_in (f - 1) _ _ _ k hk1 _).mono ?_
      rintro e w' ⟨rfl, rfl⟩
      gi_wp2
      have hsz : w.heap.size + 1 ≤ wr.heap.size := hsr
      have hbl : Boxed wr w.heap.size 22 (.slice none 0 0) := (hB.block _ (by omega)).trans bO0
      obtain ⟨bb, hbb, hbn, hblt⟩ : ∃ bb, (0 < q → Ao = some ⟨bb, 0, none⟩) ∧ bb ≠ w.heap.size ∧ bb < wr.heap.size + 2 := by
        rcases HO2.2 with ⟨hv, hx⟩ | ⟨g, cap, cur, hv, hbg, hg, _⟩
        · exact ⟨wr.heap.size + 1, fun h => by omega, by omega, by omega⟩
        · injection hv with h1 h2 h3
          exact ⟨g, fun _ => h1, by omega, by have := (Array.getElem?_eq_some_iff.1 hg).1; omega⟩
      have hRb : Rb wr (some ⟨bb, 0, none⟩) all := fun hp => by
        have h1 := hbb (by simp at hp; have := HQ.out; omega)
        exact (h1 ▸ hR) hp
      have bS := Boxed.new wr 22 (.slice Ao q co)
      have bK := Boxed.new (wr.alloc (.cells #[.slice Ao q co] 22)) 3 (.int .i64 k)
      rw [World.size_alloc] at bK
      obtain ⟨W0, hW0⟩ : ∃ W0, (wr.alloc (.cells #[.slice Ao q co] 22)).alloc (.cells #[.int .i64 k] 3) = W0 := ⟨_, rfl⟩
      have hB10 : Below wr.heap.size wr W0 := by
        rw [← hW0]
        exact ((Below.refl _ wr).alloc (Nat.le_refl _) _).alloc (by simp) _
      have hBW0 : Below w.heap.size w W0 := hBw.trans (hB10.mono hBw.size)
      have hsz0 : W0.heap.size = wr.heap.size + 2 := by rw [← hW0]; simp
      have hr0 : Rb W0 (some ⟨bb, 0, none⟩) all := hRb.below hB10
      have hI0 : (∃ v, Boxed W0 w.heap.size 22 v ∧ W0.ownsRow W0.heap.size 5 1 v (wrF all k q []).length ((wrF all k q []).map bv)) ∧ Boxed W0 wr.heap.size 22 (.slice Ao q co) ∧ Boxed W0 (wr.heap.size + 1) 3 (.int .i64 k) := by
        refine ⟨⟨_, box_below hbl hB10, World.ownsRow_nil _ _ _ _⟩, ?_, ?_⟩
        · rw [← hW0]; exact bS.alloc _
        · rw [← hW0]; exact bK
      have hcb : q ≤ co := h1c
      rw [hW0]
      refine wpIn_rangeFunc_ownG (α := Cj k q) rfl (by omega) (gf := 96) (lb := #[.pointer (some ⟨wr.heap.size, 0, none⟩), .pointer (some ⟨wr.heap.size + 1, 0, none⟩)]) rfl trivial (enters_of Tryz.func96 (by kernel_rfl) rfl)
        (chunk_stops (f - 1) wr.heap.size bb 0 q co k Ao hbb hk1 (by omega) hcb (by omega) W0 (by omega) hI0.2.1.cell hI0.2.2.cell) (fun h k => h.trans k) (fun W l o o' hl h _ _ => Kept.putObj W (.inr (by omega)) _) (Below.refl _ _) (fun _ => rfl)
        (fun pre W => ((∃ v, Boxed W w.heap.size 22 v ∧ W.ownsRow W0.heap.size 5 1 v (wrF all k q pre).length ((wrF all k q pre).map bv)) ∧ Boxed W wr.heap.size 22 (.slice Ao q co) ∧ Boxed W (wr.heap.size + 1) 3 (.int .i64 k)) ∧ Rb W (some ⟨bb, 0, none⟩) all ∧ Below w.heap.size w W ∧ W0.heap.size ≤ W.heap.size)
        (fun _ _ _ => False)
        ?own
        (fun _ _ _ _ _ hs _ _ => hs)
        ⟨hI0, hr0, hBW0, Nat.le_refl _⟩
        (fun x => { tmps := #[.slice Al i cl, .int .i64 k, undef, undef, .pointer (some ⟨w.heap.size, 0, none⟩), .slice Ao q co, undef, u7, chv bb 0 k q x.1, .slice Al i cl, .int .i64 i, .int .i64 i, .bool false, u13, u14, u15, u16, u17, u18, u19, .slice Ao q co, .int .i64 k, .func (.func 96) #[] #[.pointer (some ⟨wr.heap.size, 0, none⟩), .pointer (some ⟨wr.heap.size + 1, 0, none⟩)], chv bb 0 k q x.1, undef, undef, undef, undef, undef], defers := [] }) ?assign ?body ?done ?stop
      case own =>
        refine OwnFrom.and (OwnFrom.and (fun s W W' row hs hg hr => ?_) (OwnFrom.and (Own.from (boxed_own _ _ _) _) (Own.from (boxed_own _ _ _) _))) (OwnFrom.and (fun s W W' row hs hg hr => ?_) (OwnFrom.and (ownFrom_below (Nat.le_refl _) (by omega)) (fun s W W' row hs hg hr => Nat.le_trans hs hg.size)))
        · obtain ⟨v, h1, h2⟩ := hs
          obtain ⟨v', a, b, _⟩ := (Own.from (holdsRow_own W0.heap.size w.heap.size 22 5 1 (fun pre => (wrF all k q pre).length) (fun pre => (wrF all k q pre).map bv) (fun _ _ => True)) _) s W W' row ⟨v, h1, h2, trivial⟩ hg hr
          exact ⟨v', a, b⟩
        · exact Rb_own hs hg (fun r e => (hr r e).2)
      case assign =>
        intro l x W K hK
        gi_wp2
        exact hK
      case body =>
        rintro l pre x W ⟨⟨⟨v, hv, hrow⟩, hbS, hbK⟩, hres, hBB, hWs⟩ hlt
        clear hW0 bO0 bS bK hr0 hI0 hBW0
        obtain ⟨j, hj⟩ := x
        obtain ⟨hyl, hyr⟩ := hres.chw HQ.out (fun _ => rfl) hj
        simp only [chv]
        have hpre : wrF all k q (pre ++ [⟨j, hj⟩]) = wrF all k q pre ++ chw all k j ++ [13, 10] := by simp [wrF]
        have HP := Lib.hid hpre
        clear hpre
        have hplen : (wrF all k q pre).length ≤ 1002 * 1000000 := by
          have h1 := wrF_length all k q pre
          have h2 : (k + 2) * pre.length ≤ 1002 * pre.length := Nat.mul_le_mul_right _ (by omega)
          have h3 : 1002 * pre.length ≤ 1002 * 1000000 := Nat.mul_le_mul_left _ (by omega)
          omega
        have hm1 : min k (q - j * k) ≤ 1000 := by omega
        generalize chw all k j = ys at *
        generalize min k (q - j * k) = m at *
        generalize 0 + j * k = p at *
        generalize wrF all k q pre = pr at *
        have HY := Lib.hid hyl
        clear hyl
        have hc := hv.cell
        gi_wp2_with (first
          | (gi_at_builtin; refine wpListIn_app rfl (.tmp 24) (.tmp 25) _ _ rfl TU8 hrow rfl (Src_rb Tryz.underlying22 HY.out hyr) rfl (by omega) hWs ?_; intro v2 w2 hown2 hgr2 hat2; have hb2 := below_app (Below.refl W0.heap.size W) hrow hgr2 hWs (Nat.le_refl _); have hs2 := hb2.size)
          | (gi_at_builtin; refine wpListIn_app rfl (.tmp 26) _ _ _ rfl TU8 hown2 rfl (Src_str Tryz.underlying9 [13, 10]) rfl (by simp only [List.length_cons, List.length_nil]; omega) (by omega) ?_; intro v3 w3 hown3 hgr3 hat3; have hb3 := below_app hb2 hown2 hgr3 (by omega) (Nat.le_refl _); have hs3 := hb3.size; have hown4 : w3.ownsRow W0.heap.size 5 1 v3 (pr.length + m + [13, 10].length) ((pr ++ ys ++ [13, 10]).map bv) := (by rw [List.map_append, List.map_append]; exact hown3); obtain ⟨A3, c3, rfl, _, _, _, hl3⟩ := own_slice hown4; have hv3 : Boxed w3 w.heap.size 22 v := (hb3.block _ (by omega)).trans hv; have hc3 := hv3.cell; have hf3 := hv3.frozen))
        have hB4 : Below w.heap.size W (w3.setCell ⟨w.heap.size, 0, none⟩ (.slice A3 (pr.length + m + [13, 10].length) c3)) := (hb3.mono (B' := w.heap.size) (by omega)).setCell (p := ⟨w.heap.size, 0, none⟩) (by simp) _
        have hbS3 : Boxed w3 wr.heap.size 22 (.slice Ao q co) := (hb3.block _ (by omega)).trans hbS
        have hbK3 : Boxed w3 (wr.heap.size + 1) 3 (.int .i64 k) := (hb3.block _ (by omega)).trans hbK
        refine ⟨?_, ?_, ⟨⟨_, hv3.set _, ?_⟩, hbS3.other (by omega) _, hbK3.other (by omega) _⟩, Rb.setFar (Rb_lower hb3 (by omega) hres) (by simp; omega) _, hBB.trans hB4, by simp; omega⟩
        · exact ((keepsH hrow hgr2).trans ((keepsH hown2 hgr3).trans (KeepsOthers.setCell _ _ _))).from _
        · exact fun t h1 h2 => by
            rcases (by omega : t = wr.heap.size ∨ t = wr.heap.size + 1) with rfl | rfl
            · exact (show _ = _ from hbS3.other (by omega) _).trans (show _ = _ from hbS).symm
            · exact (show _ = _ from hbK3.other (by omega) _).trans (show _ = _ from hbK).symm
        · rw [HP.out, hl3]
          exact ownsRow_setCell_below hown4 (by simp; omega) _
      case done =>
        rintro D ys W hD ⟨m, hm1, hm2⟩ ⟨⟨⟨v, hv, hrow⟩, _, _⟩, _, hBB, hWs⟩ hK
        have hjj : ∀ j, j < m → j * k < q := fun j hj => by
          have hin : j ∈ ys.map Subtype.val := by rw [hm1]; simpa using hj
          obtain ⟨⟨j', hj'⟩, _, e⟩ := List.mem_map.1 hin
          simp only at e
          subst e
          exact hj'
        have hmn : m ≤ q := by
          rcases m with _ | m
          · omega
          · have := hjj m (Nat.lt_succ_self m)
            have := Nat.le_mul_of_pos_right m hk1
            omega
        have HM2 := Lib.hid hjj
        rw [wrF_all hm1] at hrow
        obtain ⟨res, hres⟩ : ∃ r, wrapL k m all = r := ⟨_, rfl⟩
        have HRS := Lib.hid hres
        rw [hres] at hrow
        clear hres
        obtain ⟨Av, cv, rfl, _, _, hvr, hll⟩ := own_slice hrow
        have hc := hv.cell
        have hf := hv.frozen
        clear hm2 hm1 hjj
        have hv2 := hv.set (.slice Av res.length cv)
        have hrow2 := ownsRow_setCell_below hrow (a := ⟨w.heap.size, 0, none⟩) (by simp; omega) (.slice Av res.length cv)
        have hK2 := (KeepsOthers.setCell W ⟨w.heap.size, 0, none⟩ (.slice Av res.length cv)).same D _ hK rfl
        gi_wp2
        refine ⟨by simp, .inl ⟨_, _, rfl, run_takeDeferred hK2, ?_⟩⟩
        have hc5 := cell_kept hv2.cell (grownBy_putObj' _ D (.deferred none)) (fun r e => by cases e; exact ⟨_, hK2, rfl⟩)
        refine ⟨.slice Av res.length cv, ?_, ⟨_, rfl, m, by rw [HQ.out]; exact hmn, by rw [HQ.out]; exact HM2.out, ?_⟩, ?_⟩
        · simp [results, Tryz.f45, go_sem, hc5]
        · rw [HRS.out]
          exact own_base (ownsRow_putObj hrow2 _ hK2 rfl) (by omega)
        · exact (hBB.setCell (p := ⟨w.heap.size, 0, none⟩) (by simp) _).trans (belowK_b (w := W0) (by omega) _ D _ _ hD hK2 rfl rfl)
      case stop =>
        rintro D c pre W _ _ h _
        exact h.elim
end Go.Proofs.YtcagkoakbdbbaaaGreatDoor
