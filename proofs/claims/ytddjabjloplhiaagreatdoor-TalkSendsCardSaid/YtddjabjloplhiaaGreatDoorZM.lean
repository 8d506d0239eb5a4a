/- The talk's Post: Mails; the document's Same. -/
import Derived.Test.YtddjabjloplhiaaGreatDoorZ4
import Derived.Deep.RegionHeldLaw
namespace Go.Proofs.YtddjabjloplhiaaGreatDoor
set_option linter.unusedVariables false
set_option linter.unusedSimpArgs false
open Go.RowKit

theorem Ext.cell {S : Nat → Prop} {w w' : World} (h : Ext S w w') {p : Addr} {v : Value} (hs : ¬ S p.block) (hv : w.cell? p = some v) (hp : p.block < w.heap.size) : w'.cell? p = some v := (World.cell?_of_block (w := w) (h.block _ hp hs)).trans hv
theorem cell_alz {w : World} (o : Obj) {p : Addr} {v : Value} (h : w.cell? p = some v) : (w.alloc o).cell? p = some v := by
  obtain ⟨b, f, sp⟩ := p
  have hs : sp = none := Addr_spot h
  subst hs
  exact (((Below.refl _ w).alloc (Nat.le_refl _) o).cell (p := ⟨b, f, none⟩) (cell_lt h)).trans h
theorem sv_one (l : List (List UInt8)) : ∀ u ∈ l.map sv, u.oneCell' = true := by
  intro u hu
  obtain ⟨b, _, rfl⟩ := List.mem_map.1 hu
  rfl
theorem clones_any (A : Option Addr) (l : List (List UInt8)) (n c : Nat) (w : World) (hn : l.length = n) (hA : Rv w A (l.map sv)) (hnc : n ≤ c) (hpl : Pl A c) (hb : n ≤ 10000000) :
    Calls Tryz.prog 25 #[.slice A n c] w fun e w' => (∃ v, e = .returned v ∧ w'.ownsRow w.heap.size 9 1 v n (l.map sv)) ∧ Below w.heap.size w w' := by
  subst hn
  rcases hpl with ⟨rfl, rfl⟩ | ⟨b, o, rfl⟩
  · have h0 : l = [] := List.eq_nil_of_length_eq_zero (by omega)
    subst h0
    refine (AnyE.slices_Clone_nil Tryz.cloneS 0 0 w).mono ?_
    rintro e w' ⟨rfl, rfl⟩
    exact ⟨⟨_, rfl, World.ownsRow_nil _ _ _ _⟩, Below.refl _ _⟩
  · obtain ⟨i0, h1, h2, h3, h4⟩ := info_parts infoStr4
    refine (AnyE.slices_Clone Tryz.cloneS i0 (.string ⟨#[]⟩) 1 16 h1 h2 h3 h4 rfl (by omega) Tryz.sizeOf9 b o l.length c (l.map sv) w (by simp) (by unfold maxLen; omega) (by omega) (fun j u hj => ?_) (sv_one l)).mono ?_
    · obtain ⟨b', o', e, hc⟩ := hA (by have := lt_of_get hj; omega)
      cases e
      exact hc j u hj
    · rintro e w' ⟨v, rfl, hv, _, hb⟩
      exact ⟨⟨v, rfl, hv⟩, hb⟩

theorem pcs_at : ∀ {ts : List Tm} {k : Nat} {t : Tm}, ts[k]? = some t → (pcs ts)[k * 3]? = some (.string (bs t.1.frm)) ∧ (pcs ts)[k * 3 + 1]? = some t.2.1 ∧ (pcs ts)[k * 3 + 2]? = some t.2.2
  | [], _, _, h => by simp at h
  | t :: l, 0, u, h => by
    simp at h
    subst h
    simp [pcs]
  | t :: l, k + 1, u, h => by
    simp only [List.getElem?_cons_succ] at h
    have ih := pcs_at h
    have e : pcs (t :: l) = [.string (bs t.1.frm), t.2.1, t.2.2] ++ pcs l := by simp [pcs]
    rw [e]
    refine ⟨?_, ?_, ?_⟩
    · rw [List.getElem?_append_right (by simp; omega)]
      simp only [List.length_cons, List.length_nil]
      rw [show (k + 1) * 3 - (0 + 1 + 1 + 1) = k * 3 by omega]
      exact ih.1
    · rw [List.getElem?_append_right (by simp; omega)]
      simp only [List.length_cons, List.length_nil]
      rw [show (k + 1) * 3 + 1 - (0 + 1 + 1 + 1) = k * 3 + 1 by omega]
      exact ih.2.1
    · rw [List.getElem?_append_right (by simp; omega)]
      simp only [List.length_cons, List.length_nil]
      rw [show (k + 1) * 3 + 2 - (0 + 1 + 1 + 1) = k * 3 + 2 by omega]
      exact ih.2.2
/-- mails that can be read -/
def MsAt (w : World) (A : Option Addr) (ts : List Tm) : Prop := Rv w A (pcs ts) ∧ ∀ t ∈ ts, ∃ At ct Ab cb, t.2.1 = .slice At t.1.tos.length ct ∧ Rv w At (t.1.tos.map sv) ∧ t.1.tos.length ≤ ct ∧ Pl At ct ∧ t.2.2 = .slice Ab t.1.body.length cb ∧ Rb w Ab t.1.body ∧ t.1.body.length ≤ cb ∧ Pl Ab cb
theorem pl_of {A : Option Addr} {c : Nat} (h0 : A = none → c = 0) (h : A = none ∨ ∃ b, A = some ⟨b, 0, none⟩) : Pl A c := by
  rcases h with h | ⟨b, h⟩
  · exact .inl ⟨h, h0 h⟩
  · exact .inr ⟨b, 0, h⟩
theorem msAt_of {w : World} {base n c : Nat} {A : Option Addr} {ts : List Tm} {vs : List Value} (h : OwnM w base 38 3 (.slice A n c) n (pcs ts)) (ht : TsOk w base vs ts) : MsAt w A ts := by
  obtain ⟨A', c', e, _, _, hR, _⟩ := h.form
  cases e
  refine ⟨hR, fun t htm => ?_⟩
  obtain ⟨h1, h2, _⟩ := ht t htm
  obtain ⟨At, ct, e1, l1, _, r1, _, z1, y1⟩ := h1.form
  obtain ⟨Ab, cb, e2, l2, _, r2, _, z2, y2⟩ := h2.form
  exact ⟨At, ct, Ab, cb, e1, r1, l1, pl_of z1 y1, e2, r2, l2, pl_of z2 y2⟩
theorem MsAt.below {w w' : World} {A : Option Addr} {ts : List Tm} (h : MsAt w A ts) (hb : Below w.heap.size w w') : MsAt w' A ts := by
  refine ⟨h.1.below hb, fun t ht => ?_⟩
  obtain ⟨At, ct, Ab, cb, e1, r1, l1, p1, e2, r2, l2, p2⟩ := h.2 t ht
  exact ⟨At, ct, Ab, cb, e1, r1.below hb, l1, p1, e2, r2.below hb, l2, p2⟩
/-- one mail of them -/
theorem MsAt.one {w : World} {A : Option Addr} {ts : List Tm} (h : MsAt w A ts) {q : Nat} (hq : q < ts.length) : ∃ b o frm tos body At ct Ab cb, A = some ⟨b, o, none⟩ ∧ Hid ((ts.map (·.1))[q]? = some ⟨frm, tos, body⟩) ∧ w.cell? ⟨b, o + q * 3, none⟩ = some (.string (bs frm)) ∧
    w.cell? ⟨b, o + q * 3 + 1, none⟩ = some (.slice At tos.length ct) ∧ w.cell? ⟨b, o + q * 3 + 2, none⟩ = some (.slice Ab body.length cb) ∧ Rv w At (tos.map sv) ∧ tos.length ≤ ct ∧ Pl At ct ∧ Rb w Ab body ∧ body.length ≤ cb ∧ Pl Ab cb := by
  have ht : ts[q]? = some ts[q] := List.getElem?_eq_getElem hq
  obtain ⟨b, o, e, hc⟩ := h.1 (by rw [pcs_len]; omega)
  obtain ⟨h1, h2, h3⟩ := pcs_at ht
  obtain ⟨At, ct, Ab, cb, e1, r1, l1, p1, e2, r2, l2, p2⟩ := h.2 _ (List.getElem_mem hq)
  rw [e1] at h2
  rw [e2] at h3
  have k1 := hc _ _ h1
  have k2 := hc _ _ h2
  have k3 := hc _ _ h3
  rw [← Nat.add_assoc] at k2 k3
  exact ⟨b, o, _, _, _, At, ct, Ab, cb, e, Lib.hid (by rw [List.getElem?_map, ht]; rfl), k1, k2, k3, r1, l1, p1, r2, l2, p2⟩

/-- what Mails hands back -/
def MailsOut (ts : List Tm) (w : World) (e : Ending) (w' : World) : Prop := ∃ A c us, e = .returned (.slice A ts.length c) ∧ MsAt w' A us ∧ us.map (·.1) = ts.map (·.1)

set_option maxRecDepth 100000 in
set_option maxHeartbeats 8000000 in
theorem mails_any (p base : Nat) (s : Ps) (left : List UInt8) (ts : List Tm) (xv : Value) (xo : List UInt8) (w : World) (h : PostM w base p s left ts xv xo) (htl : ts.length ≤ 1000000) (hsz : ∀ t ∈ ts, t.1.tos.length ≤ 1000 ∧ t.1.body.length ≤ 1000000) :
    Calls Tryz.prog 10 #[.pointer (some ⟨p, 0, none⟩)] w fun e w' => MailsOut ts w e w' ∧ Below w.heap.size w w' := by
  obtain ⟨lv, tv, kv, hPG⟩ := h
  have c5 := hPG.row.cell (j := 5) rfl
  obtain ⟨A, c, rfl, hnc, _, _, _, _, _⟩ := hPG.ko.form
  have hms := msAt_of hPG.ko hPG.tso
  have HMS := Lib.hid hms
  have HSZ := Lib.hid hsz
  clear hPG hms hsz
  go_enter Tryz.func10, Tryz.ntmps10
  go_wp2_with fail
  go_loopw [2, 4, 10] (fun v _ i wr => ∃ (q : Nat) (us : List Tm), i = .int .i64 q ∧ q ≤ ts.length ∧ Hid (us.map (·.1) = (ts.map (·.1)).take q) ∧ us.length = q ∧ Hid (OwnM wr w.heap.size 38 3 v q (pcs us) ∧ TsOk wr w.heap.size [v] us) ∧ Below w.heap.size w wr) (fun _ _ i _ => ts.length - (intOf i).toNat)
  case atStart => exact ⟨0, [], rfl, by omega, Lib.hid rfl, rfl, Lib.hid ⟨OwnM.nil _ _ _ _, fun t ht => by simp at ht⟩, Below.refl _ _⟩
  case round =>
    obtain ⟨q, us, rfl, hq, hus, hul, hown, hB⟩ := hrel
    have HUL := Lib.hid hul
    clear hul
    have hs := hB.size
    obtain ⟨ho, htk⟩ := hown.out
    obtain ⟨Av, cv, rfl, _, _, _, _, _, _⟩ := ho.form
    clear ho htk
    by_cases hlt : q < ts.length
    · obtain ⟨b, o, frm, tos, body, At, ct, Ab, cb, rfl, ht, k1, k2, k3, r1, l1, p1, r2, l2, p2⟩ := (HMS.out.below hB).one hlt
      have hsm : tos.length ≤ 1000 ∧ body.length ≤ 1000000 := by
        have h1 := ht.out
        rw [List.getElem?_map, Option.map_eq_some_iff] at h1
        obtain ⟨t, h2, h3⟩ := h1
        have := HSZ.out t (List.mem_of_getElem? h2)
        rw [h3] at this
        exact this
      obtain ⟨hsm1, hsm2⟩ := hsm
      have hrow := Row.new wr #[.string (bs frm), .slice At tos.length ct, .slice Ab body.length cb] 38
      have hBox : Below w.heap.size w (wr.alloc (.cells #[.string (bs frm), .slice At tos.length ct, .slice Ab body.length cb] 38)) := hB.alloc hs _
      have hBox2 : Below wr.heap.size wr (wr.alloc (.cells #[.string (bs frm), .slice At tos.length ct, .slice Ab body.length cb] 38)) := (Below.refl _ _).alloc (Nat.le_refl _) _
      have hX0 : Below wr.heap.size wr (wr.alloc (.cells #[.string (bs frm), .slice At tos.length ct, .slice Ab body.length cb] 38)).drew := hBox2.drew
      have hown1 := hown.out.1
      have HUS := Lib.hid hus.out
      have HT := Lib.hid ht.out
      have hqs : (q + 1) * 64 ≤ 140737488355328 := by omega
      clear hus ht hBox hBox2
      go_wp2_with fail
      clear k1 k2 k3
      obtain ⟨g, hg⟩ : ∃ g, wr.heap.size = g := ⟨_, rfl⟩
      obtain ⟨W0, hW0⟩ : ∃ W0, (wr.alloc (.cells #[.string (bs frm), .slice At tos.length ct, .slice Ab body.length cb] 38)) = W0 := ⟨_, rfl⟩
      have hs0 : W0.heap.size = wr.heap.size + 1 := by rw [← hW0]; simp
      rw [hW0] at hrow hX0 ⊢
      clear hW0
      rw [hg] at hrow ⊢
      have HG := Lib.hid hg
      have c0 := hrow.cell (j := 0) rfl
      have c1 := hrow.cell (j := 1) rfl
      have c2 := hrow.cell (j := 2) rfl
      have hcl1 := fun W (hW : Below wr.heap.size wr W) => clones_any At tos tos.length ct W rfl (r1.below hW) l1 p1 (by omega)
      have hcl2 := fun W (hW : Below wr.heap.size wr W) => clone_any Ab body body.length cb W rfl (r2.below hW) l2 p2 (by omega)
      have hD0 : Below W0.heap.size W0 W0.drew := (Below.refl _ W0).drew
      have hgn : ¬ nb (.slice Av q cv) g := fun h => by have := (hown1.lt g h).2; omega
      clear hg hrow r1 r2
      go_region_held_law (fun w' => w'.cell? ⟨g, 0, none⟩ = some (.string (bs frm)) ∧ w'.cell? ⟨g, 1, none⟩ = some (.slice At tos.length ct) ∧ w'.cell? ⟨g, 2, none⟩ = some (.slice Ab body.length cb)) (first | exact ⟨by assumption, by assumption, by assumption⟩ | exact ⟨cell_alz _ (by assumption), cell_alz _ (by assumption), cell_alz _ (by assumption)⟩)
        (first
        | (go_at_call 25; (with_reducible refine (hcl1 _ hX0).mono ?_); rintro e w3 ⟨⟨v3, rfl, hv3⟩, hb3⟩; have hC3 := hD0.trans hb3; have hX3 := hX0.trans (hb3.mono (Nat.le_of_lt (by have := hX0.size; have := hD0.size; omega))); have c03 := (hC3.cell (p := ⟨g, 0, none⟩) (cell_lt c0)).trans c0; have c13 := (hC3.cell (p := ⟨g, 1, none⟩) (cell_lt c1)).trans c1; have c23 := (hC3.cell (p := ⟨g, 2, none⟩) (cell_lt c2)).trans c2)
        | (go_at_call 23; (with_reducible refine (hcl2 _ hX3).mono ?_); rintro e w4 ⟨⟨v4, rfl, hv4⟩, hb4⟩; have hC4 := hC3.trans (hb4.mono hC3.size); have hX4 := hX3.trans (hb4.mono hX3.size); have c04 := (hC4.cell (p := ⟨g, 0, none⟩) (cell_lt c0)).trans c0; have c14 := (hC4.cell (p := ⟨g, 1, none⟩) (cell_lt c1)).trans c1; have c24 := (hC4.cell (p := ⟨g, 2, none⟩) (cell_lt c2)).trans c2; obtain ⟨A3, c3, rfl, _, _, _, _⟩ := own_form hv3; obtain ⟨A4, c4, rfl, _, _, _, _⟩ := own_form hv4)
        | (have z1 := (hown1.below hX4).alloc (.cells #[.string (bs frm), .slice A3 tos.length c3, .slice A4 body.length c4] 38); have z2 : Src Tryz.prog 3 31 (.slice (some ⟨w4.heap.size, 0, none⟩) 1 1) 1 [.string (bs frm), .slice A3 tos.length c3, .slice A4 body.length c4] (w4.alloc (.cells #[.string (bs frm), .slice A3 tos.length c3, .slice A4 body.length c4] 38)) := (Src_rv (news := [.string (bs frm), .slice A3 tos.length c3, .slice A4 body.length c4]) Tryz.underlying31 rfl (Rv_new w4 _ _ _ rfl) (by simp [Value.oneCell']) (by omega)); have z3 : w.heap.size ≤ (w4.alloc (.cells #[.string (bs frm), .slice A3 tos.length c3, .slice A4 body.length c4] 38)).heap.size := (by have := hX4.size; simp; omega); refine step_appM rfl (.tmp 14) (.tmp 24) _ _ rfl TPo z1 (by first | rfl | simp [Act.eval, Act.put]) z2 (by first | rfl | simp [Act.eval, Act.put]) hqs z3 ?_; intro v6 w6 hown6 hgr6 hat6; have hE6 := Ext.of_grown (S := fun k => nb (.slice Av q cv) k) hgr6 (fun k e => e); have hg4 : g < (w4.alloc (.cells #[.string (bs frm), .slice A3 tos.length c3, .slice A4 body.length c4] 38)).heap.size := (by have := cell_lt c04; simp; omega); have c06 := hE6.cell (p := ⟨g, 0, none⟩) hgn (cell_alz _ c04) hg4; have c16 := hE6.cell (p := ⟨g, 1, none⟩) hgn (cell_alz _ c14) hg4; have c26 := hE6.cell (p := ⟨g, 2, none⟩) hgn (cell_alz _ c24) hg4))
      all_goals
        go_wp2_with fail
        go_roundw
        case rel =>
          have hs3 := hX3.size
          have hs4 := hX4.size
          have hxS : Ext (fun k => nb (.slice Av q cv) k) wr w6 := ((Ext.of_below _ hX4).alloc _).trans hE6 fun _ h => .inl h
          have hv6 : ∀ k, nb v6 k → nb (.slice Av q cv) k ∨ w4.heap.size + 1 ≤ k := fun k hk => by
            unfold nb at hk ⊢
            rcases hat6 with h | h
            · rw [h] at hk; exact .inl hk
            · rw [h] at hk
              have := Option.some.inj hk
              simp at this
              exact .inr (by omega)
          have hq1 : us.length = q := HUL.out
          have hlv : ∀ k, nb (.slice Av q cv) k → k < wr.heap.size := fun k hk => (hown1.lt k hk).2
          have hb46 : Ext (fun k => nb (.slice Av q cv) k) w4 w6 := ((Ext.refl _ w4).alloc _).trans hE6 fun _ h => .inl h
          have l3 := (OwnM.of hv3).lt
          have l4 := (OwnM.of hv4).lt
          have hsz3 := hb3.size
          have hsz4 := hb4.size
          have hd0s := hD0.size
          refine ⟨q + 1, us ++ [(⟨frm, tos, body⟩, .slice A3 tos.length c3, .slice A4 body.length c4)], by go_num, by omega, Lib.hid ?_, by simp; omega, Lib.hid ⟨?_, ?_⟩, (hxS.mono (T := fun k => w.heap.size ≤ k) fun k hk => (hown1.lt k hk).1).below hB hs fun _ h => h⟩
          · rw [List.map_append, HUS.out, take_succ_of HT.out]
            rfl
          · rw [pcs_app]
            exact hown6
          · intro x hxm
            rcases List.mem_append.1 hxm with hxm | hxm
            · exact hown.out.2.next hxS (fun k _ hk => ⟨_, List.mem_singleton.2 rfl, hk⟩) (fun k hk ⟨v, hvm, hvk⟩ => by
                rw [List.mem_singleton.1 hvm] at hvk
                rcases hv6 k hvk with h | h
                · exact ⟨_, List.mem_singleton.2 rfl, h⟩
                · omega) x hxm
            · rw [List.mem_singleton.1 hxm]
              refine ⟨(hb46.own ((OwnM.of hv3).below hb4) fun k hk h => ?_).rebase (by omega), (hb46.own (OwnM.of hv4) fun k hk h => ?_).rebase (by omega), fun k hk v hvm hvk => ?_⟩
              · have := hlv k h
                have := (l3 k hk).1
                omega
              · have := hlv k h
                have := (l4 k hk).1
                omega
              · rw [List.mem_singleton.1 hvm] at hvk
                rcases hv6 k hvk with h | h
                · have := hlv k h
                  rcases hk with hk | hk
                  · have := (l3 k hk).1
                    omega
                  · have := (l4 k hk).1
                    omega
                · rcases hk with hk | hk
                  · have := (l3 k hk).2
                    omega
                  · have := (l4 k hk).2
                    omega
        case measure => simp [intOf]; omega
    · obtain rfl : q = ts.length := by omega
      go_wp2_with fail
      go_ret
      refine ⟨⟨Av, cv, us, rfl, msAt_of hown.out.1 hown.out.2, ?_⟩, hB⟩
      rw [hus.out, List.take_of_length_le (by simp)]
end Go.Proofs.YtddjabjloplhiaaGreatDoor
