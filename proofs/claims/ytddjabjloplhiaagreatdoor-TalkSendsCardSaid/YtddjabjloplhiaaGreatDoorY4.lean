/- The talk's Post: to. -/
import Derived.Test.YtddjabjloplhiaaGreatDoorY3
namespace Go.Proofs.YtddjabjloplhiaaGreatDoor
set_option linter.unusedVariables false
set_option linter.unusedSimpArgs false
open Go.RowKit

theorem infoStr4 : (Tryz.prog.info? 9).map (fun i => (i.zero, i.size, i.bytes)) = some (some (.string ⟨#[]⟩), 1, 16) := by kernel_rfl
theorem TStr4 : ElT Tryz.prog 30 9 1 16 := ElT.mk' (z := .string ⟨#[]⟩) Tryz.underlying30 (by omega) (by omega) rfl infoStr4

theorem ownM_eq {w : World} {base e size : Nat} {v : Value} {n m : Nat} {xs ys : List Value} (h : OwnM w base e size v n xs) (hm : n = m) (hx : xs = ys) : OwnM w base e size v m ys := by
  subst hm
  subst hx
  exact h
/-- what to hands back -/
def ToOut (p base : Nat) (s : List UInt8) (st : Nat) (lv a2 tv mv kv : Value) (tos : List (List UInt8)) (w : World) (e : Ending) (w' : World) : Prop :=
  (adrOk s = false ∧ e = .returned (.string (bs [53, 48, 49, 32, 102, 111, 114, 109])) ∧ Row w' p 52 [.int .i64 st, lv, a2, tv, mv, kv] ∧ OwnM w' base 9 1 tv tos.length (tos.map sv)) ∨
  (adrOk s = true ∧ st ≠ 2 ∧ st ≠ 3 ∧ e = .returned (.string (bs [53, 48, 51, 32, 111, 114, 100, 101, 114])) ∧ Row w' p 52 [.int .i64 st, lv, a2, tv, mv, kv] ∧ OwnM w' base 9 1 tv tos.length (tos.map sv)) ∨
  (adrOk s = true ∧ (st = 2 ∨ st = 3) ∧ tos.length = 10 ∧ e = .returned (.string (bs [52, 53, 50, 32, 109, 97, 110, 121])) ∧ Row w' p 52 [.int .i64 st, lv, a2, tv, mv, kv] ∧ OwnM w' base 9 1 tv tos.length (tos.map sv)) ∨
  (adrOk s = true ∧ (st = 2 ∨ st = 3) ∧ tos.length ≠ 10 ∧ e = .returned (.string (bs [50, 53, 48, 32, 111, 107])) ∧ ∃ tv', Row w' p 52 [.int .i64 3, lv, a2, tv', mv, kv] ∧ OwnM w' base 9 1 tv' (tos ++ [adr s]).length ((tos ++ [adr s]).map sv) ∧
    (tv'.ownBlock = tv.ownBlock ∨ ∃ k, tv'.ownBlock = some k ∧ w.heap.size ≤ k))

set_option maxRecDepth 100000 in
set_option maxHeartbeats 2000000 in
theorem to_any (p base : Nat) (s : List UInt8) (st : Nat) (lv a2 tv mv kv : Value) (tos : List (List UInt8)) (w : World) (hw : Mx w) (hl : s.length ≤ 1000000) (h : Row w p 52 [.int .i64 st, lv, a2, tv, mv, kv])
    (hown : OwnM w base 9 1 tv tos.length (tos.map sv)) (hpb : tv.ownBlock ≠ some p) (hbase : base ≤ w.heap.size) (htl : tos.length ≤ 1000) :
    Calls Tryz.prog 40 #[.pointer (some ⟨p, 0, none⟩), .string (bs s)] w fun e w' => ToOut p base s st lv a2 tv mv kv tos w e w' ∧ Ext (fun k => k = p ∨ tv.ownBlock = some k) w w' := by
  have ha := address_any s w hw hl
  unfold ToOut
  obtain ⟨a, hae⟩ : ∃ a, adr s = a := ⟨_, rfl⟩
  rw [hae] at ha ⊢
  clear hae
  obtain ⟨n, hn⟩ : ∃ n, tos.length = n := ⟨_, rfl⟩
  have HN := Lib.hid hn
  rw [hn] at hown htl ⊢
  clear hn
  have HOW := Lib.hid hown
  obtain ⟨A, c, rfl, hnc, hcm, hR, _, _, _⟩ := hown.form
  have H := Lib.hid h
  clear h hR hown
  rcases Bool.eq_false_or_eq_true (adrOk s) with q | q
  rotate_left
  · rw [q] at ha ⊢
    go_enter Tryz.func40, Tryz.ntmps40
    go_wp2_with fail
    refine ha.mono ?_
    rintro e w1 ⟨rfl, hb1⟩
    clear ha
    go_wp2_with fail
    go_ret
    exact ⟨.inl ⟨by first | rfl | trivial, rfl, H.out.below hb1, HOW.out.below hb1⟩, Ext.of_below _ hb1⟩
  rw [q] at ha ⊢
  by_cases h2 : st ≠ 2 ∧ st ≠ 3
  · have e2 : ((st : Int) != 2) = true := by rw [bne_iff_ne]; omega
    have e3 : ((st : Int) != 3) = true := by rw [bne_iff_ne]; omega
    go_enter Tryz.func40, Tryz.ntmps40
    go_wp2_with fail
    refine ha.mono ?_
    rintro e w1 ⟨rfl, hb1⟩
    have c0 := (H.out.below hb1).cell (j := 0) rfl
    clear ha
    go_wp2_with fail
    go_ret
    exact ⟨.inr (.inl ⟨by first | rfl | trivial, h2.1, h2.2, rfl, H.out.below hb1, HOW.out.below hb1⟩), Ext.of_below _ hb1⟩
  have h23 : st = 2 ∨ st = 3 := by omega
  have H23 := Lib.hid h23
  have k : (((st : Int) != 2) = false) ∨ (((st : Int) != 2) = true ∧ ((st : Int) != 3) = false) := by
    rcases h23 with rfl | rfl
    · exact .inl rfl
    · exact .inr ⟨rfl, rfl⟩
  clear h2 h23
  by_cases h10 : n = 10
  · subst h10
    rcases k with k1 | ⟨k1, k2⟩
    all_goals
      go_enter Tryz.func40, Tryz.ntmps40
      go_wp2_with fail
      refine ha.mono ?_
      rintro e w1 ⟨rfl, hb1⟩
      have c0 := (H.out.below hb1).cell (j := 0) rfl
      have c3 := (H.out.below hb1).cell (j := 3) rfl
      clear ha
      go_wp2_with fail
      go_ret
      exact ⟨.inr (.inr (.inl ⟨by first | rfl | trivial, H23.out, by first | rfl | trivial, rfl, H.out.below hb1, HOW.out.below hb1⟩)), Ext.of_below _ hb1⟩
  · have e10 : ((n : Int) == 10) = false := by rw [beq_eq_false_iff_ne]; omega
    have H10 := Lib.hid h10
    clear h10
    have HPB := Lib.hid hpb
    clear hpb
    rcases k with k1 | ⟨k1, k2⟩
    all_goals
      go_enter Tryz.func40, Tryz.ntmps40
      go_wp2_with fail
      refine ha.mono ?_
      rintro e w1 ⟨rfl, hb1⟩
      have c0 := (H.out.below hb1).cell (j := 0) rfl
      have c3 := (H.out.below hb1).cell (j := 3) rfl
      have hownA := (HOW.out.below hb1).alloc (.cells #[sv a] 9)
      have hrA := (H.out.below hb1).alloc (.cells #[sv a] 9)
      have hsA : base ≤ (w1.alloc (.cells #[sv a] 9)).heap.size := by have := hb1.size; simp; omega
      have hxA : Ext (fun k => k = p ∨ (Value.slice A n c).ownBlock = some k) w (w1.alloc (.cells #[sv a] 9)) := (Ext.of_below _ hb1).alloc _
      clear ha
      go_wp2_with (at_builtin; refine wpList_appM rfl _ _ _ _ rfl TStr4 hownA rfl (Src_rv (news := [sv a]) Tryz.underlying30 rfl (Rv_new w1 _ _ _ rfl) (by simp [Value.oneCell', sv]) (by omega)) rfl (by omega) hsA ?_; intro v2 w2 hown2 hgr2 hat2; have hr2 := (Ext.of_grown (S := fun k => (Value.slice A n c).ownBlock = some k) hgr2 (fun k e => e)).row hrA HPB.out; have hx2 := hxA.trans (Ext.of_grown (S := fun k => (Value.slice A n c).ownBlock = some k) hgr2 (fun k e => e)) (fun b e => .inl (.inr e)); have d0 := hr2.cell (j := 0) rfl; have d3 := hr2.cell (j := 3) rfl; have f0 := hr2.frozen 0; have f3 := hr2.frozen 3; have HO2 := Lib.hid hown2; have HA2 := Lib.hid hat2; obtain ⟨A2, c2, rfl, _, _, _, _, _, _⟩ := hown2.form; have HR2 := Lib.hid hr2)
      go_ret
      have hvp : ∀ k, (Value.slice A2 (n + 1) c2).ownBlock = some k → ¬ k = p := fun k hk e => by
        rcases HA2.out with h | h
        · rw [hk, e] at h
          exact HPB.out h.symm
        · rw [hk] at h
          have h3 := hrA.lt
          have h4 := Option.some.inj h
          rw [World.size_alloc] at h3 h4
          omega
      refine ⟨.inr (.inr (.inr ⟨by first | rfl | trivial, H23.out, H10.out, rfl, _, (HR2.out.set 0 _).set 3 _, ?_, ?_⟩)), (hx2.set ⟨p, 0, none⟩ _ (.inl rfl)).set ⟨p, 3, none⟩ _ (.inl rfl)⟩
      · exact ownM_eq (Ext.own (((Ext.refl (fun k => k = p) w2).set ⟨p, 0, none⟩ _ rfl).set ⟨p, 3, none⟩ _ rfl) HO2.out hvp) (by rw [List.length_append, HN.out]; rfl) (by simp)
      · rcases HA2.out with h | h
        · exact .inl h
        · exact .inr ⟨_, h, by have := hb1.size; simp; omega⟩
end Go.Proofs.YtddjabjloplhiaaGreatDoor
