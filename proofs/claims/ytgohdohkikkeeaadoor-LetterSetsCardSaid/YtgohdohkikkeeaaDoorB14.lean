/- The statement LetterFields: the walk of the law. -/
import Derived.Test.YtgohdohkikkeeaaDoorV6
import Derived.Test.YtgohdohkikkeeaaDoorV7
import Derived.Test.YtgohdohkikkeeaaDoorAp0
import Derived.Deep.RegionHeldLaw
namespace Go.Proofs.YtgohdohkikkeeaaDoor
set_option linter.unusedVariables false
set_option linter.unusedSimpArgs false
open Go.RowKit

theorem bcell {W w1 : World} (hb : Below W.heap.size W w1) : (∀ b o, b < W.heap.size → w1.cell? ⟨b, o, none⟩ = W.cell? ⟨b, o, none⟩) ∧ (∀ b o, b < W.heap.size → w1.frozen? ⟨b, o, none⟩ = W.frozen? ⟨b, o, none⟩) :=
  ⟨fun b o h => hb.cell (p := ⟨b, o, none⟩) h, fun b o h => hb.frozen (p := ⟨b, o, none⟩) h⟩
theorem row_three2 (w : World) (o o' : Obj) (x y : Value) (e : TypeId) : Row (((w.alloc o).alloc o').alloc (.cells #[x, y] e)) (w.heap.size + 2) e [x, y] := by
  have := Row.new ((w.alloc o).alloc o') #[x, y] e
  simpa using this
theorem row_newsc (w : World) (p q : Addr) (u t x y : Value) (e : TypeId) : Row (((w.setCell p u).setCell q t).alloc (.cells #[x, y] e)) w.heap.size e [x, y] := by
  have := Row.new ((w.setCell p u).setCell q t) #[x, y] e
  simpa using this
theorem row_dr {w : World} {g : Nat} {e : TypeId} {cs : List Value} (h : Row w g e cs) : Row w.drew g e cs := h
theorem Rv_dr {w : World} {A : Option Addr} {xs : List Value} (h : Rv w A xs) : Rv w.drew A xs := h
theorem Rv_al {w : World} {A : Option Addr} {xs : List Value} (h : Rv w A xs) (o : Obj) : Rv (w.alloc o) A xs := h.below ((Below.refl _ w).alloc (Nat.le_refl _) o)
theorem Rv_far2 {w : World} {A : Option Addr} {xs : List Value} {g : Nat} {x y : Value} (h : Rv w A xs) (hne : 0 < xs.length → ∀ b o, A = some ⟨b, o, none⟩ → g ≠ b) : Rv ((w.setCell ⟨g, 0, none⟩ x).setCell ⟨g, 1, none⟩ y) A xs := by
  intro hp
  obtain ⟨b, o, rfl, _⟩ := h hp
  have h1 := Rv.setFar h (p := ⟨g, 0, none⟩) (hne hp b o rfl) x
  exact Rv.setFar h1 (p := ⟨g, 1, none⟩) (hne hp b o rfl) y hp
theorem own_where {w : World} {base e size n c b o : Nat} {xs : List Value} (h : w.ownsRow base e size (.slice (some ⟨b, o, none⟩) n c) n xs) : base ≤ b ∧ b < w.heap.size := by
  refine h.lt b ?_
  rcases h.2 with ⟨h1, _⟩ | ⟨g, cap, cur, h1, _⟩
  · cases h1
  · cases h1
    rfl
theorem bel_sc {w W : World} {p : Addr} (h : Below w.heap.size w W) (hp : w.heap.size ≤ p.block) (v : Value) : Below w.heap.size w (W.setCell p v) := h.setCell hp v
theorem bel_al {w W : World} (h : Below w.heap.size w W) (o : Obj) : Below w.heap.size w (W.alloc o) := h.alloc h.size o
set_option maxRecDepth 100000 in
set_option maxHeartbeats 4000000 in
theorem lfields_any (A A2 : Option Addr) (fs : List (List UInt8 × List UInt8)) (bd nm v : List UInt8) (n c n2 c2 : Nat) (w : World) (hn : fs.length = n) (hn2 : bd.length = n2) (hA : Rf w A fs) (hA2 : Rb w A2 bd) (hnc : n ≤ c) (hnc2 : n2 ≤ c2)
    (hs : ∀ p ∈ fs, p.1.length ≤ 9223372036854775807 ∧ p.2.length ≤ 9223372036854775807)
    (hT : Lib.Utf8Tabs 1 2 w) :
    Calls Tryd.prog 6 #[.agg #[.slice A n c, .slice A2 n2 c2], .string (bs nm), .string (bs v)] w fun e w' => e = .returned (.bool true) ∧ Below w.heap.size w w' := by
  have HN := Lib.hid hn
  have HN2 := Lib.hid hn2
  have HS := Lib.hid hs
  clear hn hn2 hs
  have hpu : ∀ W, Sem.run Tryd.prog (pure #[] : Sem (Array Value)) W = .ok #[] W := fun _ => rfl
  have hst : ∀ a W, Sem.run Tryd.prog (storeCells a []) W = .ok () W := fun _ _ => rfl
  have hB0 : Below w.heap.size w (w.alloc (.cells #[.slice A n c, .slice A2 n2 c2] 41)) := (Below.refl _ _).alloc (Nat.le_refl _) _
  have r0 := row_new2 w (.slice A n c) (.slice A2 n2 c2) 41
  have hs0 : w.heap.size + 1 ≤ (w.alloc (.cells #[.slice A n c, .slice A2 n2 c2] 41)).heap.size := by simp
  go_enter Tryd.func6, Tryd.ntmps6
  go_wp2_with fail
  generalize w.alloc (.cells #[.slice A n c, .slice A2 n2 c2] 41) = W0 at *
  refine (speaks11_any W0).mono ?_
  rintro e w1 ⟨rfl, hb1⟩
  have r1 := r0.below hb1
  have hB1 := hB0.trans (hb1.mono hB0.size)
  have c10 := r1.cell (j := 0) rfl
  have c11 := r1.cell (j := 1) rfl
  go_wp2_with fail
  refine (great_any A A2 fs n c n2 c2 w1 HN.out (hA.below hB1) HS.out).mono ?_
  rintro e w2 ⟨hgr, hb2⟩
  have hB2 := hB1.trans (hb2.mono hB1.size)
  have r2 := r1.below hb2
  have hs2 : W0.heap.size ≤ w2.heap.size := Nat.le_trans hb1.size hb2.size
  clear c10 c11
  rcases hgr with rfl | ⟨rfl, hn3, hn23⟩
  · go_wp2_with fail
    go_ret
    exact ⟨rfl, hB2⟩
  by_cases h1 : 200 < nm.length
  · go_wp2_with fail
    go_ret
    exact ⟨rfl, hB2⟩
  by_cases h2 : 200 < v.length
  · go_wp2_with fail
    go_ret
    exact ⟨rfl, hB2⟩
  go_wp2_with fail
  have c20 := r2.cell (j := 0) rfl
  have c21 := r2.cell (j := 1) rfl
  have hRF2 := hA.below hB2
  have hRB2 := hA2.below hB2
  have hlt0 : w.heap.size < w2.heap.size := by omega
  go_cut [7] (fun s7 wx => ∃ g AF cF AB cB, s7 = .pointer (some ⟨g, 0, none⟩) ∧ Row wx g 41 [.slice AF n cF, .slice AB n2 cB] ∧ Rf wx AF fs ∧ Rb wx AB bd ∧ n ≤ cF ∧ n2 ≤ cB ∧ Below w2.heap.size w2 wx)
  case first =>
    as_aux_lemma =>
      clear hA hA2 hT hB0 r0 hb1 r1 hB1 hb2 hB2 r2 hs2 HS hnc hnc2 h1 h2 hs0
      have hbase := Below.refl w2.heap.size w2
      go_region_held_law (fun w' => Below w2.heap.size w2 w' ∧ w'.cell? ⟨w.heap.size, 0, none⟩ = some (.slice A n c) ∧ w'.cell? ⟨w.heap.size, 1, none⟩ = some (.slice A2 n2 c2))
        (refine ⟨?_, ?_, ?_⟩ <;> (repeat (first | (with_reducible assumption) | (with_reducible refine cell_al _ ?_) | (with_reducible refine cell_dr ?_) | (with_reducible refine cell_sc ?_ (by simp; omega)) | (with_reducible refine Below.drew ?_) | (with_reducible refine bel_al ?_ _) | (with_reducible refine bel_sc ?_ (by simp <;> omega) _))))
        (first
        | (refine step_app0 (y := .slice A n c) (m := n) (news := fcells fs) rfl (.tmp 29) (.tmp 31) _ _ rfl TField rfl (by exact Src_rf (c := c) HN.out (hRF2.below (And.left (by assumption)))) rfl (by omega) ?_; rintro vF wF ⟨AF, cF, rfl, hcF, hRF, hAF⟩ hbF; obtain ⟨kF, kfF⟩ := bcell hbF; have hbF2 := Below.trans (And.left (by assumption) : Below w2.heap.size w2 _) (hbF.mono (And.left (by assumption) : Below w2.heap.size w2 _).size); have sF := hbF2.size; have sFF := hbF.size; (try simp at sFF); (try have := (by omega : w2.heap.size < wF.heap.size)); (try have := (by omega : w2.heap.size ≠ wF.heap.size)); (try have := (by omega : w2.heap.size < wF.heap.size + 1)); (try have := (by omega : w2.heap.size ≠ wF.heap.size + 1)); (try have := (by omega : w2.heap.size + 1 < wF.heap.size)); (try have := (by omega : w2.heap.size + 1 ≠ wF.heap.size)); (try have := (by omega : w2.heap.size + 1 < wF.heap.size + 1)); (try have := (by omega : w2.heap.size + 1 ≠ wF.heap.size + 1)); (try have := (by omega : w2.heap.size + 2 < wF.heap.size)); (try have := (by omega : w2.heap.size + 2 ≠ wF.heap.size)); (try have := (by omega : w2.heap.size + 2 < wF.heap.size + 1)); (try have := (by omega : w2.heap.size + 2 ≠ wF.heap.size + 1)); (try ((try have := (by have := hbB.size; omega : wB.heap.size < wF.heap.size)); (try have := (by have := hbB.size; omega : wB.heap.size ≠ wF.heap.size)); (try have := (by have := hbB.size; omega : wB.heap.size < wF.heap.size + 1)); (try have := (by have := hbB.size; omega : wB.heap.size ≠ wF.heap.size + 1)); (try have := (by have := hbB.size; omega : wB.heap.size + 1 < wF.heap.size)); (try have := (by have := hbB.size; omega : wB.heap.size + 1 ≠ wF.heap.size)); (try have := (by have := hbB.size; omega : wB.heap.size + 1 < wF.heap.size + 1)); (try have := (by have := hbB.size; omega : wB.heap.size + 1 ≠ wF.heap.size + 1)); (try have := (by have := hbB.size; omega : wB.heap.size + 2 < wF.heap.size)); (try have := (by have := hbB.size; omega : wB.heap.size + 2 ≠ wF.heap.size)); (try have := (by have := hbB.size; omega : wB.heap.size + 2 < wF.heap.size + 1)); (try have := (by have := hbB.size; omega : wB.heap.size + 2 ≠ wF.heap.size + 1)))); have cF0 := (hbF2.cell (p := ⟨w.heap.size, 0, none⟩) hlt0).trans c20; have cF1 := (hbF2.cell (p := ⟨w.heap.size, 1, none⟩) hlt0).trans c21)
        | (refine step_app0 (y := .slice A2 n2 c2) (m := n2) (news := bd.map bv) rfl (.tmp 33) (.tmp 35) _ _ rfl TU8 rfl (by exact Src_rb (c := c2) Tryd.underlying23 HN2.out (hRB2.below (And.left (by assumption)))) rfl (by omega) ?_; rintro vB wB ⟨AB, cB, rfl, hcB, hRB, hAB⟩ hbB; obtain ⟨kB, kfB⟩ := bcell hbB; have hbB2 := Below.trans (And.left (by assumption) : Below w2.heap.size w2 _) (hbB.mono (And.left (by assumption) : Below w2.heap.size w2 _).size); have sB := hbB2.size; have sBB := hbB.size; (try simp at sBB); (try have := (by omega : w2.heap.size < wB.heap.size)); (try have := (by omega : w2.heap.size ≠ wB.heap.size)); (try have := (by omega : w2.heap.size < wB.heap.size + 1)); (try have := (by omega : w2.heap.size ≠ wB.heap.size + 1)); (try have := (by omega : w2.heap.size + 1 < wB.heap.size)); (try have := (by omega : w2.heap.size + 1 ≠ wB.heap.size)); (try have := (by omega : w2.heap.size + 1 < wB.heap.size + 1)); (try have := (by omega : w2.heap.size + 1 ≠ wB.heap.size + 1)); (try have := (by omega : w2.heap.size + 2 < wB.heap.size)); (try have := (by omega : w2.heap.size + 2 ≠ wB.heap.size)); (try have := (by omega : w2.heap.size + 2 < wB.heap.size + 1)); (try have := (by omega : w2.heap.size + 2 ≠ wB.heap.size + 1)); (try ((try have := (by have := hbF.size; omega : wF.heap.size < wB.heap.size)); (try have := (by have := hbF.size; omega : wF.heap.size ≠ wB.heap.size)); (try have := (by have := hbF.size; omega : wF.heap.size < wB.heap.size + 1)); (try have := (by have := hbF.size; omega : wF.heap.size ≠ wB.heap.size + 1)); (try have := (by have := hbF.size; omega : wF.heap.size + 1 < wB.heap.size)); (try have := (by have := hbF.size; omega : wF.heap.size + 1 ≠ wB.heap.size)); (try have := (by have := hbF.size; omega : wF.heap.size + 1 < wB.heap.size + 1)); (try have := (by have := hbF.size; omega : wF.heap.size + 1 ≠ wB.heap.size + 1)); (try have := (by have := hbF.size; omega : wF.heap.size + 2 < wB.heap.size)); (try have := (by have := hbF.size; omega : wF.heap.size + 2 ≠ wB.heap.size)); (try have := (by have := hbF.size; omega : wF.heap.size + 2 < wB.heap.size + 1)); (try have := (by have := hbF.size; omega : wF.heap.size + 2 ≠ wB.heap.size + 1)))); have cB0 := (hbB2.cell (p := ⟨w.heap.size, 0, none⟩) hlt0).trans c20; have cB1 := (hbB2.cell (p := ⟨w.heap.size, 1, none⟩) hlt0).trans c21))
      all_goals
        go_wp2_with fail
        go_meet
        refine ⟨_, AF, cF, AB, cB, rfl, ?_, ?_, ?_, hcF, hcB, ?_⟩
        · repeat (first | (with_reducible exact row_new2 _ _ _ _) | (with_reducible exact row_two2 _ _ _ _ _) | (with_reducible exact row_three2 _ _ _ _ _ _) | (with_reducible apply row_sets) | (with_reducible refine Row.alloc ?_ _) | (with_reducible refine row_dr ?_) | (with_reducible refine Row.below ?_ hbB) | (with_reducible refine Row.below ?_ hbF))
        · show Rv _ _ _
          repeat (first | (with_reducible assumption) | (with_reducible refine Rv_al ?_ _) | (with_reducible refine Rv_far2 ?_ (fun hp b o e => by rw [fcells_len, HN.out] at hp; have h := hAF (by omega); rw [h.1] at e; cases e; have h2 := h.2; (try simp at h2); (try simp) <;> omega)) | (with_reducible refine Rv_dr ?_) | (with_reducible refine Rv.below ?_ hbB) | (with_reducible refine Rv.below ?_ hbF))
        · show Rv _ _ _
          repeat (first | (with_reducible exact hRB) | (with_reducible refine Rv_al ?_ _) | (with_reducible refine Rv_far2 ?_ (fun hp b o e => by rw [List.length_map, HN2.out] at hp; have h := hAB (by omega); rw [h.1] at e; cases e; have h2 := h.2; (try simp at h2); (try simp) <;> omega)) | (with_reducible refine Rv_dr ?_) | (with_reducible refine Rv.below ?_ hbB) | (with_reducible refine Rv.below ?_ hbF))
        · repeat (first | (with_reducible assumption) | (with_reducible refine bel_al ?_ _) | (with_reducible refine bel_sc ?_ (by simp <;> omega) _) | (with_reducible refine Below.drew ?_))
  case rest =>
    obtain ⟨g, AF, cF, AB, cB, rfl, q3, hRF3, hRB3, hcF, hcB, hb3⟩ := hcut
    obtain ⟨w3, hw3⟩ : ∃ w3, w3 = wc := ⟨_, rfl⟩
    rw [← hw3] at q3 hRF3 hRB3 hb3 ⊢
    clear hw3 hRF2 hRB2
    have hB3 := hB2.trans (hb3.mono hB2.size)
    have r3 := r2.below hb3
    have c30 := r3.cell (j := 0) rfl
    have c31 := r3.cell (j := 1) rfl
    have e30 := q3.cell (j := 0) rfl
    have e31 := q3.cell (j := 1) rfl
    have hall : ∀ W, Below w3.heap.size w3 W → Calls Tryd.prog 20 #[.agg #[.slice AF n cF, .slice AB n2 cB], .string (bs nm)] W (AllOut nm fs W) := fun W hb => all_any AF AB fs nm n cF n2 cB W HN.out (hRF3.below hb) (tabs_below hT (hB3.trans (hb.mono hB3.size))) (by omega) (by omega)
    have hrall : ∀ W, Below w3.heap.size w3 W → Calls Tryd.prog 21 #[.agg #[.slice A n c, .slice A2 n2 c2], .string (bs nm)] W (AllOut nm fs W) := fun W hb => rall_any A A2 fs nm n c n2 c2 W HN.out (hA.below (hB3.trans (hb.mono hB3.size))) (by omega) (by omega)
    have hkv := valsN_len nm fs
    rw [HN.out] at hkv
    obtain ⟨vs, hvs⟩ : ∃ vs, valsN nm fs = vs := ⟨_, rfl⟩
    rw [hvs] at hkv
    have HVS := Lib.hid hvs
    obtain ⟨K, hK⟩ : ∃ K, vs.length = K := ⟨_, rfl⟩
    rw [hK] at hkv
    have HK := Lib.hid hK
    clear hvs hK
    go_wp2_with fail
    go_cut [8, 9] (fun s8 s9 wx => ∃ A8 c8 A9 c9, s8 = .slice A8 K c8 ∧ s9 = .slice A9 K c9 ∧ Rv wx A8 (vs.map strv) ∧ Rv wx A9 (vs.map strv) ∧ Below w3.heap.size w3 wx)
    case first =>
      as_aux_lemma =>
        clear hA hA2 hT hB0 r0 hb1 r1 hB1 hb2 hB2 r2 hs2 HS hnc hnc2 h1 h2 hs0 hpu hst c20 c21 q3 hRF3 hRB3 hb3 hB3 r3 hlt0
        have hD0 : Below w3.heap.size w3 w3.drew := (Below.refl _ w3).drew
        go_region_held3 (fun w' => w'.cell? ⟨w.heap.size, 0, none⟩ = some (.slice A n c) ∧ w'.cell? ⟨w.heap.size, 1, none⟩ = some (.slice A2 n2 c2) ∧ w'.cell? ⟨g, 0, none⟩ = some (.slice AF n cF) ∧ w'.cell? ⟨g, 1, none⟩ = some (.slice AB n2 cB))
          (exact ⟨by assumption, by assumption, by assumption, by assumption⟩)
          (first
          | (go_at_call 20; (with_reducible refine (hall _ hD0).mono ?_); rintro e w4 ⟨v8, rfl, hown8, hb4⟩; rw [HVS.out, HK.out] at hown8; obtain ⟨A8, c8, rfl, _, _, hR8, _⟩ := own_form hown8; have hC4 := hD0.trans hb4; have c40 := (hC4.cell (p := ⟨w.heap.size, 0, none⟩) (cell_lt c30)).trans c30; have c41 := (hC4.cell (p := ⟨w.heap.size, 1, none⟩) (cell_lt c31)).trans c31; have e40 := (hC4.cell (p := ⟨g, 0, none⟩) (cell_lt e30)).trans e30; have e41 := (hC4.cell (p := ⟨g, 1, none⟩) (cell_lt e31)).trans e31)
          | (go_at_call 21; (with_reducible refine (hrall _ hC4).mono ?_); rintro e w5 ⟨v9, rfl, hown9, hb5⟩; rw [HVS.out, HK.out] at hown9; obtain ⟨A9, c9, rfl, _, _, hR9, _⟩ := own_form hown9; have hC5 := hC4.trans (hb5.mono hC4.size); have c50 := (hC5.cell (p := ⟨w.heap.size, 0, none⟩) (cell_lt c30)).trans c30; have c51 := (hC5.cell (p := ⟨w.heap.size, 1, none⟩) (cell_lt c31)).trans c31; have e50 := (hC5.cell (p := ⟨g, 0, none⟩) (cell_lt e30)).trans e30; have e51 := (hC5.cell (p := ⟨g, 1, none⟩) (cell_lt e31)).trans e31))
        all_goals
          go_wp2_with fail
          go_meet
          exact ⟨A8, c8, A9, c9, rfl, rfl, hR8.below hb5, hR9, hC5⟩
    case rest =>
      obtain ⟨A8, c8, A9, c9, rfl, rfl, hR8, hR9, hb6⟩ := hcut
      obtain ⟨w6, hw6⟩ : ∃ w6, w6 = wc := ⟨_, rfl⟩
      rw [← hw6] at hR8 hR9 hb6 ⊢
      clear hw6 hall hrall c30 c31 e30 e31 c20 c21
      have hB6 := hB3.trans (hb6.mono hB3.size)
      have r6 := r3.below hb6
      have q6 := q3.below hb6
      have e60 := q6.cell (j := 0) rfl
      have e61 := q6.cell (j := 1) rfl
      go_upto_region 7 with fail
      go_cut [10, 11] (fun s10 s11 wx => ∃ (x : List UInt8) (ok : Bool), s10 = .string (bs x) ∧ s11 = .bool ok ∧ ((ok = true ∧ ∃ r, vs = x :: r) ∨ (ok = false ∧ vs = [] ∧ x = [])) ∧ Below w6.heap.size w6 wx)
      case first =>
        have hget := get_any AF AB fs nm n cF n2 cB w6 HN.out (hRF3.below hb6) (tabs_below hT hB6) (by omega) (by omega)
        clear hA hA2 hT hB0 r0 hb1 r1 hB1 hb2 hB2 r2 hs2 HS hnc hnc2 h1 h2 hs0 hpu hst q3 hRF3 hRB3 hb3 hB3 r3 hlt0 hB6 hb6 hR8 hR9
        go_wp2_with fail
        refine hget.mono ?_
        rintro e w7 ⟨hg7, hb7⟩
        unfold GetOut at hg7
        rw [HVS.out] at hg7
        cases hvx : vs with
        | nil =>
          rw [hvx] at hg7
          subst hg7
          go_wp2_with fail
          go_meet
          exact ⟨[], false, rfl, rfl, .inr ⟨rfl, hvx, rfl⟩, hb7⟩
        | cons x r =>
          rw [hvx] at hg7
          subst hg7
          go_wp2_with fail
          go_meet
          exact ⟨x, true, rfl, rfl, .inl ⟨rfl, r, hvx⟩, hb7⟩
      case rest =>
        obtain ⟨x, ok, rfl, rfl, hok, hb7⟩ := hcut
        obtain ⟨w7, hw7⟩ : ∃ w7, w7 = wc := ⟨_, rfl⟩
        rw [← hw7] at hb7 ⊢
        clear hw7 e60 e61
        have hB7 := hB6.trans (hb7.mono hB6.size)
        have r7 := r6.below hb7
        have q7 := q6.below hb7
        have hR87 := hR8.below hb7
        have hR97 := hR9.below hb7
        go_upto_region 8 with fail
        go_cut [79] (fun s79 wx => s79 = .bool false ∧ w7 = wx)
        case first =>
          rcases hok with ⟨rfl, r, hvx⟩ | ⟨rfl, hvx, rfl⟩
          · have hK1 : 0 < K := by rw [← HK.out, hvx]; simp
            obtain ⟨b, o, y, rfl, hy, hc⟩ := hR97.one (k := 0) (by simp only [List.length_map, HK.out]; exact hK1)
            have hyx : y = strv x := by
              have := hy.out
              rw [hvx] at this
              simp at this
              exact this.symm
            rw [hyx, Nat.add_zero] at hc
            unfold strv at hc
            have hKi : (0 : Int) < (K : Int) := by omega
            have hself : (bs x != bs x) = false := by rw [bs_bne]; simp
            clear hvx hyx
            go_wp2_with fail
            go_meet
            exact ⟨rfl, rfl⟩
          · obtain rfl : K = 0 := by rw [← HK.out, hvx]; rfl
            have hK0b : ((bs []) != (⟨#[]⟩ : ByteArray)) = false := by decide
            clear hvx
            go_wp2_with fail
            go_meet
            exact ⟨rfl, rfl⟩
        case rest =>
          obtain ⟨rfl, rfl⟩ := hcut
          clear hok
          go_wp2_with fail
          go_loopw [82] (fun i wr => ∃ k : Nat, i = .int .i64 k ∧ k ≤ K ∧ Dn w7 wr) (fun i _ => K - (intOf i).toNat)
          case atStart => exact ⟨0, rfl, by omega, Dn.refl _⟩
          case round =>
            obtain ⟨k, rfl, hk, hd⟩ := hrel
            have hdb := hd.below w7.heap.size
            by_cases hlt : k < K
            · obtain ⟨b, o, y, rfl, hy, hcy⟩ := (hR87.below hdb).one (k := k) (by simp only [List.length_map, HK.out]; exact hlt)
              obtain ⟨b2, o2, y2, rfl, hy2, hcy2⟩ := (hR97.below hdb).one (k := k) (by simp only [List.length_map, HK.out]; exact hlt)
              obtain rfl : y2 = y := Option.some.inj (hy2.out.symm.trans hy.out)
              obtain ⟨q, rfl⟩ : ∃ q, y2 = strv q := by
                have := hy.out
                rw [List.getElem?_map, Option.map_eq_some_iff] at this
                obtain ⟨q, _, h⟩ := this
                exact ⟨q, h.symm⟩
              have hself : (bs q != bs q) = false := by rw [bs_bne]; simp
              unfold strv at hcy hcy2
              go_wp2_with fail
              go_quiet (fail)
              go_wp2_with fail
              go_roundw
              case rel => exact ⟨k + 1, by go_num, by omega, by first | exact hd.drewN _ | exact hd.drew | exact hd⟩
              case measure => simp [intOf]; omega
            · have hBr := hB7.trans (hdb.mono hB7.size)
              have rr := r7.below hdb
              have qr := q7.below hdb
              have c80 := rr.cell (j := 0) rfl
              have c81 := rr.cell (j := 1) rfl
              have e80 := qr.cell (j := 0) rfl
              have e81 := qr.cell (j := 1) rfl
              have hRFr := hRF3.below ((hb6.trans (hb7.mono hb6.size)).trans (hdb.mono (Nat.le_trans hb6.size hb7.size)))
              have hRBr := hRB3.below ((hb6.trans (hb7.mono hb6.size)).trans (hdb.mono (Nat.le_trans hb6.size hb7.size)))
              clear hR87 hR97 hR8 hR9 r7 q7 r6 q6 hb7 hdb hd
              go_upto_region 16 with fail
              have hset : ∀ W, Below wr.heap.size wr W → Calls Tryd.prog 23 #[.agg #[.slice AF n cF, .slice AB n2 cB], .string (bs nm), .string (bs v)] W (fun e w' => ∃ S1 cS S2 dS, e = .returned (.agg #[.slice S1 (setN nm v fs).length cS, .slice S2 n2 dS]) ∧ Rf w' S1 (setN nm v fs) ∧ Rb w' S2 bd ∧ Below W.heap.size W w' ∧ (∀ b o, S1 = some ⟨b, o, none⟩ → W.heap.size ≤ b ∧ b < w'.heap.size) ∧ (∀ b o, S2 = some ⟨b, o, none⟩ → W.heap.size ≤ b ∧ b < w'.heap.size) ∧ n2 ≤ dS ∧ (setN nm v fs).length ≤ cS) := fun W hb => by
                refine (set_any AF AB fs bd nm v n cF n2 cB W HN.out HN2.out (hRFr.below hb) (hRBr.below hb) hcF (tabs_below hT (hBr.trans (hb.mono hBr.size))) (by omega) (by omega) (by omega)).mono ?_
                rintro e w' ⟨v1, v2, rfl, ho1, ho2, hbW⟩
                rw [HN2.out] at ho2
                obtain ⟨S1, cS, rfl, hc1, _, hR1, _⟩ := own_form ho1
                obtain ⟨S2, dS, rfl, hc2, _, hR2, _⟩ := own_form ho2
                exact ⟨S1, cS, S2, dS, rfl, hR1, hR2, hbW, fun b o e => by subst e; exact own_where ho1, fun b o e => by subst e; exact own_where ho2, hc2, hc1⟩
              have hdrp : ∀ W, Below wr.heap.size wr W → Calls Tryd.prog 24 #[.agg #[.slice AF n cF, .slice AB n2 cB], .string (bs nm)] W (fun e w' => ∃ S1 cS S2 dS, e = .returned (.agg #[.slice S1 (keepF nm fs).length cS, .slice S2 n2 dS]) ∧ Rf w' S1 (keepF nm fs) ∧ Rb w' S2 bd ∧ Below W.heap.size W w' ∧ (∀ b o, S1 = some ⟨b, o, none⟩ → W.heap.size ≤ b ∧ b < w'.heap.size) ∧ (∀ b o, S2 = some ⟨b, o, none⟩ → W.heap.size ≤ b ∧ b < w'.heap.size) ∧ n2 ≤ dS ∧ (keepF nm fs).length ≤ cS) := fun W hb => by
                refine (drop_any AF AB fs bd nm n cF n2 cB W HN.out HN2.out (hRFr.below hb) (hRBr.below hb) (tabs_below hT (hBr.trans (hb.mono hBr.size))) (by omega) (by omega) (by omega)).mono ?_
                rintro e w' ⟨v1, v2, rfl, ho1, ho2, _, hbW⟩
                rw [HN2.out] at ho2
                obtain ⟨S1, cS, rfl, hc1, _, hR1, _⟩ := own_form ho1
                obtain ⟨S2, dS, rfl, hc2, _, hR2, _⟩ := own_form ho2
                exact ⟨S1, cS, S2, dS, rfl, hR1, hR2, hbW, fun b o e => by subst e; exact own_where ho1, fun b o e => by subst e; exact own_where ho2, hc2, hc1⟩
              have hgl : g < wr.heap.size := cell_lt e80
              have hwl : w.heap.size < wr.heap.size := cell_lt c80
              generalize hss : setN nm v fs = ss at hset
              generalize hkk : keepF nm fs = kk at hdrp
              have HSS := Lib.hid hss
              have HKK := Lib.hid hkk
              obtain ⟨lS, hlS⟩ : ∃ lS, ss.length = lS := ⟨_, rfl⟩
              obtain ⟨lD, hlD⟩ : ∃ lD, kk.length = lD := ⟨_, rfl⟩
              rw [hlS] at hset
              rw [hlD] at hdrp
              have HLS := Lib.hid hlS
              have HLD := Lib.hid hlD
              clear hss hkk hlS hlD
              go_cut [13, 14] (fun s13 s14 wx => ∃ g13 g14 S1 cS S2 dS D1 cD D2 dD, s13 = .pointer (some ⟨g13, 0, none⟩) ∧ s14 = .pointer (some ⟨g14, 0, none⟩) ∧ Row wx g13 41 [.slice S1 lS cS, .slice S2 n2 dS] ∧ Row wx g14 41 [.slice D1 lD cD, .slice D2 n2 dD] ∧ Rf wx S1 ss ∧ Rb wx S2 bd ∧ Rf wx D1 kk ∧ Rb wx D2 bd ∧ Below wr.heap.size wr wx)
              case first =>
                as_aux_lemma =>
                  clear hA hA2 hT hB0 r0 hb1 r1 hB1 hb2 hB2 r2 hs2 HS hnc hnc2 h1 h2 hs0 hpu hst q3 hRF3 hRB3 hb3 hB3 r3 hlt0 hB6 hb6 hB7 hBr rr qr hRFr hRBr HVS HK hkv HN HN2 HSS HKK HLS HLD hcF hcB hk hlt hn3 hn23
                  have hbase := Below.refl wr.heap.size wr
                  go_region_held3 (fun w' => Below wr.heap.size wr w' ∧ w'.cell? ⟨w.heap.size, 0, none⟩ = some (.slice A n c) ∧ w'.cell? ⟨w.heap.size, 1, none⟩ = some (.slice A2 n2 c2) ∧ w'.cell? ⟨g, 0, none⟩ = some (.slice AF n cF) ∧ w'.cell? ⟨g, 1, none⟩ = some (.slice AB n2 cB))
                    (refine ⟨?_, ?_, ?_, ?_, ?_⟩ <;> (repeat (first | (with_reducible assumption) | (with_reducible refine cell_al _ ?_) | (with_reducible refine cell_dr ?_) | (with_reducible refine cell_sc ?_ (by simp <;> omega)) | (with_reducible refine Below.drew ?_) | (with_reducible refine bel_al ?_ _) | (with_reducible refine bel_sc ?_ (by simp <;> omega) _))))
                    (first
                    | (go_at_call 23; (with_reducible refine (hset _ (And.left (by assumption))).mono ?_); rintro e wS ⟨S1, cS, S2, dS, rfl, hRS1, hRS2, hbS, hS1, hS2, _, _⟩; have hRS1v : Rv wS S1 (fcells ss) := hRS1; have hRS2v : Rv wS S2 (bd.map bv) := hRS2; obtain ⟨kS, kfS⟩ := bcell hbS; have hbS2 := Below.trans (And.left (by assumption) : Below wr.heap.size wr _) (hbS.mono (And.left (by assumption) : Below wr.heap.size wr _).size); have sS := hbS2.size; have sSS := hbS.size; (try simp at sSS); (try have := (by omega : wr.heap.size < wS.heap.size)); (try have := (by omega : wr.heap.size ≠ wS.heap.size)); (try have := (by omega : wr.heap.size < wS.heap.size + 1)); (try have := (by omega : wr.heap.size ≠ wS.heap.size + 1)); (try have := (by omega : wr.heap.size + 1 < wS.heap.size)); (try have := (by omega : wr.heap.size + 1 ≠ wS.heap.size)); (try have := (by omega : wr.heap.size + 1 < wS.heap.size + 1)); (try have := (by omega : wr.heap.size + 1 ≠ wS.heap.size + 1)); have cS0 := (hbS2.cell (p := ⟨w.heap.size, 0, none⟩) (cell_lt c80)).trans c80; have cS1 := (hbS2.cell (p := ⟨w.heap.size, 1, none⟩) (cell_lt c81)).trans c81; have cS2 := (hbS2.cell (p := ⟨g, 0, none⟩) (cell_lt e80)).trans e80; have cS3 := (hbS2.cell (p := ⟨g, 1, none⟩) (cell_lt e81)).trans e81)
                    | (go_at_call 24; (with_reducible refine (hdrp _ (And.left (by assumption))).mono ?_); rintro e wD ⟨D1, cD, D2, dD, rfl, hRD1, hRD2, hbD, hD1, hD2, _, _⟩; have hRD1v : Rv wD D1 (fcells kk) := hRD1; have hRD2v : Rv wD D2 (bd.map bv) := hRD2; obtain ⟨kD, kfD⟩ := bcell hbD; have hbD2 := Below.trans (And.left (by assumption) : Below wr.heap.size wr _) (hbD.mono (And.left (by assumption) : Below wr.heap.size wr _).size); have sD := hbD2.size; have sDD := hbD.size; (try simp at sDD); (try have := (by omega : wr.heap.size < wD.heap.size)); (try have := (by omega : wr.heap.size ≠ wD.heap.size)); (try have := (by omega : wr.heap.size < wD.heap.size + 1)); (try have := (by omega : wr.heap.size ≠ wD.heap.size + 1)); (try have := (by omega : wr.heap.size + 1 < wD.heap.size)); (try have := (by omega : wr.heap.size + 1 ≠ wD.heap.size)); (try have := (by omega : wr.heap.size + 1 < wD.heap.size + 1)); (try have := (by omega : wr.heap.size + 1 ≠ wD.heap.size + 1)); (try have := (by omega : wS.heap.size < wD.heap.size)); (try have := (by omega : wS.heap.size ≠ wD.heap.size)); (try have := (by omega : wS.heap.size < wD.heap.size + 1)); (try have := (by omega : wS.heap.size ≠ wD.heap.size + 1)); (try have := (by omega : wS.heap.size + 1 < wD.heap.size)); (try have := (by omega : wS.heap.size + 1 ≠ wD.heap.size)); (try have := (by omega : wS.heap.size + 1 < wD.heap.size + 1)); (try have := (by omega : wS.heap.size + 1 ≠ wD.heap.size + 1)); have cD0 := (hbD2.cell (p := ⟨w.heap.size, 0, none⟩) (cell_lt c80)).trans c80; have cD1 := (hbD2.cell (p := ⟨w.heap.size, 1, none⟩) (cell_lt c81)).trans c81; have cD2 := (hbD2.cell (p := ⟨g, 0, none⟩) (cell_lt e80)).trans e80; have cD3 := (hbD2.cell (p := ⟨g, 1, none⟩) (cell_lt e81)).trans e81))
                  all_goals
                    go_wp2_with fail
                    go_meet
                    refine ⟨_, _, S1, cS, S2, dS, D1, cD, D2, dD, rfl, rfl, ?_, ?_, ?_, ?_, ?_, ?_, ?_⟩
                    · repeat (first | (with_reducible exact row_new2 _ _ _ _) | (with_reducible exact row_newsc _ _ _ _ _ _ _ _) | (with_reducible exact row_two2 _ _ _ _ _) | (with_reducible exact row_three2 _ _ _ _ _ _) | (with_reducible apply row_sets) | (with_reducible refine row_far2 ?_ (by (try simp) <;> omega)) | (with_reducible refine Row.alloc ?_ _) | (with_reducible refine row_dr ?_) | (with_reducible refine Row.below ?_ hbD) | (with_reducible refine Row.below ?_ hbS))
                    · repeat (first | (with_reducible exact row_new2 _ _ _ _) | (with_reducible exact row_newsc _ _ _ _ _ _ _ _) | (with_reducible exact row_two2 _ _ _ _ _) | (with_reducible exact row_three2 _ _ _ _ _ _) | (with_reducible apply row_sets) | (with_reducible refine row_far2 ?_ (by (try simp) <;> omega)) | (with_reducible refine Row.alloc ?_ _) | (with_reducible refine row_dr ?_) | (with_reducible refine Row.below ?_ hbD) | (with_reducible refine Row.below ?_ hbS))
                    · show Rv _ _ _
                      repeat (first | (with_reducible exact hRS1v) | (with_reducible refine Rv_al ?_ _) | (with_reducible refine Rv_far2 ?_ (fun hp b o e => by have h := hS1 b o e; (try simp at h); (try simp) <;> omega)) | (with_reducible refine Rv_dr ?_) | (with_reducible refine Rv.below ?_ hbD) | (with_reducible refine Rv.below ?_ hbS))
                    · show Rv _ _ _
                      repeat (first | (with_reducible exact hRS2v) | (with_reducible refine Rv_al ?_ _) | (with_reducible refine Rv_far2 ?_ (fun hp b o e => by have h := hS2 b o e; (try simp at h); (try simp) <;> omega)) | (with_reducible refine Rv_dr ?_) | (with_reducible refine Rv.below ?_ hbD) | (with_reducible refine Rv.below ?_ hbS))
                    · show Rv _ _ _
                      repeat (first | (with_reducible exact hRD1v) | (with_reducible refine Rv_al ?_ _) | (with_reducible refine Rv_far2 ?_ (fun hp b o e => by have h := hD1 b o e; (try simp at h); (try simp) <;> omega)) | (with_reducible refine Rv_dr ?_) | (with_reducible refine Rv.below ?_ hbD) | (with_reducible refine Rv.below ?_ hbS))
                    · show Rv _ _ _
                      repeat (first | (with_reducible exact hRD2v) | (with_reducible refine Rv_al ?_ _) | (with_reducible refine Rv_far2 ?_ (fun hp b o e => by have h := hD2 b o e; (try simp at h); (try simp) <;> omega)) | (with_reducible refine Rv_dr ?_) | (with_reducible refine Rv.below ?_ hbD) | (with_reducible refine Rv.below ?_ hbS))
                    · repeat (first | (with_reducible assumption) | (with_reducible refine bel_al ?_ _) | (with_reducible refine bel_sc ?_ (by simp <;> omega) _) | (with_reducible refine Below.drew ?_))
              case rest =>
                obtain ⟨g13, g14, S1, cS, S2, dS, D1, cD, D2, dD, rfl, rfl, q13, q14, hRS1, hRS2, hRD1, hRD2, hb9⟩ := hcut
                obtain ⟨w9, hw9⟩ : ∃ w9, w9 = wc := ⟨_, rfl⟩
                rw [← hw9] at q13 q14 hRS1 hRS2 hRD1 hRD2 hb9 ⊢
                clear hw9 hset hdrp
                have hB9 := hBr.trans (hb9.mono hBr.size)
                have l9 := rr.below hb9
                have g9 := qr.below hb9
                have hRF9 := hRFr.below hb9
                have hlS : lS ≤ 1000000 := by rw [← HLS.out, ← HSS.out]; have h3 := setAt_len nm v fs fs.length; have h4 := @setAt_end nm v fs; rw [h4]; have h5 := HN.out; split <;> (try rw [List.length_append]) <;> (try simp only [List.length_cons, List.length_nil]) <;> omega
                have hlD : lD ≤ 1000000 := by rw [← HLD.out, ← HKK.out]; have h3 := keepF_len nm fs; have h5 := HN.out; omega
                have held : ∀ W, Below w9.heap.size w9 W → (Below w9.heap.size w9 W ∧ W.cell? ⟨w.heap.size, 0, none⟩ = some (.slice A n c) ∧ W.cell? ⟨w.heap.size, 1, none⟩ = some (.slice A2 n2 c2) ∧ W.cell? ⟨g, 0, none⟩ = some (.slice AF n cF) ∧ W.cell? ⟨g13, 0, none⟩ = some (.slice S1 lS cS) ∧ W.cell? ⟨g13, 1, none⟩ = some (.slice S2 n2 dS) ∧ W.cell? ⟨g14, 0, none⟩ = some (.slice D1 lD cD) ∧ W.cell? ⟨g14, 1, none⟩ = some (.slice D2 n2 dD)) := fun W hb =>
                  ⟨hb, (l9.below hb).cell rfl, (l9.below hb).cell rfl, (g9.below hb).cell rfl, (q13.below hb).cell rfl, (q13.below hb).cell rfl, (q14.below hb).cell rfl, (q14.below hb).cell rfl⟩
                have hrs : ∀ W, Below w9.heap.size w9 W → Calls Tryd.prog 25 #[.agg #[.slice A n c, .slice A2 n2 c2], .string (bs nm), .string (bs v)] W (fun e w' => ∃ X cX, e = .returned (.slice X lS cX) ∧ Rf w' X ss ∧ Below w9.heap.size w9 w') := fun W hb => by
                  refine (rset_any A A2 fs nm v n c n2 c2 W HN.out (hA.below (hB9.trans (hb.mono hB9.size))) (by omega) (by omega)).mono ?_
                  rintro e w' ⟨x, rfl, hx, hbW⟩
                  rw [HSS.out, HLS.out] at hx
                  obtain ⟨X, cX, rfl, _, _, hR, _⟩ := own_form hx
                  exact ⟨X, cX, rfl, hR, hb.trans (hbW.mono hb.size)⟩
                have hrd : ∀ W, Below w9.heap.size w9 W → Calls Tryd.prog 26 #[.agg #[.slice A n c, .slice A2 n2 c2], .string (bs nm)] W (fun e w' => ∃ X cX, e = .returned (.slice X lD cX) ∧ Rf w' X kk ∧ Below w9.heap.size w9 w') := fun W hb => by
                  refine (rdrop_any A A2 fs nm n c n2 c2 W HN.out (hA.below (hB9.trans (hb.mono hB9.size))) (by omega) (by omega)).mono ?_
                  rintro e w' ⟨x, rfl, hx, hbW⟩
                  rw [HKK.out, HLD.out] at hx
                  obtain ⟨X, cX, rfl, _, _, hR, _⟩ := own_form hx
                  exact ⟨X, cX, rfl, hR, hb.trans (hbW.mono hb.size)⟩
                have hsf1 : ∀ W X cX, Below w9.heap.size w9 W → Rf W X ss → Calls Tryd.prog 14 #[.slice S1 lS cS, .slice X lS cX] W (fun e w' => e = .returned (.bool true) ∧ Below w9.heap.size w9 w') := fun W X cX hb hX =>
                  (samef_any S1 X ss lS cS cX W HLS.out (hRS1.below hb) hX (by omega)).mono fun e w' h => ⟨h.1, hb.trans ((h.2.below _).mono hb.size)⟩
                have hsf2 : ∀ W X cX, Below w9.heap.size w9 W → Rf W X kk → Calls Tryd.prog 14 #[.slice D1 lD cD, .slice X lD cX] W (fun e w' => e = .returned (.bool true) ∧ Below w9.heap.size w9 w') := fun W X cX hb hX =>
                  (samef_any D1 X kk lD cD cX W HLD.out (hRD1.below hb) hX (by omega)).mono fun e w' h => ⟨h.1, hb.trans ((h.2.below _).mono hb.size)⟩
                have hsf3 : ∀ W, Below w9.heap.size w9 W → Calls Tryd.prog 14 #[.slice AF n cF, .slice A n c] W (fun e w' => e = .returned (.bool true) ∧ Below w9.heap.size w9 w') := fun W hb =>
                  (samef_any AF A fs n cF c W HN.out (hRF9.below hb) (hA.below (hB9.trans (hb.mono hB9.size))) (by omega)).mono fun e w' h => ⟨h.1, hb.trans ((h.2.below _).mono hb.size)⟩
                have hsm1 : ∀ W, Below w9.heap.size w9 W → Calls Tryd.prog 15 #[.slice S2 n2 dS, .slice A2 n2 c2] W (fun e w' => e = .returned (.bool true) ∧ Below w9.heap.size w9 w') := fun W hb =>
                  (same_any S2 A2 bd bd n2 n2 dS c2 W HN2.out HN2.out (hRS2.below hb) (hA2.below (hB9.trans (hb.mono hB9.size))) (by omega)).mono fun e w' h => ⟨by rw [h.1]; simp, hb.trans ((h.2.below _).mono hb.size)⟩
                have hsm2 : ∀ W, Below w9.heap.size w9 W → Calls Tryd.prog 15 #[.slice D2 n2 dD, .slice A2 n2 c2] W (fun e w' => e = .returned (.bool true) ∧ Below w9.heap.size w9 w') := fun W hb =>
                  (same_any D2 A2 bd bd n2 n2 dD c2 W HN2.out HN2.out (hRD2.below hb) (hA2.below (hB9.trans (hb.mono hB9.size))) (by omega)).mono fun e w' h => ⟨by rw [h.1]; simp, hb.trans ((h.2.below _).mono hb.size)⟩
                have HELD := Lib.hid held
                have HB9 := Lib.hid hB9
                clear hA hA2 hT hB0 r0 hb1 r1 hB1 hb2 hB2 r2 hs2 HS hnc hnc2 h1 h2 hs0 hpu hst q3 hRF3 hRB3 hb3 hB3 r3 hlt0 hB6 hb6 hB7 hBr rr qr hRFr hRBr HVS HK hkv HN HN2 HSS HKK HLS HLD hcF hcB hk hlt hn3 hn23 held hB9 l9 g9 hRF9 q13 q14 hRS1 hRS2 hRD1 hRD2 hb9 c80 c81 e80 e81 hgl hwl hlS hlD
                as_aux_lemma =>
                  have hbd : Below w9.heap.size w9 w9.drew := (Below.refl _ w9).drew
                  go_upto_region 17 with fail
                  go_region_held3 (fun w' => Below w9.heap.size w9 w' ∧ w'.cell? ⟨w.heap.size, 0, none⟩ = some (.slice A n c) ∧ w'.cell? ⟨w.heap.size, 1, none⟩ = some (.slice A2 n2 c2) ∧ w'.cell? ⟨g, 0, none⟩ = some (.slice AF n cF) ∧ w'.cell? ⟨g13, 0, none⟩ = some (.slice S1 lS cS) ∧ w'.cell? ⟨g13, 1, none⟩ = some (.slice S2 n2 dS) ∧ w'.cell? ⟨g14, 0, none⟩ = some (.slice D1 lD cD) ∧ w'.cell? ⟨g14, 1, none⟩ = some (.slice D2 n2 dD))
                    (exact HELD.out _ (by with_reducible assumption))
                    (first
                    | (go_at_call 25; (with_reducible refine (hrs _ hbd).mono ?_); rintro e u1 ⟨X, cX, rfl, hX, hu1⟩)
                    | (go_at_call 14; (with_reducible refine (hsf1 _ _ _ hu1 hX).mono ?_); rintro e u2 ⟨rfl, hu2⟩)
                    | (go_at_call 26; (with_reducible refine (hrd _ hu2).mono ?_); rintro e u3 ⟨Y, cY, rfl, hY, hu3⟩)
                    | (go_at_call 14; (with_reducible refine (hsf2 _ _ _ hu3 hY).mono ?_); rintro e u4 ⟨rfl, hu4⟩)
                    | (go_at_call 15; (with_reducible refine (hsm1 _ hu4).mono ?_); rintro e u5 ⟨rfl, hu5⟩)
                    | (go_at_call 15; (with_reducible refine (hsm2 _ hu5).mono ?_); rintro e u6 ⟨rfl, hu6⟩)
                    | (go_at_call 14; (with_reducible refine (hsf3 _ hu6).mono ?_); rintro e u7 ⟨rfl, hu7⟩))
                  go_wp2_with fail
                  go_ret
                  exact ⟨rfl, HB9.out.trans (hu7.mono HB9.out.size)⟩
end Go.Proofs.YtgohdohkikkeeaaDoor
