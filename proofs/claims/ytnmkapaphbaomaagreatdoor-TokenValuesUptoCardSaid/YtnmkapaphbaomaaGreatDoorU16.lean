/- The document's part: a parameter read. -/
import Derived.Test.YtnmkapaphbaomaaGreatDoorU15
import Derived.Test.YtnmkapaphbaomaaGreatDoorU8
import Derived.Test.YtnmkapaphbaomaaGreatDoorR1
import Derived.Test.YtnmkapaphbaomaaGreatDoorW3
namespace Go.Proofs.YtnmkapaphbaomaaGreatDoor
set_option linter.unusedVariables false
set_option linter.unusedSimpArgs false
open Go.RowKit

theorem quoP_loose {v : List UInt8} (h : onlyB loc' v = true) : quoP v = none := by
  rcases v with _ | ⟨c, r⟩
  · rfl
  · unfold onlyB at h
    simp only [List.all_cons, Bool.and_eq_true] at h
    have hc := h.1.1
    have : c ≠ 34 := fun e => by
      subst e
      revert hc
      decide
    unfold quoP
    dsimp only
    rw [if_neg this]
theorem quoP_head {v : List UInt8} (h : v.head? ≠ some 34) : quoP v = none := by
  rcases v with _ | ⟨c, r⟩
  · rfl
  · have hc : c ≠ 34 := fun e => h (by rw [e]; rfl)
    unfold quoP
    dsimp only
    rw [if_neg hc]
theorem quoP_unGo {v : List UInt8} (h : v.head? = some 34) : quoP v = (match (unGo [] (v.drop 1)).2 with | some [] => some (unGo [] (v.drop 1)).1 | _ => none) := by
  rcases v with _ | ⟨c, r⟩
  · simp at h
  · simp only [List.head?_cons, Option.some.injEq] at h
    subst h
    rw [List.drop_succ_cons, List.drop_zero]
    unfold quoP
    dsimp only
    rw [if_pos rfl]
    rcases unGo_q r.length r [] (Nat.le_refl _) with ⟨h1, h2⟩ | ⟨a, t, h1, h2⟩
    · rw [h1, h2]
    · rw [h1, h2]
      cases t <;> simp
theorem unGo_stop {v : List UInt8} {q : Nat} (o : List UInt8) (hc : v[q]? = some 34) : unGo o (v.drop q) = (o, some (v.drop (q + 1))) := by
  have hq := lt_of_get hc
  rw [List.getElem?_eq_getElem hq] at hc
  rw [List.drop_eq_getElem_cons hq, Option.some.inj hc, unGo.eq_def]
  simp
theorem unGo_esc {v : List UInt8} {q : Nat} {x : UInt8} (o : List UInt8) (hc : v[q]? = some 92) (hx : v[q + 1]? = some x) : unGo o (v.drop q) = unGo (o ++ [x]) (v.drop (q + 2)) := by
  have hq := lt_of_get hc
  have hq2 := lt_of_get hx
  rw [List.getElem?_eq_getElem hq] at hc
  rw [List.getElem?_eq_getElem hq2] at hx
  rw [List.drop_eq_getElem_cons hq, Option.some.inj hc, List.drop_eq_getElem_cons hq2, Option.some.inj hx, unGo.eq_def]
  simp
theorem unGo_esc0 {v : List UInt8} {q : Nat} (o : List UInt8) (hc : v[q]? = some 92) (hl : q + 1 = v.length) : unGo o (v.drop q) = (o, none) := by
  have hq := lt_of_get hc
  rw [List.getElem?_eq_getElem hq] at hc
  rw [List.drop_eq_getElem_cons hq, Option.some.inj hc, List.drop_eq_nil_of_le (by omega), unGo.eq_def]
  simp
theorem unGo_one {v : List UInt8} {q : Nat} {c : UInt8} (o : List UInt8) (hc : v[q]? = some c) (h1 : c ≠ 34) (h2 : c ≠ 92) : unGo o (v.drop q) = unGo (o ++ [c]) (v.drop (q + 1)) := by
  have hq := lt_of_get hc
  rw [List.getElem?_eq_getElem hq] at hc
  rw [List.drop_eq_getElem_cons hq, Option.some.inj hc, unGo.eq_def]
  simp [h1, h2]
theorem unGo_end {v : List UInt8} {q : Nat} (o : List UInt8) (h : v.length ≤ q) : unGo o (v.drop q) = (o, none) := by
  rw [List.drop_eq_nil_of_le h, unGo.eq_def]
theorem partV_none {l : List UInt8} (h : cutAt 61 l = none) : (partV l).2.2 = false := by
  unfold partV
  rw [h]
theorem partV_atom {l a b : List UInt8} (h : cutAt 61 l = some (a, b)) (ha : atomB (trimB a) = false) : (partV l).2.2 = false := by
  unfold partV
  rw [h]
  dsimp only
  split <;> simp [ha]
theorem partV_simple {l a b : List UInt8} (h : cutAt 61 l = some (a, b)) (ha : atomB (trimB a) = true) (hv : onlyB loc' (trimB b) = true) : partV l = ((trimB a).map small, trimB b, true) := by
  unfold partV
  rw [h]
  dsimp only
  rw [quoP_loose hv, ha, hv]
  rfl
theorem partV_bad {l a b : List UInt8} (h : cutAt 61 l = some (a, b)) (hv : onlyB loc' (trimB b) = false) (hh : (trimB b).head? ≠ some 34) : (partV l).2.2 = false := by
  unfold partV
  rw [h]
  dsimp only
  rw [quoP_head hh, hv]
  rfl
theorem partV_quo {l a b : List UInt8} (h : cutAt 61 l = some (a, b)) (ha : atomB (trimB a) = true) (hv : onlyB loc' (trimB b) = false) (hh : (trimB b).head? = some 34) :
    (∀ o, unGo [] ((trimB b).drop 1) = (o, some []) → partV l = ((trimB a).map small, o, valB o)) ∧ (∀ o r, unGo [] ((trimB b).drop 1) = (o, r) → r ≠ some [] → (partV l).2.2 = false) := by
  have hq := quoP_unGo hh
  refine ⟨fun o hu => ?_, fun o r hu hr => ?_⟩
  · rw [hu] at hq
    simp only at hq
    unfold partV
    rw [h]
    dsimp only
    rw [hq, ha]
    simp
  · rw [hu] at hq
    have hq2 : quoP (trimB b) = none := by
      rw [hq]
      rcases r with _ | _ | ⟨x, r⟩
      · rfl
      · exact absurd rfl hr
      · rfl
    unfold partV
    rw [h]
    dsimp only
    rw [hq2, hv]
    rfl

/-- what part hands back -/
def PartOut (l : List UInt8) (e : Ending) : Prop :=
  ∃ x y : List UInt8, e = .returned (.tuple #[.agg #[.string (bs x), .string (bs y)], .bool (partV l).2.2]) ∧ ((partV l).2.2 = true → x = (partV l).1 ∧ y = (partV l).2.1)
theorem partOut_no {l : List UInt8} (x y : List UInt8) (h : (partV l).2.2 = false) {e : Ending} (he : e = .returned (.tuple #[.agg #[.string (bs x), .string (bs y)], .bool false])) : PartOut l e :=
  ⟨x, y, by rw [h]; exact he, fun k => by rw [h] at k; cases k⟩

/-- the worlds of part's last line -/
def PartW (g : Nat) (wQ : World) (A : Option Addr) (k ca : Nat) (o : List UInt8) (cs : List Value) (W : World) : Prop :=
  Below g wQ W ∧ W.ownsRow (g + 1) 5 1 (.slice A k ca) k (o.map bv) ∧ Row W g 25 cs
section
variable {g k ca : Nat} {wQ W W' : World} {A : Option Addr} {o : List UInt8} {cs : List Value}
theorem PartW.conv (h : PartW g wQ A k ca o cs W) : (convert 58 9 (.slice A k ca)).run Tryz.prog W = .ok (.string (bs o)) W := by
  obtain ⟨A', ca', he, _, _, hRb, hol⟩ := own_slice h.2.1
  cases he
  exact conv_str (P := Tryz.prog) (src := 58) (dst := 9) (c := ca) (n := k) Tryz.underlying58 Tryz.underlying5 Tryz.underlying9 hRb hol
theorem PartW.below (h : PartW g wQ A k ca o cs W) (hb : Below W.heap.size W W') : PartW g wQ A k ca o cs W' := ⟨h.1.trans (hb.mono (Nat.le_of_lt h.2.2.lt)), own_below h.2.1 hb, h.2.2.below hb⟩
theorem PartW.drew (h : PartW g wQ A k ca o cs W) : PartW g wQ A k ca o cs W.drew := h.below (Below.refl _ _).drew
theorem PartW.bel (h : PartW g wQ A k ca o cs W) : Below g wQ W := h.1
theorem PartW.far (h : PartW g wQ A k ca o cs W) : (Value.slice A k ca).ownBlock ≠ some g := fun e => by
  have := (h.2.1.lt _ e).1
  omega
theorem PartW.set0 {a b : Value} (h : PartW g wQ A k ca o [a, b] W) (x : Value) : PartW g wQ A k ca o [x, b] (W.setCell ⟨g, 0, none⟩ x) := ⟨h.1.setCell (Nat.le_refl _) _, own_sc h.2.1 h.far 0 x, h.2.2.set 0 x⟩
theorem PartW.set1 {a b : Value} (h : PartW g wQ A k ca o [a, b] W) (x : Value) : PartW g wQ A k ca o [a, x] (W.setCell ⟨g, 1, none⟩ x) := ⟨h.1.setCell (Nat.le_refl _) _, own_sc h.2.1 h.far 1 x, h.2.2.set 1 x⟩
theorem PartW.cells {a b : Value} (h : PartW g wQ A k ca o [a, b] W) : W.cell? ⟨g, 0, none⟩ = some a ∧ W.cell? ⟨g, 1, none⟩ = some b ∧ W.frozen? ⟨g, 0, none⟩ = false ∧ W.frozen? ⟨g, 1, none⟩ = false :=
  ⟨h.2.2.cell rfl, h.2.2.cell rfl, h.2.2.frozen 0, h.2.2.frozen 1⟩
theorem part_ret {X Y r : Value} {ts : Array Value} {Post : Ending → World → Prop} (h : PartW g wQ A k ca o [X, Y] W) (h2 : ts.getD 2 undef = .pointer (some ⟨g, 0, none⟩)) (h3 : ts.getD 3 undef = r) (hp : Post (.returned (.tuple #[.agg #[X, Y], r])) W) :
    bodyPost Tryz.prog (Tryz.f29) Post Exit.ret { tmps := ts, defers := [] } W := by
  obtain ⟨z0, z1, _, _⟩ := h.cells
  refine bodyPost_ret (v := .tuple #[.agg #[X, Y], r]) ?_ rfl hp
  rw [results_cell_tmp rfl]
  simp only [h2, h3]
  go_simp
end

set_option maxRecDepth 100000 in
set_option maxHeartbeats 4000000 in
theorem rpart_any (l : List UInt8) (w : World) (hl : l.length ≤ 1000000) :
    Calls Tryz.prog 29 #[.string (bs l)] w fun e w' => PartOut l e ∧ Below w.heap.size w w' := by
  have hpu : ∀ W, Sem.run Tryz.prog (pure #[] : Sem (Array Value)) W = .ok #[] W := fun _ => rfl
  have hst : ∀ a W, Sem.run Tryz.prog (storeCells a []) W = .ok () W := fun _ _ => rfl
  have hPb : Below w.heap.size w (w.alloc (.cells #[.string ⟨#[]⟩, .string ⟨#[]⟩] 25)) := (Below.refl _ _).alloc (Nat.le_refl _) _
  have hPr : Row (w.alloc (.cells #[.string ⟨#[]⟩, .string ⟨#[]⟩] 25)) w.heap.size 25 [.string ⟨#[]⟩, .string ⟨#[]⟩] := Row.new w _ _
  have hPs : (w.alloc (.cells #[.string ⟨#[]⟩, .string ⟨#[]⟩] 25)).heap.size = w.heap.size + 1 := by simp
  obtain ⟨g, hg⟩ : ∃ g, w.heap.size = g := ⟨_, rfl⟩
  rw [hg] at hPb hPr hPs
  go_enter Tryz.func29, Tryz.ntmps29
  go_wp2_with fail
  obtain ⟨wP, hwP⟩ : ∃ wP, w.alloc (.cells #[.string ⟨#[]⟩, .string ⟨#[]⟩] 25) = wP := ⟨_, rfl⟩
  rw [hwP] at hPb hPr hPs ⊢
  have HG := Lib.hid hg
  clear hwP hg
  have g0 := hPr.cell (j := 0) rfl
  have g1 := hPr.cell (j := 1) rfl
  have f0 := hPr.frozen 0
  have f1 := hPr.frozen 1
  have hgl : g < wP.heap.size := by omega
  have hfin : ∀ (W : World) (x y : Value), g < W.heap.size → ((W.setCell ⟨g, 0, none⟩ x).setCell ⟨g, 1, none⟩ y).heap.size = W.heap.size := fun W x y _ => by simp
  go_loopw [4] (fun i wr => ∃ q : Nat, i = .int .i64 q ∧ q ≤ l.length ∧ Hid ((l.take q).all (fun c => c != 61) = true) ∧ wr = wP) (fun i _ => l.length - (intOf i).toNat)
  case atStart => exact ⟨0, rfl, by omega, Lib.hid (by simp), rfl⟩
  case round =>
    obtain ⟨q, rfl, hq, ha, rfl⟩ := hrel
    by_cases hlt : q < l.length
    · obtain ⟨c, hc⟩ : ∃ c, l[q]? = some c := ⟨_, List.getElem?_eq_getElem hlt⟩
      have hi := str_index (P := Tryz.prog) Tryz.underlying9 hc .i64
      by_cases h : c = 61
      · have hcut := cut_here ha.out (by rw [hc, h])
        have hne : ((c.toNat : Int) != 61) = false := by rw [h]; rfl
        have h0 : (q : Int) + 1 ≤ (l.length : Int) := by omega
        have h4 : (l.drop (q + 1)).take (l.length - (q + 1)) = l.drop (q + 1) := List.take_of_length_le (by simp)
        have hta := fun W => rtrim_any (l.take q) W (by simp; omega)
        have htb := fun W => rtrim_any (l.drop (q + 1)) W (by simp; omega)
        have hna := trimB_len (l.take q)
        have hvb := trimB_len (l.drop (q + 1))
        have hP1 := @partV_atom l _ _ hcut
        have hP2 := @partV_simple l _ _ hcut
        have hP3 := @partV_bad l _ _ hcut
        have hP4 := @partV_quo l _ _ hcut
        rw [List.length_take] at hna
        rw [List.length_drop] at hvb
        obtain ⟨na, hnae⟩ : ∃ na, trimB (l.take q) = na := ⟨_, rfl⟩
        obtain ⟨v, hve⟩ : ∃ v, trimB (l.drop (q + 1)) = v := ⟨_, rfl⟩
        rw [hnae] at hta hna hP1 hP2 hP4
        rw [hve] at htb hvb hP2 hP3 hP4
        have HP1 := Lib.hid hP1
        have HP2 := Lib.hid hP2
        have HP3 := Lib.hid hP3
        have HP4 := Lib.hid hP4
        have H4 := Lib.hid h4
        clear hcut h hc ha hnae hve hP1 hP2 hP3 hP4 h4
        go_wp2_with fail
        refine (hta _).mono ?_
        rintro e w' ⟨rfl, rfl⟩
        go_wp2_with fail
        (try rw [H4.out])
        refine (htb _).mono ?_
        rintro e w' ⟨rfl, rfl⟩
        have hat := fun W => ratom_any na W (by omega)
        have hsi := fun W => rsimple_any v W (by omega)
        have hlo := fun W => rlower_any na W (by omega)
        clear hta htb H4
        rcases Bool.eq_false_or_eq_true (atomB na) with h1 | h1
        · rw [h1] at hat
          rcases Bool.eq_false_or_eq_true (onlyB loc' v) with h2 | h2
          · rw [h2] at hsi
            have HP := Lib.hid (HP2.out h1 h2)
            clear HP1 HP2 HP3 HP4 h1 h2
            go_wp2_with fail
            refine (hat _).mono ?_
            rintro e w' ⟨rfl, rfl⟩
            go_wp2_with fail
            refine (hsi _).mono ?_
            rintro e w' ⟨rfl, rfl⟩
            go_wp2_with fail
            refine (hlo _).mono ?_
            rintro e w3 ⟨rfl, hb3⟩
            have hr3 := hPr.below hb3
            have k0 := hr3.cell (j := 0) rfl
            have k1 := hr3.cell (j := 1) rfl
            have kf0 := hr3.frozen 0
            have kf1 := hr3.frozen 1
            have kl := hr3.lt
            go_wp2_with fail
            have hrf := (hr3.set 0 (.string (bs (na.map small)))).set 1 (.string (bs v))
            have z0 := hrf.cell (j := 0) rfl
            have z1 := hrf.cell (j := 1) rfl
            refine bodyPost_ret (v := .tuple #[.agg #[.string (bs (na.map small)), .string (bs v)], .bool true]) ?_ rfl ⟨⟨_, _, by rw [HP.out], fun _ => by rw [HP.out]; exact ⟨rfl, rfl⟩⟩, ?_⟩
            · rw [results_cell_tmp rfl]
              go_simp
            · rw [HG.out]
              exact ((hPb.trans (hb3.mono (by omega))).setCell (Nat.le_refl _) _).setCell (Nat.le_refl _) _
          · rw [h2] at hsi
            have HP3' : (v.head? ≠ some 34) → Hid ((partV l).2.2 = false) := fun h => Lib.hid (HP3.out h2 h)
            have HP4' : (v.head? = some 34) → _ := fun h => Lib.hid (HP4.out h1 h2 h)
            clear HP1 HP2 HP3 HP4 h1 h2
            by_cases h3 : v.length < 2
            · have hnh : v.head? ≠ some 34 ∨ v = [34] := by
                rcases v with _ | ⟨x, _ | ⟨y, r⟩⟩
                · left; simp
                · by_cases hx : x = 34
                  · right; rw [hx]
                  · left; simpa using hx
                · simp at h3; omega
              have HP : Hid ((partV l).2.2 = false) := by
                rcases hnh with h | h
                · exact HP3' h
                · subst h
                  exact Lib.hid ((HP4' rfl).out.2 [] none (by rfl) (by simp))
              have h3i : (v.length : Int) < 2 := by omega
              clear HP3' HP4' hnh h3
              go_wp2_with fail
              refine (hat _).mono ?_
              rintro e w' ⟨rfl, rfl⟩
              go_wp2_with fail
              refine (hsi _).mono ?_
              rintro e w' ⟨rfl, rfl⟩
              go_wp2_with fail
              have hrf := (hPr.set 0 (.string ⟨#[]⟩)).set 1 (.string ⟨#[]⟩)
              have z0 := hrf.cell (j := 0) rfl
              have z1 := hrf.cell (j := 1) rfl
              refine bodyPost_ret (v := .tuple #[.agg #[.string (bs []), .string (bs [])], .bool false]) ?_ rfl ⟨partOut_no _ _ HP.out rfl, ?_⟩
              · rw [results_cell_tmp rfl]
                go_simp
                (try rfl)
              · rw [HG.out]
                exact (hPb.setCell (Nat.le_refl _) _).setCell (Nat.le_refl _) _
            · obtain ⟨x0, hx0⟩ : ∃ x, v[0]? = some x := ⟨_, List.getElem?_eq_getElem (by omega)⟩
              have hx0h : v.head? = some x0 := by rw [List.head?_eq_getElem?]; exact hx0
              have hi0 : ∀ W, (Instr.index 9 (.string (bs v)) (.int .i64 0)).run Tryz.prog W = .ok (.int .u8 (x0.toNat : Int)) W := fun W => str_index (P := Tryz.prog) Tryz.underlying9 hx0 .i64 W
              have h3i : ¬ (v.length : Int) < 2 := by omega
              by_cases h4 : x0 = 34
              · have hne0 : ((x0.toNat : Int) != 34) = false := by rw [h4]; rfl
                have HP4 := HP4' (by rw [hx0h, h4])
                clear HP3' HP4' h4 hx0h hx0
                go_wp2_with fail
                refine (hat _).mono ?_
                rintro e w' ⟨rfl, rfl⟩
                go_wp2_with fail
                refine (hsi _).mono ?_
                rintro e wQ ⟨rfl, rfl⟩
                have hown0 := World.ownsRow_made (base := wQ.heap.size) (e := 5) (size := 1) wQ #[] 0 (Nat.le_refl _) (by unfold maxLen; omega) rfl
                have hB0 : Below wQ.heap.size wQ (wQ.alloc (.cells #[] 5)) := (Below.refl _ _).alloc (Nat.le_refl _) _
                go_wp2_with fail
                clear hpu hst hat hsi
                rw [hPs] at hown0 hB0
                have hl2 : 2 ≤ v.length := by omega
                have hvl : v.length ≤ 1000000 := by omega
                have hwr : IntKind.i64.wrap ((v.length : Int) - 1) = (v.length : Int) - 1 := by rw [IntKind.wrap_i64]; omega
                obtain ⟨U, hU⟩ : ∃ U, unGo [] (v.drop 1) = U := ⟨_, rfl⟩
                have HU := Lib.hid hU
                rw [hU] at HP4
                generalize decide ((v.length : Int) < 2) = d2
                clear hi hi0 hU h3i h3 hfin
                go_loopw [7, 8] (fun x i wr => ∃ (p k : Nat) (o : List UInt8), i = .int .i64 p ∧ 1 ≤ p ∧ p ≤ v.length + 1 ∧ k ≤ p ∧ wr.ownsRow (g + 1) 5 1 x k (o.map bv) ∧ Hid (unGo o (v.drop p) = U) ∧ Below (g + 1) wQ wr) (fun _ i _ => v.length + 1 - (intOf i).toNat)
                case atStart => exact ⟨1, 0, [], rfl, Nat.le_refl _, by omega, by omega, hown0, HU, hB0⟩
                case round =>
                  clear hown0 hB0 HU
                  obtain ⟨p, k, o, rfl, hp1, hp, hkp, hown, hun, hB⟩ := hrel
                  have hs1 : g + 1 ≤ wr.heap.size := by have := hB.size; omega
                  by_cases hpl : p < v.length
                  · obtain ⟨c, hc⟩ : ∃ c, v[p]? = some c := ⟨_, List.getElem?_eq_getElem hpl⟩
                    have hi := str_index (P := Tryz.prog) Tryz.underlying9 hc .i64
                    by_cases h34 : c = 34
                    · subst h34
                      have hu := hun.out
                      rw [unGo_stop o hc] at hu
                      have hi34 : ∀ W, (Instr.index 9 (.string (bs v)) (.int .i64 (p : Int))).run Tryz.prog W = .ok (.int .u8 34) W := hi
                      clear hi
                      by_cases hpe : p + 1 = v.length
                      · have hr1 : v.drop (p + 1) = [] := List.drop_eq_nil_of_le (by omega)
                        rw [hr1] at hu
                        have hpv := HP4.out.1 o hu.symm
                        obtain ⟨A, ca, rfl, _, _, _, hol⟩ := own_slice hown
                        have hW0 : PartW g wQ A k ca o [.string ⟨#[]⟩, .string ⟨#[]⟩] wr := ⟨hB.mono (by omega), hown, hPr.below (hB.mono (by omega))⟩
                        have hW0d := hW0.drew
                        obtain ⟨r0, r1, rf0, rf1⟩ := hW0d.cells
                        have hcv : ∀ cs W, PartW g wQ A k ca o cs W → (convert 58 9 (.slice A k ca)).run Tryz.prog W = .ok (.string (bs o)) W := fun _ _ h => h.conv
                        have hloW : ∀ cs W, PartW g wQ A k ca o cs W → Calls Tryz.prog 30 #[.string (bs na)] W fun e w' => e = .returned (.string (bs (na.map small))) ∧ PartW g wQ A k ca o cs w' := fun cs W h => (hlo W).mono fun e w' r => ⟨r.1, h.below r.2⟩
                        obtain ⟨lna, hlna⟩ : ∃ x, na.map small = x := ⟨_, rfl⟩
                        rw [hlna] at hloW hpv
                        have hva := fun W => rvalue_any o W (by omega)
                        have hvaW : ∀ cs W, PartW g wQ A k ca o cs W → Calls Tryz.prog 35 #[.string (bs o)] W fun e w' => e = .returned (.bool (valB o)) ∧ PartW g wQ A k ca o cs w' := fun cs W h => (hva W).mono fun e w' r => ⟨r.1, h.below (r.2.below _)⟩
                        have HP := Lib.hid hpv
                        have HCV := Lib.hid hcv
                        have hpi : ((p : Int) == (v.length : Int) - 1) = true := by rw [beq_iff_eq]; omega
                        obtain ⟨vb, hvb⟩ : ∃ b, valB o = b := ⟨_, rfl⟩
                        rw [hvb] at hvaW HP
                        clear hpv hcv hlo hlna hva hr1 hu hun hc HP4 hown hB hW0 hkp hp1 hp hs1 hPr hPs g0 g1 f0 f1 hgl hol hna hvb hl hlt hq h0
                        go_wp2_with fail
                        go_region_held_law (fun w' => (convert 58 9 (.slice A k ca)).run Tryz.prog w' = .ok (.string (bs o)) w') (exact HCV.out _ _ (by repeat (first | with_reducible assumption | with_reducible apply PartW.set1 | with_reducible apply PartW.set0 | with_reducible apply PartW.drew))) (first | (go_at_call 30; (with_reducible refine (hloW _ _ (by repeat (first | with_reducible assumption | with_reducible apply PartW.set1 | with_reducible apply PartW.set0 | with_reducible apply PartW.drew))).mono ?_); rintro e x1 ⟨rfl, hx1⟩; obtain ⟨m0, m1, mf0, mf1⟩ := hx1.cells) | (go_at_call 35; (with_reducible refine (hvaW _ _ (by repeat (first | with_reducible assumption | with_reducible apply PartW.set1 | with_reducible apply PartW.set0 | with_reducible apply PartW.drew))).mono ?_); rintro e x2 ⟨rfl, hx2⟩; obtain ⟨n0, n1, nf0, nf1⟩ := hx2.cells))
                        all_goals
                          go_wp2_with fail
                          refine part_ret (g := g) (wQ := wQ) (A := A) (k := k) (ca := ca) (o := o) (X := .string (bs lna)) (Y := .string (bs o)) (r := .bool vb) (by repeat (first | with_reducible assumption | with_reducible apply PartW.set1 | with_reducible apply PartW.set0 | with_reducible apply PartW.drew)) rfl rfl ⟨⟨lna, o, by rw [HP.out], fun _ => by rw [HP.out]; exact ⟨rfl, rfl⟩⟩, ?_⟩
                          rw [HG.out]
                          refine hPb.trans (PartW.bel (A := A) (k := k) (ca := ca) (o := o) (cs := [.string (bs lna), .string (bs o)]) ?_)
                          repeat (first | with_reducible assumption | with_reducible apply PartW.set1 | with_reducible apply PartW.set0 | with_reducible apply PartW.drew)
                      · have HP := Lib.hid (HP4.out.2 o _ hu.symm (fun e => by have := congrArg (fun r => r.map List.length) e; simp at this; omega))
                        obtain ⟨A, ca, rfl, _, _, _, hol⟩ := own_slice hown
                        have hW0 : PartW g wQ A k ca o [.string ⟨#[]⟩, .string ⟨#[]⟩] wr := ⟨hB.mono (by omega), hown, hPr.below (hB.mono (by omega))⟩
                        have hW0d := hW0.drew
                        obtain ⟨r0, r1, rf0, rf1⟩ := hW0d.cells
                        have hcv : ∀ cs W, PartW g wQ A k ca o cs W → (convert 58 9 (.slice A k ca)).run Tryz.prog W = .ok (.string (bs o)) W := fun _ _ h => h.conv
                        have hloW : ∀ cs W, PartW g wQ A k ca o cs W → Calls Tryz.prog 30 #[.string (bs na)] W fun e w' => e = .returned (.string (bs (na.map small))) ∧ PartW g wQ A k ca o cs w' := fun cs W h => (hlo W).mono fun e w' r => ⟨r.1, h.below r.2⟩
                        obtain ⟨lna, hlna⟩ : ∃ x, na.map small = x := ⟨_, rfl⟩
                        rw [hlna] at hloW
                        have HCV := Lib.hid hcv
                        have hpi : ((p : Int) == (v.length : Int) - 1) = false := by rw [beq_eq_false_iff_ne]; omega
                        clear hcv hlo hlna hu hun HP4 hown hB hW0 hkp hp1 hp hs1 hPr hPs g0 g1 f0 f1 hgl hol hna hvb hl hlt hq h0
                        go_wp2_with fail
                        first
                        | (go_region_held_law (fun w' => (convert 58 9 (.slice A k ca)).run Tryz.prog w' = .ok (.string (bs o)) w') (exact HCV.out _ _ (by repeat (first | with_reducible assumption | with_reducible apply PartW.set1 | with_reducible apply PartW.set0 | with_reducible apply PartW.drew))) (first | (go_at_call 30; (with_reducible refine (hloW _ _ (by repeat (first | with_reducible assumption | with_reducible apply PartW.set1 | with_reducible apply PartW.set0 | with_reducible apply PartW.drew))).mono ?_); rintro e x1 ⟨rfl, hx1⟩; obtain ⟨m0, m1, mf0, mf1⟩ := hx1.cells)))
                        | fail
                        all_goals
                          go_wp2_with fail
                          refine part_ret (g := g) (wQ := wQ) (A := A) (k := k) (ca := ca) (o := o) (X := .string (bs lna)) (Y := .string (bs o)) (r := .bool false) (by repeat (first | with_reducible assumption | with_reducible apply PartW.set1 | with_reducible apply PartW.set0 | with_reducible apply PartW.drew)) rfl rfl ⟨partOut_no lna o HP.out rfl, ?_⟩
                          rw [HG.out]
                          refine hPb.trans (PartW.bel (A := A) (k := k) (ca := ca) (o := o) (cs := [.string (bs lna), .string (bs o)]) ?_)
                          repeat (first | with_reducible assumption | with_reducible apply PartW.set1 | with_reducible apply PartW.set0 | with_reducible apply PartW.drew)
                    · have hne34 : ((c.toNat : Int) != 34) = true := u8_ne h34
                      by_cases h92 : c = 92
                      · subst h92
                        by_cases hpe : p + 1 = v.length
                        · have hu := hun.out
                          rw [unGo_esc0 o hc hpe] at hu
                          have HN := Lib.hid (show unGo o (v.drop (p + 1 + 1)) = U by rw [unGo_end o (by omega), hu])
                          clear hun hu hc h34 hl2
                          go_wp2_with fail
                          go_roundw
                          case rel => exact ⟨p + 1 + 1, k, o, by go_num, by omega, by omega, by omega, hown, HN, hB⟩
                          case measure => simp [intOf]; omega
                        · obtain ⟨x, hx⟩ : ∃ x, v[p + 1]? = some x := ⟨_, List.getElem?_eq_getElem (by omega)⟩
                          have hix : ∀ W, (Instr.index 9 (.string (bs v)) (.int .i64 ((p : Int) + 1))).run Tryz.prog W = .ok (.int .u8 (x.toNat : Int)) W := fun W => str_index (P := Tryz.prog) Tryz.underlying9 hx .i64 W
                          have HN := Lib.hid (show unGo (o ++ [x]) (v.drop (p + 1 + 1)) = U by rw [← hun.out, unGo_esc o hc hx])
                          have hlx : p + 1 < v.length := by omega
                          clear hun hc hx h34 hl2
                          go_wp2_with (at_builtin; refine wpList_app rfl (.tmp 75) (.tmp 79) _ _ rfl TU8 (hown.alloc (.cells #[bv x] 5)) rfl (Src_rv (news := [bv x]) Tryz.underlying58 rfl (Rv_new wr _ _ _ rfl) (by simp [Value.oneCell', bv]) (by omega)) rfl (by omega) (by simp; omega) ?_; intro v1 y1 own1 gr1 at1; have bb1 := below_app (hB.alloc hs1 (.cells #[bv x] 5)) (hown.alloc _) gr1 (by simp; omega) (Nat.le_refl _); have bb1s := bb1.size)
                          go_roundw
                          case rel => exact ⟨p + 1 + 1, k + 1, o ++ [x], by go_num, by omega, by omega, by omega, by rw [List.map_append]; exact own1, HN, bb1⟩
                          case measure => simp [intOf]; omega
                      · have hne92 : ((c.toNat : Int) == 92) = false := by have := u8_ne h92; simpa using this
                        have HN := Lib.hid (show unGo (o ++ [c]) (v.drop (p + 1)) = U by rw [← hun.out, unGo_one o hc h34 h92])
                        clear hun hc h34 h92 hl2
                        go_wp2_with (at_builtin; refine wpList_app rfl (.tmp 75) (.tmp 79) _ _ rfl TU8 (hown.alloc (.cells #[bv c] 5)) rfl (Src_rv (news := [bv c]) Tryz.underlying58 rfl (Rv_new wr _ _ _ rfl) (by simp [Value.oneCell', bv]) (by omega)) rfl (by omega) (by simp; omega) ?_; intro v1 y1 own1 gr1 at1; have bb1 := below_app (hB.alloc hs1 (.cells #[bv c] 5)) (hown.alloc _) gr1 (by simp; omega) (Nat.le_refl _); have bb1s := bb1.size)
                        go_roundw
                        case rel => exact ⟨p + 1, k + 1, o ++ [c], by go_num, by omega, by omega, by omega, by rw [List.map_append]; exact own1, HN, bb1⟩
                        case measure => simp [intOf]; omega
                  · have hu := hun.out
                    rw [unGo_end o (by omega)] at hu
                    have HP := Lib.hid (HP4.out.2 o _ hu.symm (by simp))
                    obtain ⟨A, ca, rfl, _, _, _, hol⟩ := own_slice hown
                    have hW0 : PartW g wQ A k ca o [.string ⟨#[]⟩, .string ⟨#[]⟩] wr := ⟨hB.mono (by omega), hown, hPr.below (hB.mono (by omega))⟩
                    have hW0d := hW0.drew
                    obtain ⟨r0, r1, rf0, rf1⟩ := hW0d.cells
                    have hcv : ∀ cs W, PartW g wQ A k ca o cs W → (convert 58 9 (.slice A k ca)).run Tryz.prog W = .ok (.string (bs o)) W := fun _ _ h => h.conv
                    have hloW : ∀ cs W, PartW g wQ A k ca o cs W → Calls Tryz.prog 30 #[.string (bs na)] W fun e w' => e = .returned (.string (bs (na.map small))) ∧ PartW g wQ A k ca o cs w' := fun cs W h => (hlo W).mono fun e w' r => ⟨r.1, h.below r.2⟩
                    obtain ⟨lna, hlna⟩ : ∃ x, na.map small = x := ⟨_, rfl⟩
                    rw [hlna] at hloW
                    have HCV := Lib.hid hcv
                    have hpi : ((p : Int) == (v.length : Int) - 1) = false := by rw [beq_eq_false_iff_ne]; omega
                    clear hcv hlo hlna hu hun HP4 hown hB hW0 hkp hp1 hp hs1 hPr hPs g0 g1 f0 f1 hgl hol hna hvb hl hlt hq h0
                    go_wp2_with fail
                    first
                    | (go_region_held_law (fun w' => (convert 58 9 (.slice A k ca)).run Tryz.prog w' = .ok (.string (bs o)) w') (exact HCV.out _ _ (by repeat (first | with_reducible assumption | with_reducible apply PartW.set1 | with_reducible apply PartW.set0 | with_reducible apply PartW.drew))) (first | (go_at_call 30; (with_reducible refine (hloW _ _ (by repeat (first | with_reducible assumption | with_reducible apply PartW.set1 | with_reducible apply PartW.set0 | with_reducible apply PartW.drew))).mono ?_); rintro e x1 ⟨rfl, hx1⟩; obtain ⟨m0, m1, mf0, mf1⟩ := hx1.cells)))
                    | fail
                    all_goals
                      go_wp2_with fail
                      refine part_ret (g := g) (wQ := wQ) (A := A) (k := k) (ca := ca) (o := o) (X := .string (bs lna)) (Y := .string (bs o)) (r := .bool false) (by repeat (first | with_reducible assumption | with_reducible apply PartW.set1 | with_reducible apply PartW.set0 | with_reducible apply PartW.drew)) rfl rfl ⟨partOut_no lna o HP.out rfl, ?_⟩
                      rw [HG.out]
                      refine hPb.trans (PartW.bel (A := A) (k := k) (ca := ca) (o := o) (cs := [.string (bs lna), .string (bs o)]) ?_)
                      repeat (first | with_reducible assumption | with_reducible apply PartW.set1 | with_reducible apply PartW.set0 | with_reducible apply PartW.drew)
              · have hne0 : ((x0.toNat : Int) != 34) = true := u8_ne h4
                have HP := HP3' (by rw [hx0h]; simpa using h4)
                clear HP3' HP4' h4 hx0h hx0
                go_wp2_with fail
                refine (hat _).mono ?_
                rintro e w' ⟨rfl, rfl⟩
                go_wp2_with fail
                refine (hsi _).mono ?_
                rintro e w' ⟨rfl, rfl⟩
                go_wp2_with fail
                have hrf := (hPr.set 0 (.string ⟨#[]⟩)).set 1 (.string ⟨#[]⟩)
                have z0 := hrf.cell (j := 0) rfl
                have z1 := hrf.cell (j := 1) rfl
                refine bodyPost_ret (v := .tuple #[.agg #[.string (bs []), .string (bs [])], .bool false]) ?_ rfl ⟨partOut_no _ _ HP.out rfl, ?_⟩
                · rw [results_cell_tmp rfl]
                  go_simp
                  (try rfl)
                · rw [HG.out]
                  exact (hPb.setCell (Nat.le_refl _) _).setCell (Nat.le_refl _) _
        · rw [h1] at hat
          have HP := Lib.hid (HP1.out h1)
          clear HP1 HP2 HP3 HP4 h1
          go_wp2_with fail
          refine (hat _).mono ?_
          rintro e w' ⟨rfl, rfl⟩
          go_wp2_with fail
          have hrf := (hPr.set 0 (.string ⟨#[]⟩)).set 1 (.string ⟨#[]⟩)
          have z0 := hrf.cell (j := 0) rfl
          have z1 := hrf.cell (j := 1) rfl
          refine bodyPost_ret (v := .tuple #[.agg #[.string (bs []), .string (bs [])], .bool false]) ?_ rfl ⟨partOut_no _ _ HP.out rfl, ?_⟩
          · rw [results_cell_tmp rfl]
            go_simp
            (try rfl)
          · rw [HG.out]
            exact (hPb.setCell (Nat.le_refl _) _).setCell (Nat.le_refl _) _
      · have hne : ((c.toNat : Int) != 61) = true := u8_ne h
        have HST := Lib.hid (show (l.take (q + 1)).all (fun c => c != 61) = true by rw [all_take _ _ hc, ha.out]; simp [h])
        clear h hc ha
        go_wp2_with fail
        go_roundw
        case rel => exact ⟨q + 1, by go_num, by omega, HST, by first | rfl | trivial⟩
        case measure => simp [intOf]; omega
    · obtain rfl : q = l.length := by omega
      have hno := ha.out
      rw [List.take_length] at hno
      have HP := Lib.hid (partV_none (cut_no hno))
      clear hno ha
      go_wp2_with fail
      have hrf := (hPr.set 0 (.string ⟨#[]⟩)).set 1 (.string ⟨#[]⟩)
      have z0 := hrf.cell (j := 0) rfl
      have z1 := hrf.cell (j := 1) rfl
      refine bodyPost_ret (v := .tuple #[.agg #[.string (bs []), .string (bs [])], .bool false]) ?_ rfl ⟨partOut_no _ _ HP.out rfl, ?_⟩
      · rw [results_cell_tmp rfl]
        go_simp
        (try rfl)
      · rw [HG.out]
        exact (hPb.setCell (Nat.le_refl _) _).setCell (Nat.le_refl _) _
end Go.Proofs.YtnmkapaphbaomaaGreatDoor
