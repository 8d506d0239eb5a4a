/- letter's Set. -/
import Derived.Test.YtgohdohkikkeeaaDoorV5
import Derived.Test.YtgohdohkikkeeaaDoorSl
import Derived.Deep.RegionLaw
namespace Go.Proofs.YtgohdohkikkeeaaDoor
set_option linter.unusedVariables false
set_option linter.unusedSimpArgs false
open Go.RowKit

theorem cell_al {w : World} {p : Addr} {v : Value} (o : Obj) (h : w.cell? p = some v) : (w.alloc o).cell? p = some v := by
  have hlt : p.block < w.heap.size := by
    rcases Nat.lt_or_ge p.block w.heap.size with h' | h'
    · exact h'
    · simp [World.cell?, Array.getElem?_eq_none h'] at h
  rw [← h]
  simp only [World.cell?, World.alloc, Array.getElem?_push, Nat.ne_of_lt hlt, if_false]
theorem cs_drop (fs : List (List UInt8 × List UInt8)) (i : Nat) : (fcells fs).drop (i * 2) = fcells (fs.drop i) := by
  induction fs generalizing i with
  | nil => simp [fcells]
  | cons p fs ih =>
    match i with
    | 0 => rfl
    | i + 1 =>
      have e : fcells (p :: fs) = strv p.1 :: strv p.2 :: fcells fs := rfl
      rw [e, show (i + 1) * 2 = i * 2 + 1 + 1 by omega, List.drop_succ_cons, List.drop_succ_cons, ih, List.drop_succ_cons]
theorem row2 (w : World) (X Y : Array Value) (e : TypeId) : Row ((w.alloc (.cells X e)).alloc (.cells Y e)) (w.heap.size + 1) e Y.toList := by
  have := Row.new (w.alloc (.cells X e)) Y e
  simpa using this
theorem cell_dr {w : World} {p : Addr} {v : Value} (h : w.cell? p = some v) : w.drew.cell? p = some v := h
theorem cell_sc {w : World} {a p : Addr} {u v : Value} (h : w.cell? p = some v) (ha : a.block ≠ p.block) : (w.setCell a u).cell? p = some v := by
  rw [World.cell?_setCell_other _ _ _ _ (fun e => ha (by rw [e]))]
  exact h
theorem row_new2 (w : World) (x y : Value) (e : TypeId) : Row (w.alloc (.cells #[x, y] e)) w.heap.size e [x, y] := Row.new w #[x, y] e
theorem row_two2 (w : World) (o : Obj) (x y : Value) (e : TypeId) : Row ((w.alloc o).alloc (.cells #[x, y] e)) (w.heap.size + 1) e [x, y] := by
  have := Row.new (w.alloc o) #[x, y] e
  simpa using this
theorem cell_grown {w w' : World} {row : Option Nat} {p : Addr} {v : Value} (hg : w.grownBy w' row) (hc : w.cell? p = some v) (hs : p.spot = none) (hne : row ≠ some p.block) : w'.cell? p = some v := by
  obtain ⟨b, o, s⟩ := p
  simp only at hs
  subst hs
  exact (World.cell?_of_block (w := w) (hg.block b (cell_lt hc) (fun e => hne e.symm))).trans hc
theorem row_grown {w w' : World} {row : Option Nat} {g : Nat} {e : TypeId} {cs : List Value} (hg : w.grownBy w' row) (h : Row w g e cs) (hne : row ≠ some g) : Row w' g e cs := h.block (hg.block g h.lt (fun e => hne e.symm))
theorem own_ne {v v' : Value} {g k : Nat} (hat : v'.ownBlock = v.ownBlock ∨ v'.ownBlock = some k) (h1 : v.ownBlock ≠ some g) (h2 : k ≠ g) : v'.ownBlock ≠ some g := by
  rcases hat with h | h
  · rw [h]; exact h1
  · rw [h]; exact fun e => h2 (Option.some.inj e)
theorem row_sets {w : World} {g : Nat} {e : TypeId} {x0 y0 x y : Value} (h : Row w g e [x0, y0]) : Row ((w.setCell ⟨g, 0, none⟩ x).setCell ⟨g, 1, none⟩ y) g e [x, y] := (h.set 0 x).set 1 y
theorem row_far2 {w : World} {g g' : Nat} {e : TypeId} {cs : List Value} {x y : Value} (h : Row w g e cs) (hne : g' ≠ g) : Row ((w.setCell ⟨g', 0, none⟩ x).setCell ⟨g', 1, none⟩ y) g e cs := (h.far (a := ⟨g', 0, none⟩) hne x).far (a := ⟨g', 1, none⟩) hne y
theorem Rf_al {w : World} {A : Option Addr} {fs : List (List UInt8 × List UInt8)} (h : Rf w A fs) (o : Obj) : Rf (w.alloc o) A fs := h.below ((Below.refl _ w).alloc (Nat.le_refl _) o)
theorem Rf_far2 {w : World} {A : Option Addr} {fs : List (List UInt8 × List UInt8)} {g : Nat} {x y : Value} (h : Rf w A fs) (hne : ∀ b o, A = some ⟨b, o, none⟩ → g ≠ b) : Rf ((w.setCell ⟨g, 0, none⟩ x).setCell ⟨g, 1, none⟩ y) A fs := by
  intro hp
  obtain ⟨b, o, rfl, _⟩ := h hp
  have h1 := Rv.setFar h (p := ⟨g, 0, none⟩) (hne b o rfl) x
  exact Rv.setFar h1 (p := ⟨g, 1, none⟩) (hne b o rfl) y hp
/-- what Set answers -/
def SetOut (nm v : List UInt8) (fs : List (List UInt8 × List UInt8)) (bd : List UInt8) (w : World) (e : Ending) (w' : World) : Prop :=
  ∃ v1 v2, e = .returned (.agg #[v1, v2]) ∧ w'.ownsRow w.heap.size 28 2 v1 (setN nm v fs).length (fcells (setN nm v fs)) ∧ w'.ownsRow w.heap.size 5 1 v2 bd.length (bd.map bv) ∧ Below w.heap.size w w'
theorem own_ne2 {v v' D : Value} {N M : Nat} (hD : ∀ k, D.ownBlock = some k → k < N) (hat : v'.ownBlock = v.ownBlock ∨ v'.ownBlock = some M) (hM : N ≤ M) (h : D.ownBlock = none ∨ D.ownBlock ≠ v.ownBlock) : D.ownBlock = none ∨ D.ownBlock ≠ v'.ownBlock := by
  rcases h with h | h
  · exact .inl h
  · rcases hat with e | e
    · exact .inr (by rw [e]; exact h)
    · refine .inr fun x => ?_
      rw [e] at x
      have := hD _ x
      omega
theorem _root_.Go.World.ownsRow.below_own {w w' : World} {base e size n : Nat} {v : Value} {xs : List Value} (h : w.ownsRow base e size v n xs) (hb : Below w.heap.size w w') : w'.ownsRow base e size v n xs := own_below h hb
theorem set_end {fs : List (List UInt8 × List UInt8)} {bd nm v : List UInt8} {a k8 k6 n2 N1 g : Nat} {w w11 : World} {V D : Value} (hs : setN nm v fs = keepF nm (fs.take a) ++ (nm, v) :: keepF nm (fs.drop a)) (h8 : (keepF nm (fs.take a)).length = k8) (h6 : (keepF nm (fs.drop a)).length = k6) (h2 : bd.length = n2)
    (hB : Below w.heap.size w w11) (hN : w.heap.size ≤ N1) (hV : w11.ownsRow N1 28 2 V (k8 + 1 + k6) (fcells (keepF nm (fs.take a)) ++ [strv nm, strv v] ++ fcells (keepF nm (fs.drop a)))) (hD : w11.ownsRow N1 5 1 D n2 (bd.map bv))
    (n1 : V.ownBlock ≠ some g) (n2' : V.ownBlock ≠ some (w.heap.size + 1)) (m1 : D.ownBlock ≠ some g) (m2 : D.ownBlock ≠ some (w.heap.size + 1)) (hg : w.heap.size ≤ g) :
    SetOut nm v fs bd w (.returned (.agg #[V, D])) (((w11.setCell ⟨g, 0, none⟩ V).setCell ⟨w.heap.size + 1, 0, none⟩ V).setCell ⟨w.heap.size + 1, 1, none⟩ D) := by
  have g1 := grown_set w11 ⟨g, 0, none⟩ V
  have g2 := (grown_set (w11.setCell ⟨g, 0, none⟩ V) ⟨w.heap.size + 1, 0, none⟩ V).trans (grown_set _ ⟨w.heap.size + 1, 1, none⟩ D)
  refine ⟨V, D, rfl, ?_, ?_, ?_⟩
  · have e : fcells (setN nm v fs) = fcells (keepF nm (fs.take a)) ++ [strv nm, strv v] ++ fcells (keepF nm (fs.drop a)) := by
      rw [hs, fcells_app]
      simp [fcells]
    have l : (setN nm v fs).length = k8 + 1 + k6 := by rw [hs, List.length_append, List.length_cons, h8, h6]; omega
    rw [e, l]
    exact own_base (((hV.kept g1 (.inr n1))).kept g2 (.inr n2')) hN
  · rw [h2]
    exact own_base (((hD.kept g1 (.inr m1))).kept g2 (.inr m2)) hN
  · have h1 := hB.grown g1 hB.size (fun j hj => by have e : g = j := Option.some.inj hj; omega)
    exact h1.grown g2 h1.size (fun j hj => by have e : w.heap.size + 1 = j := Option.some.inj hj; omega)

set_option maxRecDepth 100000 in
set_option maxHeartbeats 12000000 in
theorem set_any (A A2 : Option Addr) (fs : List (List UInt8 × List UInt8)) (bd nm v : List UInt8) (n c n2 c2 : Nat) (w : World) (hn : fs.length = n) (hn2 : bd.length = n2) (hA : Rf w A fs) (hA2 : Rb w A2 bd) (hnc : n ≤ c)
    (hT : Lib.Utf8Tabs 1 2 w) (hnm : nm.length ≤ 1000000000) (hb : n ≤ 1000000) (hb2 : n2 ≤ 1000000000) :
    Calls Tryd.prog 23 #[.agg #[.slice A n c, .slice A2 n2 c2], .string (bs nm), .string (bs v)] w (SetOut nm v fs bd w) := by
  have HN := Lib.hid hn
  have HN2 := Lib.hid hn2
  have hal := ahead_le nm fs
  rw [hn] at hal
  have hpl : placeZ nm fs = if ahead nm fs < n then (ahead nm fs : Int) else -1 := by unfold placeZ; rw [hn]
  have hsetN : setN nm v fs = keepF nm (fs.take (ahead nm fs)) ++ (nm, v) :: keepF nm (fs.drop (ahead nm fs)) := by unfold setN; rw [keepF_ahead]
  have HSET := Lib.hid hsetN
  have HPL := Lib.hid hpl
  clear hsetN hpl hn hn2
  go_enter Tryd.func23, Tryd.ntmps23
  go_wp2_with fail
  have hB0 : Below w.heap.size w (((w.alloc (.cells #[.slice A n c, .slice A2 n2 c2] 41)).alloc (.cells #[.slice none 0 0, .slice none 0 0] 41)).alloc (.cells #[.string (bs nm), .string (bs v)] 28)) := (((Below.refl _ _).alloc (Nat.le_refl _) _).alloc (by simp) _).alloc (by simp; omega) _
  have r0 : Row (((w.alloc (.cells #[.slice A n c, .slice A2 n2 c2] 41)).alloc (.cells #[.slice none 0 0, .slice none 0 0] 41)).alloc (.cells #[.string (bs nm), .string (bs v)] 28)) w.heap.size 41 [.slice A n c, .slice A2 n2 c2] := ((Row.new w #[.slice A n c, .slice A2 n2 c2] 41).alloc _).alloc _
  have r1 : Row (((w.alloc (.cells #[.slice A n c, .slice A2 n2 c2] 41)).alloc (.cells #[.slice none 0 0, .slice none 0 0] 41)).alloc (.cells #[.string (bs nm), .string (bs v)] 28)) (w.heap.size + 1) 41 [.slice none 0 0, .slice none 0 0] := by
    have := (Row.new (w.alloc (.cells #[.slice A n c, .slice A2 n2 c2] 41)) #[.slice none 0 0, .slice none 0 0] 41).alloc (.cells #[.string (bs nm), .string (bs v)] 28)
    simpa using this
  have r2 : Row (((w.alloc (.cells #[.slice A n c, .slice A2 n2 c2] 41)).alloc (.cells #[.slice none 0 0, .slice none 0 0] 41)).alloc (.cells #[.string (bs nm), .string (bs v)] 28)) (w.heap.size + 2) 28 [.string (bs nm), .string (bs v)] := by
    have := Row.new ((w.alloc (.cells #[.slice A n c, .slice A2 n2 c2] 41)).alloc (.cells #[.slice none 0 0, .slice none 0 0] 41)) #[.string (bs nm), .string (bs v)] 28
    simpa using this
  have hs0 : w.heap.size + 3 ≤ (((w.alloc (.cells #[.slice A n c, .slice A2 n2 c2] 41)).alloc (.cells #[.slice none 0 0, .slice none 0 0] 41)).alloc (.cells #[.string (bs nm), .string (bs v)] 28)).heap.size := by simp
  generalize ((w.alloc (.cells #[.slice A n c, .slice A2 n2 c2] 41)).alloc (.cells #[.slice none 0 0, .slice none 0 0] 41)).alloc (.cells #[.string (bs nm), .string (bs v)] 28) = W0 at *
  have c00 : W0.cell? ⟨w.heap.size, 0, none⟩ = some (.slice A n c) := r0.cell rfl
  have c01 : W0.cell? ⟨w.heap.size, 1, none⟩ = some (.slice A2 n2 c2) := r0.cell rfl
  have hD0 : Below W0.heap.size W0 (W0.drew.alloc (.cells #[.string (bs nm)] 9)) := ((Below.refl _ W0).drew).alloc (Nat.le_refl _) _
  have hB1 := hB0.trans (hD0.mono hB0.size)
  have hix := index_any A fs n c W0.heap.size nm (W0.drew.alloc (.cells #[.string (bs nm)] 9)) HN.out (hA.below hB1) (tabs_below hT hB1) ((Row.new W0.drew #[.string (bs nm)] 9).cell (j := 0) rfl) hnm hb
  have c10 := (hD0.cell (p := ⟨w.heap.size, 0, none⟩) (cell_lt c00)).trans c00
  rw [HPL.out] at hix
  obtain ⟨a, ha⟩ : ∃ a, ahead nm fs = a := ⟨_, rfl⟩
  have hSET := HSET.out
  rw [ha] at hal hSET hix
  have HSET2 := Lib.hid hSET
  have hcut : (∃ z : Int, (if a < n then (a : Int) else -1) = z ∧ ((z = a ∧ ¬ z < 0) ∨ (z < 0 ∧ Hid ((n : Int) = a)))) := by
    by_cases h : a < n
    · exact ⟨a, by rw [if_pos h], .inl ⟨rfl, by omega⟩⟩
    · exact ⟨-1, by rw [if_neg h], .inr ⟨by omega, Lib.hid (by omega)⟩⟩
  obtain ⟨z, hz, hzz⟩ := hcut
  rw [hz] at hix
  clear hSET HSET ha hz
  have HR1 := Lib.hid r1
  have HR2 := Lib.hid r2
  clear HPL r0 r1 r2
  go_region_held3 (fun w' => w'.cell? ⟨w.heap.size, 0, none⟩ = some (.slice A n c)) (assumption)
    (first
    | (go_at_call 40; refine (named_any nm _).mono ?_; rintro e w4 ⟨rfl, rfl⟩)
    | (go_at_call 41; refine hix.mono ?_; rintro e w5 ⟨rfl, hb5⟩; have c50 := (hb5.cell (p := ⟨w.heap.size, 0, none⟩) (cell_lt c10)).trans c10))
  clear hix
  have hC5 : Below W0.heap.size W0 w5 := hD0.trans (hb5.mono (by simp))
  have c51 := (hC5.cell (p := ⟨w.heap.size, 1, none⟩) (cell_lt c01)).trans c01
  have hB5 := hB0.trans (hC5.mono hB0.size)
  have hto := slice_to (P := Tryd.prog) (t := 22) Tryd.underlying22 Tryd.sizeOf28 A n c a (by omega)
  obtain ⟨A', hfrom, hA', _, _⟩ := slice_from (P := Tryd.prog) (t := 22) Tryd.underlying22 Tryd.sizeOf28 A n c a hal hnc
  have hD5 : ∀ W, Below w5.heap.size w5 W → Calls Tryd.prog 24 #[.agg #[.slice A' (n - a) (c - a), .slice none 0 0], .string (bs nm)] W (fun e w' => ∃ A6 c6 D6 d6, e = .returned (.agg #[.slice A6 (keepF nm (fs.drop a)).length c6, .slice D6 0 d6]) ∧ Rf w' A6 (keepF nm (fs.drop a)) ∧ Below w5.heap.size w5 w' ∧ Below W.heap.size W w' ∧ ∀ b o, A6 = some ⟨b, o, none⟩ → W.heap.size ≤ b ∧ b < w'.heap.size) := fun W hb => by
    have hBW := hB5.trans (hb.mono hB5.size)
    refine (drop_any A' none (fs.drop a) [] nm (n - a) (c - a) 0 0 W (by rw [List.length_drop, HN.out]) rfl ?_ (Rb.nil _ _) (tabs_below hT hBW) hnm (by omega) (by omega)).mono ?_
    · have h := hA' W (fcells fs) (by rw [fcells_len, HN.out]) (hA.below hBW)
      rw [cs_drop] at h
      exact h
    · rintro e w6 ⟨v61, v62, rfl, hown61, hown62, hne6, hb6⟩
      obtain ⟨A6, c6, rfl, _, _, hR6, _⟩ := own_form hown61
      obtain ⟨D6, d6, rfl, _, _, _, _⟩ := own_form hown62
      exact ⟨A6, c6, D6, d6, rfl, hR6, hb.trans (hb6.mono hb.size), hb6, fun b o e => by
        subst e
        exact hown61.lt b rfl⟩
  generalize hk6 : (keepF nm (fs.drop a)).length = k6 at *
  go_upto_if 21 with fail
  go_cut [8] (fun s8 wx => s8 = .int .i64 a ∧ w5 = wx)
  case first =>
    rcases hzz with ⟨rfl, hz0⟩ | ⟨hz0, hna⟩
    · go_wp2_with fail
      go_meet
      exact ⟨rfl, rfl⟩
    · go_wp2_with fail
      rw [hna.out]
      go_meet
      exact ⟨rfl, rfl⟩
  case rest =>
    obtain ⟨rfl, rfl⟩ := hcut
    have hw5 : W0.heap.size ≤ w5.heap.size := hC5.size
    have c50d : w5.drew.cell? ⟨w.heap.size, 0, none⟩ = some (.slice A n c) := c50
    have c51d : w5.drew.cell? ⟨w.heap.size, 1, none⟩ = some (.slice A2 n2 c2) := c51
    go_wp2_with fail
    go_cut [9, 10] (fun s9 s10 wx => ∃ g9 g10 A6 c6 D6 d6, s9 = .pointer (some ⟨g9, 0, none⟩) ∧ s10 = .pointer (some ⟨g10, 0, none⟩) ∧ Row wx g9 41 [.slice A a c, .slice A2 n2 c2] ∧ Row wx g10 41 [.slice A6 k6 c6, .slice D6 0 d6] ∧ Rf wx A6 (keepF nm (fs.drop a)) ∧ Below w5.heap.size w5 wx)
    case first =>
      clear hA hA2 hT HN HN2 HSET2 HR1 HR2 hB0 c00 c01 hD0 hB1 c10 hb5 hC5 hB5 hA' hnc hb hb2 hnm hal hk6 hzz
      go_region_held3 (fun w' => w'.cell? ⟨w.heap.size, 0, none⟩ = some (.slice A n c) ∧ w'.cell? ⟨w.heap.size, 1, none⟩ = some (.slice A2 n2 c2)) (refine ⟨?_, ?_⟩ <;> (repeat (first | (with_reducible assumption) | (with_reducible refine cell_al _ ?_) | (with_reducible refine cell_dr ?_) | (with_reducible refine cell_sc ?_ (by simp; omega)))))
        (first
        | (go_at_call 24; (with_reducible refine (hD5 w5.drew (Below.refl _ w5).drew).mono ?_); rintro e w6 ⟨A6, c6, D6, d6, rfl, hR6, hb56, hb6, hA6⟩; have hs56 := hb56.size; have c60 := (hb56.cell (p := ⟨w.heap.size, 0, none⟩) (cell_lt c50d)).trans c50d; have c61 := (hb56.cell (p := ⟨w.heap.size, 1, none⟩) (cell_lt c51d)).trans c51d)
        | (go_at_call 24; (with_reducible refine (hD5 ((w5.alloc (.cells #[.slice none 0 0, .slice none 0 0] 41)).drew) ((Below.refl _ w5).alloc (Nat.le_refl _) _).drew).mono ?_); rintro e w6 ⟨A6, c6, D6, d6, rfl, hR6, hb56, hb6, hA6⟩; have hs56 := hb56.size; have c60 := (hb56.cell (p := ⟨w.heap.size, 0, none⟩) (cell_lt c50d)).trans c50d; have c61 := (hb56.cell (p := ⟨w.heap.size, 1, none⟩) (cell_lt c51d)).trans c51d; have hneB : w5.heap.size ≠ w6.heap.size := (by have h := hb6.size; simp at h; omega); have rB := Row.below (w := (w5.alloc (.cells #[.slice none 0 0, .slice none 0 0] 41)).drew) (row_new2 w5 _ _ _) hb6; have rBc0 := rB.cell (j := 0) rfl; have rBc1 := rB.cell (j := 1) rfl; have rBf0 := rB.frozen 0; have rBf1 := rB.frozen 1; have qc0 := fun o => (rB.alloc o).cell (j := 0) rfl; have qc1 := fun o => (rB.alloc o).cell (j := 1) rfl; have qf0 := fun o => (rB.alloc o).frozen 0; have qf1 := fun o => (rB.alloc o).frozen 1)
        | (go_at_call 24; (with_reducible refine (hD5 ((w5.alloc (.cells #[.slice A a c, .slice A2 n2 c2] 41)).drew) ((Below.refl _ w5).alloc (Nat.le_refl _) _).drew).mono ?_); rintro e w6 ⟨A6, c6, D6, d6, rfl, hR6, hb56, hb6, hA6⟩; have hs56 := hb56.size; have c60 := (hb56.cell (p := ⟨w.heap.size, 0, none⟩) (cell_lt c50d)).trans c50d; have c61 := (hb56.cell (p := ⟨w.heap.size, 1, none⟩) (cell_lt c51d)).trans c51d; have hneB : w5.heap.size ≠ w6.heap.size := (by have h := hb6.size; simp at h; omega); have rB := Row.below (w := (w5.alloc (.cells #[.slice A a c, .slice A2 n2 c2] 41)).drew) (row_new2 w5 _ _ _) hb6; have rBc0 := rB.cell (j := 0) rfl; have rBc1 := rB.cell (j := 1) rfl; have rBf0 := rB.frozen 0; have rBf1 := rB.frozen 1; have qc0 := fun o => (rB.alloc o).cell (j := 0) rfl; have qc1 := fun o => (rB.alloc o).cell (j := 1) rfl; have qf0 := fun o => (rB.alloc o).frozen 0; have qf1 := fun o => (rB.alloc o).frozen 1)
        | (go_at_call 24; (with_reducible refine (hD5 (((w5.alloc (.cells #[.slice none 0 0, .slice none 0 0] 41)).alloc (.cells #[.slice none 0 0, .slice none 0 0] 41)).drew) (((Below.refl _ w5).alloc (Nat.le_refl _) _).alloc (by simp) _).drew).mono ?_); rintro e w6 ⟨A6, c6, D6, d6, rfl, hR6, hb56, hb6, hA6⟩; have hs56 := hb56.size; have c60 := (hb56.cell (p := ⟨w.heap.size, 0, none⟩) (cell_lt c50d)).trans c50d; have c61 := (hb56.cell (p := ⟨w.heap.size, 1, none⟩) (cell_lt c51d)).trans c51d; have rB := Row.below (w := ((w5.alloc (.cells #[.slice none 0 0, .slice none 0 0] 41)).alloc (.cells #[.slice none 0 0, .slice none 0 0] 41)).drew) ((row_new2 w5 _ _ _).alloc _) hb6; have rC := Row.below (w := ((w5.alloc (.cells #[.slice none 0 0, .slice none 0 0] 41)).alloc (.cells #[.slice none 0 0, .slice none 0 0] 41)).drew) (row_two2 w5 _ _ _ _) hb6; have rBc0 := rB.cell (j := 0) rfl; have rBc1 := rB.cell (j := 1) rfl; have rBf0 := rB.frozen 0; have rBf1 := rB.frozen 1; have rCc0 := rC.cell (j := 0) rfl; have rCc1 := rC.cell (j := 1) rfl; have rCf0 := rC.frozen 0; have rCf1 := rC.frozen 1)
        | (go_at_call 24; (with_reducible refine (hD5 (((w5.alloc (.cells #[.slice A a c, .slice A2 n2 c2] 41)).alloc (.cells #[.slice none 0 0, .slice none 0 0] 41)).drew) (((Below.refl _ w5).alloc (Nat.le_refl _) _).alloc (by simp) _).drew).mono ?_); rintro e w6 ⟨A6, c6, D6, d6, rfl, hR6, hb56, hb6, hA6⟩; have hs56 := hb56.size; have c60 := (hb56.cell (p := ⟨w.heap.size, 0, none⟩) (cell_lt c50d)).trans c50d; have c61 := (hb56.cell (p := ⟨w.heap.size, 1, none⟩) (cell_lt c51d)).trans c51d; have rB := Row.below (w := ((w5.alloc (.cells #[.slice A a c, .slice A2 n2 c2] 41)).alloc (.cells #[.slice none 0 0, .slice none 0 0] 41)).drew) ((row_new2 w5 _ _ _).alloc _) hb6; have rC := Row.below (w := ((w5.alloc (.cells #[.slice A a c, .slice A2 n2 c2] 41)).alloc (.cells #[.slice none 0 0, .slice none 0 0] 41)).drew) (row_two2 w5 _ _ _ _) hb6; have rBc0 := rB.cell (j := 0) rfl; have rBc1 := rB.cell (j := 1) rfl; have rBf0 := rB.frozen 0; have rBf1 := rB.frozen 1; have rCc0 := rC.cell (j := 0) rfl; have rCc1 := rC.cell (j := 1) rfl; have rCf0 := rC.frozen 0; have rCf1 := rC.frozen 1)
        | (go_at_call 24; (with_reducible refine (hD5 (((w5.alloc (.cells #[.slice none 0 0, .slice none 0 0] 41)).alloc (.cells #[.slice A a c, .slice A2 n2 c2] 41)).drew) (((Below.refl _ w5).alloc (Nat.le_refl _) _).alloc (by simp) _).drew).mono ?_); rintro e w6 ⟨A6, c6, D6, d6, rfl, hR6, hb56, hb6, hA6⟩; have hs56 := hb56.size; have c60 := (hb56.cell (p := ⟨w.heap.size, 0, none⟩) (cell_lt c50d)).trans c50d; have c61 := (hb56.cell (p := ⟨w.heap.size, 1, none⟩) (cell_lt c51d)).trans c51d; have rB := Row.below (w := ((w5.alloc (.cells #[.slice none 0 0, .slice none 0 0] 41)).alloc (.cells #[.slice A a c, .slice A2 n2 c2] 41)).drew) ((row_new2 w5 _ _ _).alloc _) hb6; have rC := Row.below (w := ((w5.alloc (.cells #[.slice none 0 0, .slice none 0 0] 41)).alloc (.cells #[.slice A a c, .slice A2 n2 c2] 41)).drew) (row_two2 w5 _ _ _ _) hb6; have rBc0 := rB.cell (j := 0) rfl; have rBc1 := rB.cell (j := 1) rfl; have rBf0 := rB.frozen 0; have rBf1 := rB.frozen 1; have rCc0 := rC.cell (j := 0) rfl; have rCc1 := rC.cell (j := 1) rfl; have rCf0 := rC.frozen 0; have rCf1 := rC.frozen 1))
      all_goals
        go_wp2_with fail
        go_meet
        refine ⟨_, _, A6, c6, D6, d6, rfl, rfl, ?_, ?_, ?_, ?_⟩
        · repeat (first | (with_reducible assumption) | (with_reducible exact row_new2 _ _ _ _) | (with_reducible exact row_two2 _ _ _ _ _) | (with_reducible apply row_sets) | (with_reducible refine Row.alloc ?_ _) | (with_reducible refine row_far2 ?_ (by omega)))
        · repeat (first | (with_reducible assumption) | (with_reducible exact row_new2 _ _ _ _) | (with_reducible exact row_two2 _ _ _ _ _) | (with_reducible apply row_sets) | (with_reducible refine Row.alloc ?_ _) | (with_reducible refine row_far2 ?_ (by omega)))
        · repeat (first | (with_reducible assumption) | (with_reducible refine Rf_al ?_ _) | (with_reducible refine Rf_far2 ?_ (fun b o e => by have h := hA6 b o e; simp at h; simp; omega)))
        · repeat (first | (with_reducible assumption) | (with_reducible refine Below.setCell ?_ (by simp <;> omega) _) | (with_reducible refine Below.alloc ?_ (by have := hb56.size; simp; omega) _))
    case rest =>
      obtain ⟨g9, g10, A6, c6, D6, d6, rfl, rfl, r9, r10, hR6, hC6⟩ := hcut
      obtain ⟨w7, hw7⟩ : ∃ w7, w7 = wc := ⟨_, rfl⟩
      rw [← hw7] at r9 r10 hR6 hC6 ⊢
      clear hw7
      have hC7 : Below W0.heap.size W0 w7 := hC5.trans (hC6.mono hw5)
      have hB7 := hB0.trans (hC7.mono hB0.size)
      have c90 := r9.cell (j := 0) rfl
      have c91 := r9.cell (j := 1) rfl
      have hRt : Rf w7 A (fs.take a) := by
        have h := Rv.take (hA.below hB7) (a * 2)
        rw [cs_take (n := n) (by rw [← HN.out, ← fcells_len, List.take_length]) a hal] at h
        exact h
      have hdrop := drop_any A A2 (fs.take a) bd nm a c n2 c2 w7 (by rw [List.length_take, HN.out]; omega) HN2.out hRt (hA2.below hB7) (tabs_below hT hB7) hnm (by omega) hb2
      clear hRt hto hfrom hA' hD5 c50d c51d
      go_wp2_with fail
      refine hdrop.mono ?_
      rintro e w8 ⟨v81, v82, rfl, hown81, hown82, hne8, hb8⟩
      have hkl : (keepF nm (fs.take a)).length ≤ a := by have h1 := keepF_len nm (fs.take a); have h2 := List.length_take_le a fs; omega
      generalize hk8 : (keepF nm (fs.take a)).length = k8 at hown81 hkl
      rw [HN2.out] at hown82
      obtain ⟨A8, c8, rfl, _, _, _, _⟩ := own_form hown81
      obtain ⟨D8, d8, rfl, _, _, _, _⟩ := own_form hown82
      clear hdrop
      have hC8 := hC7.trans (hb8.mono hC7.size)
      have hB8 := hB0.trans (hC8.mono hB0.size)
      have s78 := hb8.size
      have s07 := hC7.size
      have hA9 : Below w8.heap.size w8 (w8.alloc (.cells #[.slice A8 k8 c8, .slice D8 n2 d8] 41)) := (Below.refl _ _).alloc (Nat.le_refl _) _
      have q11 := row_new2 w8 (.slice A8 k8 c8) (.slice D8 n2 d8) 41
      have q7 : Row (w8.alloc (.cells #[.slice A8 k8 c8, .slice D8 n2 d8] 41)) (w.heap.size + 1 + 1) 28 [.string (bs nm), .string (bs v)] := ((HR2.out.below hC8).below hA9)
      have q10 : Row (w8.alloc (.cells #[.slice A8 k8 c8, .slice D8 n2 d8] 41)) g10 41 [.slice A6 k6 c6, .slice D6 0 d6] := (r10.below hb8).below hA9
      have q6 : Row (w8.alloc (.cells #[.slice A8 k8 c8, .slice D8 n2 d8] 41)) (w.heap.size + 1) 41 [.slice none 0 0, .slice none 0 0] := (HR1.out.below hC8).below hA9
      have hR9 : Rf (w8.alloc (.cells #[.slice A8 k8 c8, .slice D8 n2 d8] 41)) A6 (keepF nm (fs.drop a)) := (hR6.below hb8).below hA9
      have hown9 := hown81.alloc (.cells #[.slice A8 k8 c8, .slice D8 n2 d8] 41)
      have hown9b := hown82.alloc (.cells #[.slice A8 k8 c8, .slice D8 n2 d8] 41)
      have hB9 := hB8.trans (hA9.mono hB8.size)
      have hs9 : (w8.alloc (.cells #[.slice A8 k8 c8, .slice D8 n2 d8] 41)).heap.size = w8.heap.size + 1 := by simp
      have hl8 := hown81.lt
      have hg10 : g10 < w7.heap.size := r10.lt
      have hk6l : k6 ≤ n := by rw [← hk6, ← HN.out]; have h1 := keepF_len nm (fs.drop a); have h2 : (fs.drop a).length ≤ fs.length := (by simp); omega
      have HK6 := Lib.hid hk6
      have HK8 := Lib.hid hk8
      clear hk8 hk6
      go_wp2_with fail
      have hs9a : w8.heap.size + 1 ≤ (w8.alloc (.cells #[.slice A8 k8 c8, .slice D8 n2 d8] 41)).heap.size := by simp
      have l9 : ∀ k, (Value.slice A8 k8 c8).ownBlock = some k → w7.heap.size ≤ k ∧ k < w8.heap.size := hl8
      have hne9 : (Value.slice D8 n2 d8).ownBlock = none ∨ (Value.slice D8 n2 d8).ownBlock ≠ (Value.slice A8 k8 c8).ownBlock := hne8
      have l9b := hown82.lt
      have hL9 : Below w7.heap.size w7 (w8.alloc (.cells #[.slice A8 k8 c8, .slice D8 n2 d8] 41)) := hb8.alloc s78 _
      clear hs9 hl8 hne8
      generalize w8.alloc (.cells #[.slice A8 k8 c8, .slice D8 n2 d8] 41) = W9 at *
      have d110 := q11.cell (j := 0) rfl
      have d70 := q7.cell (j := 0) rfl
      have d71 := q7.cell (j := 1) rfl
      have d100 := q10.cell (j := 0) rfl
      have hd9 : Below W9.heap.size W9 (W9.alloc (.cells #[strv nm, strv v] 28)).drew := ((Below.refl _ W9).alloc (Nat.le_refl _) _).drew
      have hownd : (W9.alloc (.cells #[strv nm, strv v] 28)).drew.ownsRow w7.heap.size 28 2 (.slice A8 k8 c8) k8 (fcells (keepF nm (fs.take a))) := hown9.alloc _
      have hsrcd : Src Tryd.prog 2 22 (.slice (some ⟨W9.heap.size, 0, none⟩) 1 1) 1 [strv nm, strv v] (W9.alloc (.cells #[strv nm, strv v] 28)).drew := Src_rv (news := [strv nm, strv v]) Tryd.underlying22 rfl (Rv_new W9 _ _ _ rfl) (by simp [Value.oneCell', strv]) (by omega)
      have hszd : w7.heap.size ≤ (W9.alloc (.cells #[strv nm, strv v] 28)).drew.heap.size := by simp; omega
      have hkb1 : (k8 + 1) * 32 ≤ 140737488355328 := by omega
      have hkb2 : (k8 + 1 + k6) * 32 ≤ 140737488355328 := by omega
      have hRd : Rf (W9.alloc (.cells #[strv nm, strv v] 28)).drew A6 (keepF nm (fs.drop a)) := hR9.below hd9
      have qd11 := q11.below hd9
      have qd10 := q10.below hd9
      have hLd := hL9.trans (hd9.mono hL9.size)
      have e100a := cell_al (.cells #[.string (bs nm), .string (bs v)] 28) d100
      have e110a := cell_al (.cells #[.string (bs nm), .string (bs v)] 28) d110
      have HO := Lib.hid hownd
      have HS := Lib.hid hsrcd
      have HR := Lib.hid hR6
      have n10 : (Value.slice A8 k8 c8).ownBlock ≠ some w8.heap.size := fun e => by have := (l9 _ e).2; omega
      clear hownd hsrcd hRd
      go_region_law (first
        | (refine step_app rfl (.tmp 43) (.tmp 45) _ _ rfl TField HO.out (by simp [Act.eval, Act.put]) HS.out (by simp [Act.eval, Act.put, strv]) hkb1 hszd ?_; intro v10 w10 hown10 hgr10 hat10; have hL10 := hLd.grown hgr10 hszd (fun j hj => (l9 j hj).1); have q10b := r10.below hL10; have q11b := row_grown hgr10 qd11 n10; have e100 := q10b.cell (j := 0) rfl; have hR10 := Lib.hid (HR.out.below hL10); have n11 : v10.ownBlock ≠ some w8.heap.size := own_ne hat10 n10 (by simp; omega); have l10 : ∀ j, v10.ownBlock = some j → w7.heap.size ≤ j := fun j hj => (hown10.lt j hj).1; have hs10 := hL10.size)
        | (refine step_app rfl (.tmp 46) (.tmp 48) _ _ rfl TField hown10 (by simp [Act.eval, Act.put]) (Src_rf (c := c6) HK6.out hR10.out) (by simp [Act.eval, Act.put, strv]) hkb2 hs10 ?_; intro v11 w11 hown11 hgr11 hat11; have hL11 := hL10.grown hgr11 hs10 l10; have q11c := row_grown hgr11 q11b n11; have e110 := q11c.cell (j := 0) rfl; have z110 := q11c.frozen 0; have hown11b := hown11; obtain ⟨A11, c11, rfl, _, _, _, _⟩ := own_form hown11))
      all_goals
        have hgs := hgr10.size
        simp at hgs
        have n12 : (Value.slice A11 (k8 + 1 + k6) c11).ownBlock ≠ some w8.heap.size := own_ne hat11 n11 (by omega)
        have n13 : (Value.slice A11 (k8 + 1 + k6) c11).ownBlock ≠ some (w.heap.size + 1) := fun e => by have := (hown11b.lt _ e).1; omega
        have m10 := own_ne2 (fun k hk => (l9b k hk).2) hat10 (by simp; omega) hne9
        have m11 := own_ne2 (fun k hk => (l9b k hk).2) hat11 (by omega) m10
        have hD11 := ((hown9b.below_own hd9).kept hgr10 hne9).kept hgr11 m10
        have m12 : (Value.slice D8 n2 d8).ownBlock ≠ some w8.heap.size := fun e => by have := (l9b _ e).2; omega
        have m13 : (Value.slice D8 n2 d8).ownBlock ≠ some (w.heap.size + 1) := fun e => by have := (l9b _ e).1; omega
        have x11 := q11c.set 0 (.slice A11 (k8 + 1 + k6) c11)
        have y0 := x11.cell (j := 0) rfl
        have y1 := x11.cell (j := 1) rfl
        have x6 := ((HR1.out.below hC7).below hL11).far (a := ⟨w8.heap.size, 0, none⟩) (by simp; omega) (.slice A11 (k8 + 1 + k6) c11)
        have u0 := x6.cell (j := 0) rfl
        have u1 := x6.cell (j := 1) rfl
        have z0 := x6.frozen 0
        have z1 := x6.frozen 1
        have fin := Lib.hid (set_end (fs := fs) (bd := bd) (nm := nm) (v := v) (a := a) HSET2.out HK8.out HK6.out HN2.out (hB7.trans (hL11.mono hB7.size)) hB7.size hown11b hD11 n12 n13 m12 m13 (by omega))
        have v0 := (row_sets x6 (x := .slice A11 (k8 + 1 + k6) c11) (y := .slice D8 n2 d8)).cell (j := 0) rfl
        have v1 := (row_sets x6 (x := .slice A11 (k8 + 1 + k6) c11) (y := .slice D8 n2 d8)).cell (j := 1) rfl
        clear hA hA2 hT HN HN2 hB0 c00 c01 hD0 hB1 c10 hb5 c50 hC5 c51 hB5 hC6 hC7 hB7 hC8 hB8 hB9 hR9 hown9 hown9b
        go_wp2_with fail
        exact bodyPost_ret (v := .agg #[.slice A11 (k8 + 1 + k6) c11, .slice D8 n2 d8]) (by simp [results, Tryd.results23, go_sem, v0, v1]) rfl fin.out
end Go.Proofs.YtgohdohkikkeeaaDoor
