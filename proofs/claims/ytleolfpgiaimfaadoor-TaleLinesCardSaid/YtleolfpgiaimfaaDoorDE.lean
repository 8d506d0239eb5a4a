/- The forms' last region: each operation keeps what holds. -/
import Derived.Test.YtleolfpgiaimfaaDoorDD
namespace Go.Proofs.YtleolfpgiaimfaaDoor
set_option linter.unusedVariables false
set_option linter.unusedSimpArgs false
open Go.RowKit Go.Shelf

def mkI (i : Nat) : Bool := match tab8[i]? with | some (.mk d) => decide (i = 0 ∧ d = 24) | _ => true
theorem mk_fin : ∀ i : Fin 50, mkI i = true := by decide +kernel
theorem mk_at {i d : Nat} (h : tab8[i]? = some (.mk d)) : i = 0 ∧ d = 24 := by
  have h1 := mk_fin ⟨i, (List.getElem?_eq_some_iff.1 h).1⟩
  simp only [mkI, h] at h1
  exact of_decide_eq_true h1
theorem zero_mk {i : Nat} {d : Dsc} (h : tab8[i]? = some d) (hd : ∀ x, d ≠ .mk x) : i ≠ 0 := by
  rintro rfl
  have : tab8[0]? = some (.mk 24) := rfl
  rw [h] at this
  exact hd 24 (Option.some.inj this)
def mapI (i : Nat) : Bool := match tab8[i]? with | some d => decide (d.out = some (24, .map) → i = 0) | _ => true
theorem map_fin : ∀ i : Fin 50, mapI i = true := by decide +kernel
theorem map_at {i : Nat} {d : Dsc} (h : tab8[i]? = some d) (ho : d.out = some (24, .map)) : i = 0 := by
  have h1 := map_fin ⟨i, (List.getElem?_eq_some_iff.1 h).1⟩
  simp only [mapI, h] at h1
  exact of_decide_eq_true h1 ho
def bdI (i : Nat) : Bool := match tab8[i]? with | some (.bd _ k _) => decide (formL k = some (formW k, formFs k)) | _ => true
theorem bd_fin : ∀ i : Fin 50, bdI i = true := by decide +kernel
theorem bd_at {i d s : Nat} {k : Int} (h : tab8[i]? = some (.bd d k s)) : formL k = some (formW k, formFs k) := by
  have h1 := bd_fin ⟨i, (List.getElem?_eq_some_iff.1 h).1⟩
  simp only [bdI, h] at h1
  exact of_decide_eq_true h1
def bsI (i : Nat) : Bool := match tab8[i]? with | some (.bs _ ss) => decide (ss.length = 1 ∨ ss.length = 2 ∨ ss.length = 3 ∨ ss.length = 6) | _ => true
theorem bs_fin : ∀ i : Fin 50, bsI i = true := by decide +kernel
theorem bs_at {i d : Nat} {ss : List (Nat × Fk)} (h : tab8[i]? = some (.bs d ss)) : ss.length = 1 ∨ ss.length = 2 ∨ ss.length = 3 ∨ ss.length = 6 := by
  have h1 := bs_fin ⟨i, (List.getElem?_eq_some_iff.1 h).1⟩
  simp only [bsI, h] at h1
  exact of_decide_eq_true h1

/-- a new slice of fields -/
theorem slc_new (w : World) : ∀ (vs : List (Fk × Nat)) (cs : List Value), cs = (vs.flatMap fun p => [(fvs p.1 p.2).1, (fvs p.1 p.2).2]) → (∀ p ∈ vs, BoxOk w p.1 p.2) → SlcOk (w.alloc (.cells cs.toArray 48)) (vs.map (·.1)) (.slice (some ⟨w.heap.size, 0, none⟩) (vs.map (·.1)).length (vs.map (·.1)).length) := by
  intro vs cs hcs hb
  have hr := Row.new w cs.toArray 48
  refine ⟨w.heap.size, cs, rfl, hr, fun i x hx => ?_⟩
  have hget : ∀ (vs : List (Fk × Nat)) (i : Nat) (p : Fk × Nat), vs[i]? = some p → (vs.flatMap fun p => [(fvs p.1 p.2).1, (fvs p.1 p.2).2])[2 * i]? = some (fvs p.1 p.2).1 ∧ (vs.flatMap fun p => [(fvs p.1 p.2).1, (fvs p.1 p.2).2])[2 * i + 1]? = some (fvs p.1 p.2).2 := by
    intro vs
    induction vs with
    | nil => intro i p h; simp at h
    | cons v vs ih =>
      intro i p h
      cases i with
      | zero =>
        simp at h
        subst h
        exact ⟨rfl, rfl⟩
      | succ i =>
        have := ih i p (by simpa using h)
        rw [List.flatMap_cons, show 2 * (i + 1) = 2 * i + 1 + 1 by omega]
        exact this
  rw [List.getElem?_map] at hx
  cases hp : vs[i]? with
  | none => rw [hp] at hx; cases hx
  | some p =>
    rw [hp] at hx
    cases hx
    obtain ⟨h1, h2⟩ := hget vs i p hp
    exact ⟨p.2, by rw [hcs]; exact h1, by rw [hcs]; exact h2, (hb p (List.mem_of_getElem? hp)).keep (KeepC.alloc w _)⟩

section
variable {W0 : World} {l : Array Bool} {a : Act} {w : World} {i : Nat} {o : Oper} {Q : Exit → Act → World → Prop}
theorem st_ld (h : Inv8 W0 l a w) {d s : Nat} {x : Fk} (ho : ops8[i]? = some o) (ht : tab8[i]? = some (.ld d s x)) (e1 : o.dst = some d) (e2 : o.op = (Dsc.ld d s x).op.2) (e3 : o.guard = none) : wpOp Tryd.prog ops8 Q i (Inv8 W0 (l.setIfInBounds i true)) a w := by
  obtain ⟨p, hs, box, hr, hb⟩ := h.ptr s x (lds_ok ht)
  refine op_value ho e3 (x_ld e2 (by rw [ev_tmp]; exact hs) hr) ?_
  rw [e1]
  exact h.put ht rfl (zero_mk ht (fun _ e => by cases e)) (Below.refl _ w) (fun _ e => by cases e) (fun B _ => ⟨box, rfl, hb⟩)
theorem st_ys (h : Inv8 W0 l a w) {d f : Nat} {x : Fk} (ho : ops8[i]? = some o) (ht : tab8[i]? = some (.ys d f x)) (e1 : o.dst = some d) (e2 : o.op = (Dsc.ys d f x).op.2) (e3 : o.guard = none) : wpOp Tryd.prog ops8 Q i (Inv8 W0 (l.setIfInBounds i true)) a w := by
  obtain ⟨hbx, hx⟩ := ys_ok ht
  refine op_call ho e3 (x_ys e2) ((yes_any f w).mono ?_)
  rintro e w' ⟨box, rfl, _, hr, hb⟩
  refine ⟨_, rfl, ?_⟩
  rw [e1]
  refine h.put ht rfl (zero_mk ht (fun _ e => by cases e)) hb (fun _ e => by cases e) (fun B _ => ⟨box, ?_, box_of hbx hr⟩)
  rcases hx with rfl | rfl <;> rfl
theorem st_m9 (h : Inv8 W0 l a w) {d : Nat} (ho : ops8[i]? = some o) (ht : tab8[i]? = some (.m9 d)) (e1 : o.dst = some d) (e2 : o.op = (Dsc.m9 d).op.2) (e3 : o.guard = none) : wpOp Tryd.prog ops8 Q i (Inv8 W0 (l.setIfInBounds i true)) a w := by
  refine op_value ho e3 (x_mv e2) ?_
  rw [e1, ev_tmp]
  exact h.put ht rfl (zero_mk ht (fun _ e => by cases e)) (Below.refl _ w) (fun _ e => by cases e) (fun B _ => h.nine)
/-- where a map is needed, it is there -/
theorem need_map (h : Inv8 W0 l a w) {j : Nat} {d : Dsc} {s : Nat} (hj : tab8[j]? = some d) (hl : l.getD j false = true) (hq : d.out = some (s, .map)) : l.getD 0 false = true := by
  cases h0 : l.getD 0 false with
  | true => rfl
  | false => exact absurd rfl ((h.first h0 j d hj hl).1 _ hq)
theorem st_mm (h : Inv8 W0 l a w) {d : Nat} (ho : ops8[i]? = some o) (ht : tab8[i]? = some (.mm d)) (e1 : o.dst = some d) (e2 : o.op = (Dsc.mm d).op.2) (e3 : o.guard = none) (hd : ∀ e ∈ o.after, Region.binds .any e = true → l.getD e.on false = true) : wpOp Tryd.prog ops8 Q i (Inv8 W0 (l.setIfInBounds i true)) a w := by
  obtain ⟨j, dj, hj, hq, hl⟩ := needs_at ho ht hd (n := (24, .map)) (by simp [Dsc.needs])
  refine op_value ho e3 (x_mv e2) ?_
  rw [e1, ev_tmp]
  refine h.put ht rfl (zero_mk ht (fun _ e => by cases e)) (Below.refl _ w) (fun h0 => ?_) (fun B hB => hB j dj _ hj hl hq)
  rw [need_map h hj hl hq] at h0
  cases h0
theorem st_as (h : Inv8 W0 l a w) (ho : ops8[i]? = some o) (ht : tab8[i]? = some .as0) (e1 : o.dst = some 0) (e2 : o.op = Dsc.as0.op.2) (e3 : o.guard = none) (hd : ∀ e ∈ o.after, Region.binds .any e = true → l.getD e.on false = true) : wpOp Tryd.prog ops8 Q i (Inv8 W0 (l.setIfInBounds i true)) a w := by
  obtain ⟨j, dj, hj, hq, hl⟩ := needs_at ho ht hd (n := (63, .map)) (by simp [Dsc.needs])
  refine op_value ho e3 (x_as e2) ?_
  rw [e1, ev_tmp]
  refine h.put ht rfl (zero_mk ht (fun _ e => by cases e)) (Below.refl _ w) (fun h0 => ?_) (fun B hB => hB j dj _ hj hl hq)
  rw [need_map h hj hl hq] at h0
  cases h0
theorem st_bd (h : Inv8 W0 l a w) {d s : Nat} {k : Int} (ho : ops8[i]? = some o) (ht : tab8[i]? = some (.bd d k s)) (e1 : o.dst = some d) (e2 : o.op = (Dsc.bd d k s).op.2) (e3 : o.guard = none) (hd : ∀ e ∈ o.after, Region.binds .any e = true → l.getD e.on false = true) : wpOp Tryd.prog ops8 Q i (Inv8 W0 (l.setIfInBounds i true)) a w := by
  obtain ⟨j, dj, hj, hq, hl⟩ := needs_at ho ht hd (n := (s, .slc (formFs k))) (by simp [Dsc.needs])
  obtain ⟨B, es, clock, h1, _⟩ := h.map
  obtain ⟨g, cs, hv, hr, hi⟩ := h1 j dj _ hj hl hq
  refine op_value ho e3 (x_bd e2 (by rw [ev_tmp]; exact hv)) ?_
  rw [e1]
  exact h.put ht rfl (zero_mk ht (fun _ e => by cases e)) (Below.refl _ w) (fun _ e => by cases e) (fun B _ => ⟨_, _, _, bd_at ht, rfl, g, cs, rfl, hr, hi⟩)

theorem st_bs1 (h : Inv8 W0 l a w) {d s0 : Nat} {x0 : Fk} (ho : ops8[i]? = some o) (ht : tab8[i]? = some (.bs d [(s0, x0)])) (e1 : o.dst = some d) (e2 : o.op = (Dsc.bs d [(s0, x0)]).op.2) (e3 : o.guard = none) (hd : ∀ e ∈ o.after, Region.binds .any e = true → l.getD e.on false = true) : wpOp Tryd.prog ops8 Q i (Inv8 W0 (l.setIfInBounds i true)) a w := by
  obtain ⟨B, es, clock, h1, _⟩ := h.map
  obtain ⟨j0, d0, hj0, hq0, hl0⟩ := needs_at ho ht hd (n := (s0, .fld x0)) (by simp [Dsc.needs])
  obtain ⟨b0, hv0, hb0⟩ := h1 j0 d0 _ hj0 hl0 hq0
  refine op_value ho e3 (x_bs1 e2 (by rw [ev_tmp]; exact hv0)) ?_
  rw [e1]
  refine h.put ht rfl (zero_mk ht (fun _ e => by cases e)) ((Below.refl _ w).alloc (Nat.le_refl _) _) (fun _ e => by cases e) (fun B _ => slc_new w [(x0, b0)] _ rfl ?_)
  intro p hp
  simp only [List.mem_cons, List.not_mem_nil, or_false] at hp
  subst hp; exact hb0
theorem st_bs2 (h : Inv8 W0 l a w) {d s0 s1 : Nat} {x0 x1 : Fk} (ho : ops8[i]? = some o) (ht : tab8[i]? = some (.bs d [(s0, x0), (s1, x1)])) (e1 : o.dst = some d) (e2 : o.op = (Dsc.bs d [(s0, x0), (s1, x1)]).op.2) (e3 : o.guard = none) (hd : ∀ e ∈ o.after, Region.binds .any e = true → l.getD e.on false = true) : wpOp Tryd.prog ops8 Q i (Inv8 W0 (l.setIfInBounds i true)) a w := by
  obtain ⟨B, es, clock, h1, _⟩ := h.map
  obtain ⟨j0, d0, hj0, hq0, hl0⟩ := needs_at ho ht hd (n := (s0, .fld x0)) (by simp [Dsc.needs])
  obtain ⟨b0, hv0, hb0⟩ := h1 j0 d0 _ hj0 hl0 hq0
  obtain ⟨j1, d1, hj1, hq1, hl1⟩ := needs_at ho ht hd (n := (s1, .fld x1)) (by simp [Dsc.needs])
  obtain ⟨b1, hv1, hb1⟩ := h1 j1 d1 _ hj1 hl1 hq1
  refine op_value ho e3 (x_bs2 e2 (by rw [ev_tmp]; exact hv0) (by rw [ev_tmp]; exact hv1)) ?_
  rw [e1]
  refine h.put ht rfl (zero_mk ht (fun _ e => by cases e)) ((Below.refl _ w).alloc (Nat.le_refl _) _) (fun _ e => by cases e) (fun B _ => slc_new w [(x0, b0), (x1, b1)] _ rfl ?_)
  intro p hp
  simp only [List.mem_cons, List.not_mem_nil, or_false] at hp
  rcases hp with rfl | rfl
  · exact hb0
  · exact hb1
theorem st_bs3 (h : Inv8 W0 l a w) {d s0 s1 s2 : Nat} {x0 x1 x2 : Fk} (ho : ops8[i]? = some o) (ht : tab8[i]? = some (.bs d [(s0, x0), (s1, x1), (s2, x2)])) (e1 : o.dst = some d) (e2 : o.op = (Dsc.bs d [(s0, x0), (s1, x1), (s2, x2)]).op.2) (e3 : o.guard = none) (hd : ∀ e ∈ o.after, Region.binds .any e = true → l.getD e.on false = true) : wpOp Tryd.prog ops8 Q i (Inv8 W0 (l.setIfInBounds i true)) a w := by
  obtain ⟨B, es, clock, h1, _⟩ := h.map
  obtain ⟨j0, d0, hj0, hq0, hl0⟩ := needs_at ho ht hd (n := (s0, .fld x0)) (by simp [Dsc.needs])
  obtain ⟨b0, hv0, hb0⟩ := h1 j0 d0 _ hj0 hl0 hq0
  obtain ⟨j1, d1, hj1, hq1, hl1⟩ := needs_at ho ht hd (n := (s1, .fld x1)) (by simp [Dsc.needs])
  obtain ⟨b1, hv1, hb1⟩ := h1 j1 d1 _ hj1 hl1 hq1
  obtain ⟨j2, d2, hj2, hq2, hl2⟩ := needs_at ho ht hd (n := (s2, .fld x2)) (by simp [Dsc.needs])
  obtain ⟨b2, hv2, hb2⟩ := h1 j2 d2 _ hj2 hl2 hq2
  refine op_value ho e3 (x_bs3 e2 (by rw [ev_tmp]; exact hv0) (by rw [ev_tmp]; exact hv1) (by rw [ev_tmp]; exact hv2)) ?_
  rw [e1]
  refine h.put ht rfl (zero_mk ht (fun _ e => by cases e)) ((Below.refl _ w).alloc (Nat.le_refl _) _) (fun _ e => by cases e) (fun B _ => slc_new w [(x0, b0), (x1, b1), (x2, b2)] _ rfl ?_)
  intro p hp
  simp only [List.mem_cons, List.not_mem_nil, or_false] at hp
  rcases hp with rfl | rfl | rfl
  · exact hb0
  · exact hb1
  · exact hb2
theorem st_bs6 (h : Inv8 W0 l a w) {d s0 s1 s2 s3 s4 s5 : Nat} {x0 x1 x2 x3 x4 x5 : Fk} (ho : ops8[i]? = some o) (ht : tab8[i]? = some (.bs d [(s0, x0), (s1, x1), (s2, x2), (s3, x3), (s4, x4), (s5, x5)])) (e1 : o.dst = some d) (e2 : o.op = (Dsc.bs d [(s0, x0), (s1, x1), (s2, x2), (s3, x3), (s4, x4), (s5, x5)]).op.2) (e3 : o.guard = none) (hd : ∀ e ∈ o.after, Region.binds .any e = true → l.getD e.on false = true) : wpOp Tryd.prog ops8 Q i (Inv8 W0 (l.setIfInBounds i true)) a w := by
  obtain ⟨B, es, clock, h1, _⟩ := h.map
  obtain ⟨j0, d0, hj0, hq0, hl0⟩ := needs_at ho ht hd (n := (s0, .fld x0)) (by simp [Dsc.needs])
  obtain ⟨b0, hv0, hb0⟩ := h1 j0 d0 _ hj0 hl0 hq0
  obtain ⟨j1, d1, hj1, hq1, hl1⟩ := needs_at ho ht hd (n := (s1, .fld x1)) (by simp [Dsc.needs])
  obtain ⟨b1, hv1, hb1⟩ := h1 j1 d1 _ hj1 hl1 hq1
  obtain ⟨j2, d2, hj2, hq2, hl2⟩ := needs_at ho ht hd (n := (s2, .fld x2)) (by simp [Dsc.needs])
  obtain ⟨b2, hv2, hb2⟩ := h1 j2 d2 _ hj2 hl2 hq2
  obtain ⟨j3, d3, hj3, hq3, hl3⟩ := needs_at ho ht hd (n := (s3, .fld x3)) (by simp [Dsc.needs])
  obtain ⟨b3, hv3, hb3⟩ := h1 j3 d3 _ hj3 hl3 hq3
  obtain ⟨j4, d4, hj4, hq4, hl4⟩ := needs_at ho ht hd (n := (s4, .fld x4)) (by simp [Dsc.needs])
  obtain ⟨b4, hv4, hb4⟩ := h1 j4 d4 _ hj4 hl4 hq4
  obtain ⟨j5, d5, hj5, hq5, hl5⟩ := needs_at ho ht hd (n := (s5, .fld x5)) (by simp [Dsc.needs])
  obtain ⟨b5, hv5, hb5⟩ := h1 j5 d5 _ hj5 hl5 hq5
  refine op_value ho e3 (x_bs6 e2 (by rw [ev_tmp]; exact hv0) (by rw [ev_tmp]; exact hv1) (by rw [ev_tmp]; exact hv2) (by rw [ev_tmp]; exact hv3) (by rw [ev_tmp]; exact hv4) (by rw [ev_tmp]; exact hv5)) ?_
  rw [e1]
  refine h.put ht rfl (zero_mk ht (fun _ e => by cases e)) ((Below.refl _ w).alloc (Nat.le_refl _) _) (fun _ e => by cases e) (fun B _ => slc_new w [(x0, b0), (x1, b1), (x2, b2), (x3, b3), (x4, b4), (x5, b5)] _ rfl ?_)
  intro p hp
  simp only [List.mem_cons, List.not_mem_nil, or_false] at hp
  rcases hp with rfl | rfl | rfl | rfl | rfl | rfl
  · exact hb0
  · exact hb1
  · exact hb2
  · exact hb3
  · exact hb4
  · exact hb5
end
end Go.Proofs.YtleolfpgiaimfaaDoor
