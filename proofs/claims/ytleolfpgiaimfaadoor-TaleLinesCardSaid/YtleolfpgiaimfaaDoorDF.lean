/- The forms' last region: the map made, its entries laid; the whole region. -/
import Derived.Test.YtleolfpgiaimfaaDoorDE
namespace Go.Proofs.YtleolfpgiaimfaaDoor
set_option linter.unusedVariables false
set_option linter.unusedSimpArgs false
open Go.RowKit Go.Shelf
open Go.ChangeMaps (setBlock heap_setBlock_same heap_setBlock_other)

theorem find_none (k : Int) : ∀ (es : List MapEntry) (n : Nat), (∀ e ∈ es, ∃ k', e.key = .int .i64 k' ∧ k' ≠ k) → Instr.findNow (.int .i64) (.int .i64 k) es n = some none
  | [], _, _ => rfl
  | e :: es, n, h => by
    obtain ⟨k', hk, hne⟩ := h e (by simp)
    rw [Instr.findNow, hk, Instr.sameNow, if_pos rfl, show (k == k') = false from beq_eq_false_iff_ne.2 (Ne.symm hne)]
    exact find_none k es (n + 1) fun x hx => h x (by simp [hx])
theorem find_hit (k : Int) : ∀ (es : List MapEntry) (n : Nat), (∀ e ∈ es, ∃ k', e.key = .int .i64 k') → (∃ e ∈ es, e.key = .int .i64 k) → ∃ j e, Instr.findNow (.int .i64) (.int .i64 k) es n = some (some (j, e.val)) ∧ e ∈ es ∧ e.key = .int .i64 k
  | [], _, _, h => by
    obtain ⟨e, he, _⟩ := h
    cases he
  | e :: es, n, h, hx => by
    obtain ⟨k', hk⟩ := h e (by simp)
    by_cases hkk : k = k'
    · subst hkk
      refine ⟨n, e, ?_, by simp, hk⟩
      rw [Instr.findNow, hk, Instr.sameNow, if_pos rfl, show (k == k) = true from beq_self_eq_true k]
    · obtain ⟨x, hm, hxk⟩ := hx
      have hm2 : x ∈ es := by
        rcases List.mem_cons.1 hm with rfl | hm
        · rw [hk] at hxk
          cases hxk
          exact absurd rfl hkk
        · exact hm
      obtain ⟨j, y, h1, h2, h3⟩ := find_hit k es (n + 1) (fun z hz => h z (by simp [hz])) ⟨x, hm2, hxk⟩
      refine ⟨j, y, ?_, by simp [h2], h3⟩
      rw [Instr.findNow, hk, Instr.sameNow, if_pos rfl, show (k == k') = false from beq_eq_false_iff_ne.2 hkk]
      exact h1

section
variable {W0 : World} {l : Array Bool} {a : Act} {w : World} {i : Nat} {o : Oper} {Q : Exit → Act → World → Prop}
theorem st_mk (h : Inv8 W0 l a w) {d : Nat} (ho : ops8[i]? = some o) (ht : tab8[i]? = some (.mk d)) (hl : l.getD i true = false) (e1 : o.dst = some d) (e2 : o.op = (Dsc.mk d).op.2) (e3 : o.guard = none) : wpOp Tryd.prog ops8 Q i (Inv8 W0 (l.setIfInBounds i true)) a w := by
  obtain ⟨rfl, rfl⟩ := mk_at ht
  refine op_value ho e3 (x_mk e2) ?_
  rw [e1]
  have hk := KeepC.alloc w (.map #[] 0)
  have hg := fun s => getD_put (a := a) (d := 24) (s := s) (v := .map (some w.heap.size)) (by rw [h.size]; omega)
  have hm := fun j => getD_mark (l := l) (i := 0) (j := j) (by rw [h.lsize]; omega)
  have hl0 : l.getD 0 false = false := by
    rw [Array.getD_eq_getD_getElem?] at hl ⊢
    cases hx : l[0]? with
    | none => rfl
    | some b => rw [hx] at hl; exact hl
  obtain ⟨B, es, clock, h1, _⟩ := h.map
  refine ⟨by simp [h.lsize], by show (a.tmps.setIfInBounds _ _).size = 64; simp [h.size], h.defers, fun s x hs => ?_, ?_, h.below.alloc h.below.size _, fun h0 => ?_, w.heap.size, #[], 0, fun j dj r hj hlj hr => ?_, fun _ => ⟨h.below.size, World.alloc_heap_new w _, ?_⟩⟩
  · obtain ⟨p, e, hp⟩ := h.ptr s x hs
    have := srcs_at hs
    exact ⟨p, by rw [hg, if_neg (by omega)]; exact e, hp.keep hk⟩
  · rw [hg, if_neg (by omega)]
    exact h.nine.keep hk
  · rw [hm, if_pos rfl] at h0
    cases h0
  · by_cases hj0 : j = 0
    · subst hj0
      rw [ht] at hj
      cases hj
      cases hr
      rw [hg, if_pos rfl]
      rfl
    · rw [hm, if_neg hj0] at hlj
      rw [hg, if_neg (fun e => hj0 (outs_one (q := r) (r := (24, .map)) hj ht hr rfl e))]
      exact ((h1 j dj r hj hlj hr).other ((h.first hl0 j dj hj hlj).1 r hr)).keep hk
  · refine ⟨fun e he => by simp at he, by simp, fun j k s hj hlj => ?_⟩
    by_cases hj0 : j = 0
    · subst hj0
      rw [ht] at hj
      cases hj
    · rw [hm, if_neg hj0] at hlj
      exact absurd rfl ((h.first hl0 j _ hj hlj).2 k s)
theorem st_ins (h : Inv8 W0 l a w) {k : Int} {s : Nat} (ho : ops8[i]? = some o) (ht : tab8[i]? = some (.ins k s)) (hl : l.getD i true = false) (e1 : o.dst = none) (e2 : o.op = (Dsc.ins k s).op.2) (e3 : o.guard = none) (hd : ∀ e ∈ o.after, Region.binds .any e = true → l.getD e.on false = true) : wpOp Tryd.prog ops8 Q i (Inv8 W0 (l.setIfInBounds i true)) a w := by
  have li : i < 50 := (List.getElem?_eq_some_iff.1 ht).1
  have hi0 := zero_mk ht (fun _ e => by cases e)
  obtain ⟨j1, d1, hj1, hq1, hl1⟩ := needs_at ho ht hd (n := (24, .map)) (by simp [Dsc.needs])
  obtain ⟨j2, d2, hj2, hq2, hl2⟩ := needs_at ho ht hd (n := (s, .frm k)) (by simp [Dsc.needs])
  have h0 := need_map h hj1 hl1 hq1
  obtain ⟨B, es, clock, h1, h2⟩ := h.map
  obtain ⟨hB, hw, hes⟩ := h2 h0
  have hmap : a.tmps.getD 24 undef = .map (some B) := h1 j1 d1 _ hj1 hl1 hq1
  have hfrm : FrmOk w k (a.tmps.getD s undef) := h1 j2 d2 _ hj2 hl2 hq2
  have hlf : l.getD i false = false := by
    rw [Array.getD_eq_getD_getElem?] at hl ⊢
    cases hx : l[i]? with
    | none => rfl
    | some b => rw [hx] at hl; exact hl
  have hno : Instr.findNow (.int .i64) (.int .i64 k) es.toList 0 = some none := find_none k _ _ fun e he => by
    obtain ⟨j, k', s', hk', hj, hlj, _⟩ := hes.each e he
    refine ⟨k', hk', ?_⟩
    rintro rfl
    rw [ins_one hj ht, hlf] at hlj
    cases hlj
  refine op_skip ho e3 (x_ins e2 (by rw [ev_tmp]; exact hmap) (by rw [ev_tmp]) hw hno) ?_
  rw [e1]
  have hk : KeepC w (setBlock w B (.map (es.push ⟨.int .i64 k, a.tmps.getD s undef, clock⟩) (clock + 1))) := fun g cs t fz hg => by
    have hne : g ≠ B := by
      rintro rfl
      rw [hw] at hg
      cases hg
    rw [heap_setBlock_other hw _ hne]
    exact hg
  have hm := fun j => getD_mark (l := l) (i := i) (j := j) (by rw [h.lsize]; exact li)
  refine ⟨by simp [h.lsize], h.size, h.defers, fun s x hs => ?_, h.nine.keep hk, ?_, fun h0' => ?_, B, _, clock + 1, fun j dj r hj hlj hr => ?_, fun _ => ⟨hB, heap_setBlock_same hw _, ?_⟩⟩
  · obtain ⟨p, e, hp⟩ := h.ptr s x hs
    exact ⟨p, e, hp.keep hk⟩
  · have hb := h.below
    refine ⟨hb.os, hb.tape, hb.output, ?_, fun g hg => ?_⟩
    · have := hb.size
      simpa [setBlock] using this
    · rw [heap_setBlock_other hw _ (by omega)]
      exact hb.block g hg
  · rw [hm, if_neg (Ne.symm hi0), h0] at h0'
    cases h0'
  · have hji : j ≠ i := by
      rintro rfl
      rw [ht] at hj
      cases hj
      cases hr
    rw [hm, if_neg hji] at hlj
    exact (h1 j dj r hj hlj hr).keep hk
  · refine ⟨fun e he => ?_, ?_, fun j k' s' hj hlj => ?_⟩
    · rw [Array.toList_push] at he
      rcases List.mem_append.1 he with he | he
      · obtain ⟨j, k', s', g1, g2, g3, g4, g5⟩ := hes.each e he
        refine ⟨j, k', s', g1, g2, ?_, g4.keep hk, by omega⟩
        rw [hm, g3]
        simp
      · rw [List.mem_singleton] at he
        subst he
        exact ⟨i, k, s, rfl, ht, by rw [hm, if_pos rfl], hfrm.keep hk, by show clock < clock + 1; omega⟩
    · rw [Array.toList_push, List.map_append, List.nodup_append]
      refine ⟨hes.nodup, by simp, fun x hx y hy e => ?_⟩
      obtain ⟨z, hz, rfl⟩ := List.mem_map.1 hx
      obtain ⟨_, _, _, _, _, _, _, hlt⟩ := hes.each z hz
      simp at hy
      omega
    · rw [Array.toList_push]
      by_cases hji : j = i
      · subst hji
        rw [ht] at hj
        cases hj
        exact ⟨⟨.int .i64 k, a.tmps.getD s undef, clock⟩, List.mem_append.2 (.inr (List.mem_singleton.2 rfl)), rfl⟩
      · rw [hm, if_neg hji] at hlj
        obtain ⟨e, he, hke⟩ := hes.has j k' s' hj hlj
        exact ⟨e, by simp only [List.mem_append]; exact .inl he, hke⟩
/-- whichever operation comes up -/
theorem st_all (h : Inv8 W0 l a w) (ho : ops8[i]? = some o) (hl : l.getD i true = false) (hd : ∀ e ∈ o.after, Region.binds .any e = true → l.getD e.on false = true) : wpOp Tryd.prog ops8 Q i (Inv8 W0 (l.setIfInBounds i true)) a w := by
  obtain ⟨d, ht, e1, e2, e3⟩ := op_at ho
  cases d with
  | mk d => exact st_mk h ho ht hl e1 e2 e3
  | ld d s x => exact st_ld h ho ht e1 e2 e3
  | ys d f x => exact st_ys h ho ht e1 e2 e3
  | bd d k s => exact st_bd h ho ht e1 e2 e3 hd
  | ins k s => exact st_ins h ho ht hl e1 e2 e3 hd
  | m9 d => exact st_m9 h ho ht e1 e2 e3
  | mm d => exact st_mm h ho ht e1 e2 e3 hd
  | as0 => exact st_as h ho ht e1 e2 e3 hd
  | bs d ss =>
    rcases bs_at ht with hn | hn | hn | hn
    · match ss, hn with
      | [(s0, x0)], _ => exact st_bs1 h ho ht e1 e2 e3 hd
    · match ss, hn with
      | [(s0, x0), (s1, x1)], _ => exact st_bs2 h ho ht e1 e2 e3 hd
    · match ss, hn with
      | [(s0, x0), (s1, x1), (s2, x2)], _ => exact st_bs3 h ho ht e1 e2 e3 hd
    · match ss, hn with
      | [(s0, x0), (s1, x1), (s2, x2), (s3, x3), (s4, x4), (s5, x5)], _ => exact st_bs6 h ho ht e1 e2 e3 hd
end

/-- the map of the forms -/
def FormsAt (w : World) (B : Nat) (es : Array MapEntry) (clock : Nat) : Prop :=
  w.heap[B]? = some (.map es clock) ∧ (∀ e ∈ es.toList, ∃ k, e.key = .int .i64 k ∧ FrmOk w k e.val ∧ e.born < clock) ∧ (es.toList.map (·.born)).Nodup ∧ ∀ k p, formL k = some p → ∃ e ∈ es.toList, e.key = .int .i64 k
/-- what forms hands back -/
def FormsOut (W0 : World) (e : Ending) (w : World) : Prop := ∃ B es clock, e = .returned (.map (some B)) ∧ W0.heap.size ≤ B ∧ FormsAt w B es clock ∧ Below W0.heap.size W0 w
theorem ins_has {k : Int} {p : List UInt8 × List Fk} (h : formL k = some p) : ∃ i s, i < 50 ∧ tab8[i]? = some (.ins k s) := by
  rcases formL_some h with rfl | rfl | rfl | rfl | rfl | rfl | rfl | rfl | rfl
  · exact ⟨9, 32, by omega, rfl⟩
  · exact ⟨13, 35, by omega, rfl⟩
  · exact ⟨18, 39, by omega, rfl⟩
  · exact ⟨22, 42, by omega, rfl⟩
  · exact ⟨25, 44, by omega, rfl⟩
  · exact ⟨31, 49, by omega, rfl⟩
  · exact ⟨37, 54, by omega, rfl⟩
  · exact ⟨42, 58, by omega, rfl⟩
  · exact ⟨47, 62, by omega, rfl⟩
theorem ops8_size : ops8.size = 50 := by kernel_rfl
/-- the whole region -/
theorem region8 {W0 : World} {a : Act} {w : World} {Q : Exit → Act → World → Prop} {id : Nat} (h : Inv8 W0 (Array.replicate 50 false) a w.drew)
    (hQ : ∀ a w, (∃ B es clock, a.tmps.getD 0 undef = .map (some B) ∧ a.defers = [] ∧ W0.heap.size ≤ B ∧ FormsAt w B es clock ∧ Below W0.heap.size W0 w) → Q .normal a w) : (Code.region id ops8 true).wp Tryd.prog Q a w := by
  refine wp_region_inv (Inv8 W0) (by kernel_rfl) ops8_low (by rw [ops8_size]; exact h) (fun l a w i o hI ho hl hd => st_all hI ho hl hd) (fun l a w hI hall => hQ a w ?_)
  have hall' : ∀ j, j < 50 → l.getD j false = true := fun j hj => by
    have := hall j (by rw [ops8_size]; exact hj)
    rw [Array.getD_eq_getD_getElem?, Array.getElem?_eq_getElem (by rw [hI.lsize]; exact hj)] at this ⊢
    exact this
  obtain ⟨B, es, clock, h1, h2⟩ := hI.map
  obtain ⟨hB, hw, hes⟩ := h2 (hall' 0 (by omega))
  refine ⟨B, es, clock, h1 49 .as0 (0, .map) rfl (hall' 49 (by omega)) rfl, hI.defers, hB, ⟨hw, fun e he => ?_, hes.nodup, fun k p hk => ?_⟩, hI.below⟩
  · obtain ⟨j, k, s, g1, _, _, g4, g5⟩ := hes.each e he
    exact ⟨k, g1, g4, g5⟩
  · obtain ⟨i, s, hi, hti⟩ := ins_has hk
    exact hes.has i k s hti (hall' i hi)

end Go.Proofs.YtleolfpgiaimfaaDoor
