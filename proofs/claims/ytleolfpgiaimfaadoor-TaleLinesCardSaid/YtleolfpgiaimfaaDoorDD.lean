/- The forms' last region: what holds whatever has been done of it. -/
import Derived.Test.YtleolfpgiaimfaaDoorDC
import Derived.Test.YtleolfpgiaimfaaDoorDP
namespace Go.Proofs.YtleolfpgiaimfaaDoor
set_option linter.unusedVariables false
set_option linter.unusedSimpArgs false
open Go.RowKit Go.Shelf

/-- a slice of fields -/
def SlcOk (w : World) (fs : List Fk) (v : Value) : Prop := ∃ (g : Nat) (cs : List Value), v = .slice (some ⟨g, 0, none⟩) fs.length fs.length ∧ Row w g 48 cs ∧ ∀ (i : Nat) (x : Fk), fs[i]? = some x → ∃ box, cs[2 * i]? = some (fvs x box).1 ∧ cs[2 * i + 1]? = some (fvs x box).2 ∧ BoxOk w x box
theorem SlcOk.keep {w w' : World} {fs : List Fk} {v : Value} (h : SlcOk w fs v) (k : KeepC w w') : SlcOk w' fs v := by
  obtain ⟨g, cs, e, hr, hi⟩ := h
  refine ⟨g, cs, e, k.row hr, fun i x hx => ?_⟩
  obtain ⟨box, h1, h2, h3⟩ := hi i x hx
  exact ⟨box, h1, h2, h3.keep k⟩
/-- a form -/
def FrmOk (w : World) (k : Int) (v : Value) : Prop := ∃ (word : List UInt8) (fs : List Fk) (s : Value), formL k = some (word, fs) ∧ v = .agg #[.string (bs word), s] ∧ SlcOk w fs s
theorem FrmOk.keep {w w' : World} {k : Int} {v : Value} (h : FrmOk w k v) (hk : KeepC w w') : FrmOk w' k v := by
  obtain ⟨word, fs, s, h1, h2, h3⟩ := h
  exact ⟨word, fs, s, h1, h2, h3.keep hk⟩
/-- a slot's value is of its kind -/
def KdOk (w : World) (B : Nat) : Kd → Value → Prop
  | .map, v => v = .map (some B)
  | .fld x, v => FldOk w x v
  | .slc fs, v => SlcOk w fs v
  | .frm k, v => FrmOk w k v
theorem KdOk.keep {w w' : World} {B : Nat} {q : Kd} {v : Value} (h : KdOk w B q v) (k : KeepC w w') : KdOk w' B q v := by
  cases q with
  | map => exact h
  | fld x => exact FldOk.keep h k
  | slc fs => exact SlcOk.keep h k
  | frm j => exact FrmOk.keep h k
theorem KdOk.other {w : World} {B B' : Nat} {q : Kd} {v : Value} (h : KdOk w B q v) (hq : q ≠ .map) : KdOk w B' q v := by
  cases q with
  | map => exact absurd rfl hq
  | fld x => exact h
  | slc fs => exact h
  | frm j => exact h
/-- the map's entries -/
structure EsOk (l : Array Bool) (w : World) (es : Array MapEntry) (clock : Nat) : Prop where
  each : ∀ e ∈ es.toList, ∃ (i : Nat) (k : Int) (s : Nat), e.key = .int .i64 k ∧ tab8[i]? = some (.ins k s) ∧ l.getD i false = true ∧ FrmOk w k e.val ∧ e.born < clock
  nodup : (es.toList.map (·.born)).Nodup
  has : ∀ (i : Nat) (k : Int) (s : Nat), tab8[i]? = some (.ins k s) → l.getD i false = true → ∃ e ∈ es.toList, e.key = .int .i64 k
/-- what holds whatever has been done -/
structure Inv8 (W0 : World) (l : Array Bool) (a : Act) (w : World) : Prop where
  lsize : l.size = 50
  size : a.tmps.size = 64
  defers : a.defers = []
  ptr : ∀ s x, (s, x) ∈ srcs → ∃ p, a.tmps.getD s undef = .pointer (some ⟨p, 0, none⟩) ∧ Pt w p x
  nine : SlcOk w (formFs 5) (a.tmps.getD 9 undef)
  below : Below W0.heap.size W0 w
  first : l.getD 0 false = false → ∀ (j : Nat) (d : Dsc), tab8[j]? = some d → l.getD j false = true → (∀ q, d.out = some q → q.2 ≠ .map) ∧ ∀ k s, d ≠ .ins k s
  map : ∃ (B : Nat) (es : Array MapEntry) (clock : Nat), (∀ (j : Nat) (d : Dsc) (q : Nat × Kd), tab8[j]? = some d → l.getD j false = true → d.out = some q → KdOk w B q.2 (a.tmps.getD q.1 undef)) ∧ (l.getD 0 false = true → W0.heap.size ≤ B ∧ w.heap[B]? = some (.map es clock) ∧ EsOk l w es clock)

/-- no slot is laid by two -/
def outK (i : Nat) : Option Nat := (tab8[i]?).bind fun d => d.out.map (·.1)
theorem outs_fin : ∀ i j : Fin 50, outK i = outK j → outK i ≠ none → i = j := by decide +kernel
theorem outs_one {i j : Nat} {d e : Dsc} {q r : Nat × Kd} (hi : tab8[i]? = some d) (hj : tab8[j]? = some e) (hq : d.out = some q) (hr : e.out = some r) (h : q.1 = r.1) : i = j := by
  have li : i < 50 := (List.getElem?_eq_some_iff.1 hi).1
  have lj : j < 50 := (List.getElem?_eq_some_iff.1 hj).1
  have h1 : outK i = some q.1 := by unfold outK; rw [hi, Option.bind_some, hq]; rfl
  have h2 : outK j = some r.1 := by unfold outK; rw [hj, Option.bind_some, hr]; rfl
  have := outs_fin ⟨i, li⟩ ⟨j, lj⟩ (by show outK i = outK j; rw [h1, h2, h]) (by show outK i ≠ none; rw [h1]; simp)
  exact congrArg Fin.val this
def insK (i : Nat) : Option Int := match tab8[i]? with | some (.ins k _) => some k | _ => none
theorem ins_fin : ∀ i j : Fin 50, insK i = insK j → insK i ≠ none → i = j := by decide +kernel
theorem ins_one {i j s t : Nat} {k : Int} (hi : tab8[i]? = some (.ins k s)) (hj : tab8[j]? = some (.ins k t)) : i = j := by
  have li : i < 50 := (List.getElem?_eq_some_iff.1 hi).1
  have lj : j < 50 := (List.getElem?_eq_some_iff.1 hj).1
  have h1 : insK i = some k := by unfold insK; rw [hi]
  have h2 : insK j = some k := by unfold insK; rw [hj]
  have := ins_fin ⟨i, li⟩ ⟨j, lj⟩ (by show insK i = insK j; rw [h1, h2]) (by show insK i ≠ none; rw [h1]; simp)
  exact congrArg Fin.val this
theorem far_out {j : Nat} {d : Dsc} {q : Nat × Kd} (hj : tab8[j]? = some d) (hq : d.out = some q) : (q.1 = 0 ∨ 24 ≤ q.1) ∧ q.1 < 64 := outs_far d (List.mem_of_getElem? hj) q hq
theorem srcs_at {s : Nat} {x : Fk} (h : (s, x) ∈ srcs) : 1 ≤ s ∧ s ≤ 8 := by
  simp [srcs] at h
  omega
theorem getD_put {a : Act} {d s : Nat} {v : Value} (hd : d < a.tmps.size) : (a.put (some d) v).tmps.getD s undef = if s = d then v else a.tmps.getD s undef := by
  show (a.tmps.setIfInBounds d v).getD s undef = _
  rw [Array.getD_eq_getD_getElem?, Array.getD_eq_getD_getElem?, Array.getElem?_setIfInBounds]
  by_cases h : s = d
  · subst h
    simp [hd]
  · rw [if_neg (fun e => h e.symm), if_neg h]
theorem getD_mark {l : Array Bool} {i j : Nat} (hi : i < l.size) : (l.setIfInBounds i true).getD j false = if j = i then true else l.getD j false := by
  rw [Array.getD_eq_getD_getElem?, Array.getD_eq_getD_getElem?, Array.getElem?_setIfInBounds]
  by_cases h : j = i
  · subst h
    simp [hi]
  · rw [if_neg (fun e => h e.symm), if_neg h]

/-- an operation that lays one value -/
theorem Inv8.put {W0 : World} {l : Array Bool} {a : Act} {w w' : World} (h : Inv8 W0 l a w) {i : Nat} {d : Dsc} {q : Nat × Kd} {v : Value} (ht : tab8[i]? = some d) (hq : d.out = some q) (hi0 : i ≠ 0) (hb : Below w.heap.size w w')
    (hf : l.getD 0 false = false → q.2 ≠ .map)
    (hv : ∀ B, (∀ (j : Nat) (dj : Dsc) (r : Nat × Kd), tab8[j]? = some dj → l.getD j false = true → dj.out = some r → KdOk w B r.2 (a.tmps.getD r.1 undef)) → KdOk w' B q.2 v) :
    Inv8 W0 (l.setIfInBounds i true) (a.put (some q.1) v) w' := by
  have li : i < 50 := (List.getElem?_eq_some_iff.1 ht).1
  have hk := KeepC.below hb
  have hfar := far_out ht hq
  have hg := fun s => getD_put (a := a) (d := q.1) (s := s) (v := v) (by rw [h.size]; exact hfar.2)
  have hm := fun j => getD_mark (l := l) (i := i) (j := j) (by rw [h.lsize]; exact li)
  obtain ⟨B, es, clock, h1, h2⟩ := h.map
  refine ⟨by simp [h.lsize], by show (a.tmps.setIfInBounds _ _).size = 64; simp [h.size], h.defers, fun s x hs => ?_, ?_, h.below.trans (hb.mono h.below.size), fun h0 j dj hj hl => ?_, B, es, clock, fun j dj r hj hl hr => ?_, fun h0 => ?_⟩
  · obtain ⟨p, e, hp⟩ := h.ptr s x hs
    have := srcs_at hs
    exact ⟨p, by rw [hg, if_neg (by omega)]; exact e, hp.keep hk⟩
  · rw [hg, if_neg (by omega)]
    exact h.nine.keep hk
  · rw [hm, if_neg (Ne.symm hi0)] at h0
    rw [hm] at hl
    by_cases hji : j = i
    · subst hji
      rw [ht] at hj
      cases hj
      refine ⟨fun r hr => ?_, fun k s e => ?_⟩
      · rw [hq] at hr
        cases hr
        exact hf h0
      · rw [e] at hq
        cases hq
    · rw [if_neg hji] at hl
      exact h.first h0 j dj hj hl
  · rw [hm] at hl
    by_cases hji : j = i
    · subst hji
      rw [ht] at hj
      cases hj
      rw [hq] at hr
      cases hr
      rw [hg, if_pos rfl]
      exact hv B h1
    · rw [if_neg hji] at hl
      rw [hg, if_neg (fun e => hji (outs_one hj ht hr hq e))]
      exact (h1 j dj r hj hl hr).keep hk
  · rw [hm, if_neg (Ne.symm hi0)] at h0
    obtain ⟨hB, hw, hes⟩ := h2 h0
    refine ⟨hB, (hb.block B (Array.getElem?_eq_some_iff.1 hw).1).trans hw, fun e he => ?_, hes.nodup, fun j k s hj hl => ?_⟩
    · obtain ⟨j, k, s, e1, e2, e3, e4, e5⟩ := hes.each e he
      refine ⟨j, k, s, e1, e2, ?_, e4.keep hk, e5⟩
      rw [hm, e3]
      simp
    · rw [hm] at hl
      by_cases hji : j = i
      · subst hji
        rw [ht] at hj
        cases hj
        cases hq
      · rw [if_neg hji] at hl
        exact hes.has j k s hj hl

end Go.Proofs.YtleolfpgiaimfaaDoor
