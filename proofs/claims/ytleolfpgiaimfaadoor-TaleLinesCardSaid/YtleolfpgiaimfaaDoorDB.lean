/- The forms' last region as a table: what each operation is, what it needs, what it lays. -/
import Derived.Test.YtleolfpgiaimfaaDoorD9
import Derived.Test.YtleolfpgiaimfaaDoorD3
import Derived.Test.YtleolfpgiaimfaaDoorD4
namespace Go.Proofs.YtleolfpgiaimfaaDoor
set_option linter.unusedVariables false
set_option linter.unusedSimpArgs false
open Go.RowKit Go.Shelf

/-- a region's operations -/
def regionOps (id : Nat) : Code → Option (Array Oper)
  | .region i ops _ => if i = id then some ops else none
  | .seq a b => (regionOps id a).orElse fun _ => regionOps id b
  | .block _ b => regionOps id b
  | .loop b => regionOps id b
  | .scope b => regionOps id b
  | _ => none
noncomputable def ops8 : Array Oper := (Tryd.f11.body.bind (regionOps 8)).getD #[]

/-- an operation of it -/
inductive Dsc where
  | mk (d : Nat)
  | ld (d s : Nat) (x : Fk)
  | ys (d f : Nat) (x : Fk)
  | bs (d : Nat) (ss : List (Nat × Fk))
  | bd (d : Nat) (k : Int) (s : Nat)
  | ins (k : Int) (s : Nat)
  | m9 (d : Nat)
  | mm (d : Nat)
  | as0
/-- what a slot holds -/
inductive Kd where
  | map
  | fld (x : Fk)
  | slc (fs : List Fk)
  | frm (k : Int)
  deriving DecidableEq
def formFs (k : Int) : List Fk := ((formL k).map (·.2)).getD []
def formW (k : Int) : List UInt8 := ((formL k).map (·.1)).getD []
def Dsc.op : Dsc → Option Tmp × Op
  | .mk d => (some d, .makeMap 42 none)
  | .ld d s _ => (some d, .load 48 (.tmp s))
  | .ys d f _ => (some d, .call { callee := .value (.func 38), args := #[.func f], argTypes := #[69] })
  | .bs d ss => (some d, .buildSlice 38 ss.length ((ss.zipIdx.map fun p => (p.2, Operand.tmp p.1.1)).toArray))
  | .bd d k s => (some d, .build 40 #[(0, .const (.string (Go.Proofs.YtleolfpgiaimfaaDoor.bs (formW k)))), (1, .tmp s)])
  | .ins k s => (none, .insert 42 (.tmp 24) (.const (.int .i64 k)) (.tmp s))
  | .m9 d => (some d, .move (.tmp 9))
  | .mm d => (some d, .move (.tmp 24))
  | .as0 => (some 0, .assign (.tmp 63))
def Dsc.out : Dsc → Option (Nat × Kd)
  | .mk d => some (d, .map)
  | .ld d _ x => some (d, .fld x)
  | .ys d _ x => some (d, .fld x)
  | .bs d ss => some (d, .slc (ss.map (·.2)))
  | .bd d k _ => some (d, .frm k)
  | .ins _ _ => none
  | .m9 d => some (d, .slc (formFs 5))
  | .mm d => some (d, .map)
  | .as0 => some (0, .map)
def Dsc.needs : Dsc → List (Nat × Kd)
  | .bs _ ss => ss.map fun p => (p.1, .fld p.2)
  | .bd _ k s => [(s, .slc (formFs k))]
  | .ins k s => [(24, .map), (s, .frm k)]
  | .mm _ => [(24, .map)]
  | .as0 => [(63, .map)]
  | _ => []
def tab8 : List Dsc := [.mk 24,
  .ld 25 1 .who, .ld 26 2 .dst, .ld 27 5 .thread, .ld 28 6 .body, .ys 29 39 .sec, .ld 30 7 .fresh, .bs 31 [(25, .who), (26, .dst), (27, .thread), (28, .body), (29, .sec), (30, .fresh)], .bd 32 1 31, .ins 1 32,
  .ld 33 1 .who, .bs 34 [(33, .who)], .bd 35 2 34, .ins 2 35,
  .ld 36 3 .n, .ys 37 40 .stays, .bs 38 [(36, .n), (37, .stays)], .bd 39 3 38, .ins 3 39,
  .ld 40 3 .n, .bs 41 [(40, .n)], .bd 42 4 41, .ins 4 42,
  .m9 43, .bd 44 5 43, .ins 5 44,
  .ld 45 3 .n, .ld 46 4 .m, .ld 47 8 .turn, .bs 48 [(45, .n), (46, .m), (47, .turn)], .bd 49 6 48, .ins 6 49,
  .ld 50 1 .who, .ld 51 3 .n, .ld 52 7 .fresh, .bs 53 [(50, .who), (51, .n), (52, .fresh)], .bd 54 7 53, .ins 7 54,
  .ld 55 1 .who, .ld 56 6 .body, .bs 57 [(55, .who), (56, .body)], .bd 58 8 57, .ins 8 58,
  .ld 59 1 .who, .ld 60 5 .thread, .bs 61 [(59, .who), (60, .thread)], .bd 62 9 61, .ins 9 62,
  .mm 63, .as0]
theorem tab8_ops : ops8.toList.map (fun o => (o.dst, o.op, o.guard)) = tab8.map fun d => (d.op.1, d.op.2, none) := by kernel_rfl
theorem ops8_low : lowEdges ops8 = true := by kernel_rfl
/-- what an operation needs has been laid by one that it waits for -/
noncomputable def needsOk (i : Nat) : Bool := match ops8[i]?, tab8[i]? with
  | some o, some d => d.needs.all fun n => o.after.toList.any fun e => Region.binds .any e && decide (((tab8[e.on]?).bind Dsc.out) = some n)
  | _, _ => true
theorem needs_all : (List.range 50).all needsOk = true := by kernel_rfl
/-- no slot is laid twice, none of the first -/
theorem outs_nodup : (tab8.filterMap fun d => d.out.map (·.1)).Nodup := by decide
theorem outs_far : ∀ d ∈ tab8, ∀ q, d.out = some q → (q.1 = 0 ∨ 24 ≤ q.1) ∧ q.1 < 64 := by decide
/-- loads' sources -/
def srcs : List (Nat × Fk) := [(1, .who), (2, .dst), (3, .n), (4, .m), (5, .thread), (6, .body), (7, .fresh), (8, .turn)]
def ldOk : Dsc → Bool
  | .ld _ s x => decide ((s, x) ∈ srcs)
  | _ => true
theorem lds_all : tab8.all ldOk = true := by decide
theorem lds_ok {i a s : Nat} {x : Fk} (h : tab8[i]? = some (.ld a s x)) : (s, x) ∈ srcs := by
  have := List.all_eq_true.1 lds_all _ (List.mem_of_getElem? h)
  exact of_decide_eq_true this
def ysOk : Dsc → Bool
  | .ys _ f x => decide (boxC x = some (69, f))
  | _ => true
theorem yss_all : tab8.all ysOk = true := by decide
theorem ys_ok {i a f : Nat} {x : Fk} (h : tab8[i]? = some (.ys a f x)) : boxC x = some (69, f) ∧ (x = .sec ∨ x = .stays) := by
  have h1 := List.all_eq_true.1 yss_all _ (List.mem_of_getElem? h)
  have h2 : boxC x = some (69, f) := of_decide_eq_true h1
  refine ⟨h2, ?_⟩
  revert h2
  cases x <;> simp [boxC]
/-- an operation as its description tells it -/
theorem op_at {i : Nat} {o : Oper} (h : ops8[i]? = some o) : ∃ d, tab8[i]? = some d ∧ o.dst = d.op.1 ∧ o.op = d.op.2 ∧ o.guard = none := by
  have h1 : (ops8.toList.map (fun o => (o.dst, o.op, o.guard)))[i]? = some (o.dst, o.op, o.guard) := by
    rw [List.getElem?_map, Array.getElem?_toList, h]
    rfl
  rw [tab8_ops, List.getElem?_map] at h1
  cases hd : tab8[i]? with
  | none => rw [hd] at h1; cases h1
  | some d =>
    rw [hd] at h1
    have h2 := Option.some.inj h1
    rw [Prod.mk.injEq, Prod.mk.injEq] at h2
    exact ⟨d, rfl, h2.1.symm, h2.2.1.symm, h2.2.2.symm⟩
theorem needs_at {i : Nat} {o : Oper} {d : Dsc} (h : ops8[i]? = some o) (hd : tab8[i]? = some d) {l : Array Bool} (hl : ∀ e ∈ o.after, Region.binds .any e = true → l.getD e.on false = true) {n : Nat × Kd} (hn : n ∈ d.needs) :
    ∃ j dj, tab8[j]? = some dj ∧ dj.out = some n ∧ l.getD j false = true := by
  have hi : i < 50 := by
    have := (List.getElem?_eq_some_iff.1 hd).1
    exact this
  have h1 := List.all_eq_true.1 needs_all i (List.mem_range.2 hi)
  unfold needsOk at h1
  rw [h, hd] at h1
  have h2 := List.all_eq_true.1 h1 n hn
  obtain ⟨e, he, h3⟩ := List.any_eq_true.1 h2
  rw [Bool.and_eq_true] at h3
  have h4 := of_decide_eq_true h3.2
  cases hj : tab8[e.on]? with
  | none => rw [hj] at h4; cases h4
  | some dj =>
    rw [hj] at h4
    exact ⟨e.on, dj, hj, h4, hl e (by simpa using he) h3.1⟩
end Go.Proofs.YtleolfpgiaimfaaDoor
