/- RewriteFields: the statement, tied to what the program's text lays: by the walk of the law over the contracts of what it calls. -/
import Derived.Test.YtcagkoakbdbbaaaGreatDoorCards
import Derived.Test.YtcagkoakbdbbaaaGreatDoorTie
import Derived.Test.YtcagkoakbdbbaaaGreatDoorJ01
import Derived.Test.YtcagkoakbdbbaaaGreatDoorJ27
import Derived.Test.YtcagkoakbdbbaaaGreatDoorJ47
import Derived.Test.YtcagkoakbdbbaaaGreatDoorJ50
import Derived.Deep.DeepHandedRow
import Derived.WalkKit
import Derived.ProofKit
import Derived.Below
import Derived.Lay
import Derived.OpenShut
import Derived.ShutString
import Derived.Lib.SmallJoins
namespace Go.Proofs.YtcagkoakbdbbaaaGreatDoor.rewriteFields
open Go.Proofs.YtcagkoakbdbbaaaGreatDoor.Fd Go.ChangeShapes Go.WideShapes Go.ChangeAt Go.RowKit Go.Joins
open Go.ChangeMaps (open_string shut_string)
set_option linter.unusedVariables false
set_option linter.unusedSimpArgs false

theorem Pl_ok {P : Program} {w : World} {r : Reach} {base : Nat} {t e : TypeId} {A : Option Addr} {n c : Nat} (ht : P.underlying t = some (.slice e)) (h : Value.okWide P w r base t (.slice A n c)) : Pl A c := by
  have h' : Cell.ok P w r base t (.slice A n c) := by simpa [Value.okWide, Cell.okWide, ht] using h
  rcases A with _ | ⟨b, o, s⟩
  · refine .inl ⟨rfl, ?_⟩
    rcases c with _ | c
    · rfl
    · exfalso
      rcases n with _ | n <;> simp [Cell.ok, ht] at h'
  · right
    simp only [Cell.ok, ht, World.has] at h'
    obtain ⟨_, _, _, hs, _⟩ := h'
    subst hs
    exact ⟨b, o, rfl⟩
theorem own : ownKnob Tryz.prog.godebug = none := by kernel_rfl
theorem laidOut : laidOutB Tryz.prog = true := by kernel_rfl
theorem laid_met (os : Os) : laidMet Tryz.prog Rows.rewriteFieldsRow.laid ((World.laidAll Tryz.prog os Rows.rewriteFieldsRow.laid).forCall (fun _ _ => 0) ⟨#[], #[.agg #[.slice none 0 0, .slice none 0 0], .slice none 0 0, .string ByteArray.empty], []⟩).memory :=
  laidMet_laidAll _ (by kernel_rfl) (by kernel_rfl)
theorem reads (os : Os) {H : Type} (enc : TypeId × Value → H) : ∃ places, DataW.whole enc Tryz.prog ((World.laidAll Tryz.prog os Rows.rewriteFieldsRow.laid).forCall (fun _ _ => 0) ⟨#[], #[.agg #[.slice none 0 0, .slice none 0 0], .slice none 0 0, .string ByteArray.empty], []⟩).memory Tryz.f5.params.toList Rows.rewriteFieldsSpec.vars false (#[.agg #[.slice none 0 0, .slice none 0 0], .slice none 0 0, .string ByteArray.empty] : Array Value).toList 8 = some ([.agg [.nil, .nil], .nil, .lit (.string [])], [], places) :=
  ⟨[], by kernel_rfl⟩

set_option maxRecDepth 100000 in
theorem lifted (os : Os) (started : os.Started) (H : Type) (enc : TypeId × Value → H) (F : Stop.Interp) :
    ReturnsInHanded {} Tryz.checked os 5 .any ((OpenSpec.ofChange Rows.rewriteFieldsSpec).preRow enc Tryz.prog Tryz.f5 Rows.rewriteFieldsRow.domain false Rows.rewriteFieldsRow.laid) (((OpenSpec.ofChange Rows.rewriteFieldsSpec).at F).post enc Tryz.prog Tryz.f5 false true false false) := by
  obtain ⟨places, hx⟩ := reads os enc
  have hok : Input.okWideB Tryz.prog ((World.laidAll Tryz.prog os Rows.rewriteFieldsRow.laid).forCall (fun _ _ => 0) ⟨#[], #[.agg #[.slice none 0 0, .slice none 0 0], .slice none 0 0, .string ByteArray.empty], []⟩) 5 ⟨#[], #[.agg #[.slice none 0 0, .slice none 0 0], .slice none 0 0, .string ByteArray.empty], []⟩ = true := by kernel_rfl
  refine returnsInHanded_of_row (C := Tryz.checked) (s := OpenSpec.ofChange Rows.rewriteFieldsSpec) own started (by kernel_rfl) Tryz.func5
    ⟨World.laidAll Tryz.prog os Rows.rewriteFieldsRow.laid, fun _ _ => 0, ⟨#[], #[.agg #[.slice none 0 0, .slice none 0 0], .slice none 0 0, .string ByteArray.empty], []⟩, World.laidAll_os _ _ _, World.shaped_of_ZipB (by kernel_rfl) (by kernel_rfl), (Input.okWide_of_okWideB (base := 0) hok).1, (Input.okWide_of_okWideB hok).2,
      (OpenSpec.preRow_of_cond 8 hx (by kernel_rfl) (fun k hk => by cases hk) (by kernel_rfl) (laid_met os)), by
      simp only [Assume.holds]
      exact ⟨by simp, by simp, fun _ => Modest.zero, by simp, by simp⟩⟩ ?_
  intro W base args ds gs before hval0 hW _ hcond0 hwt0 hL0 hSh _
  have hL : laidMet Tryz.prog Rows.rewriteFieldsRow.laid W := hL0
  have hG : Gl W := gl_laid hL (Tryz.laysM185.s1_3 W hSh) (by simp [Rows.rewriteFieldsRow]) (by simp [Rows.rewriteFieldsRow]) (by simp [Rows.rewriteFieldsRow]) (by simp [Rows.rewriteFieldsRow])
  have hval : ∀ (j : Nat) t v, Tryz.f5.params[j]? = some t → args[j]? = some v → Value.okWide Tryz.prog W .any base t v := hval0
  have hW' := hW
  obtain ⟨p, q, hA0, hV, rfl, hfz, hnd⟩ := hW
  have hA : DataW.TrodAll enc Tryz.prog W 0 (fun _ => true) true Tryz.f5.params.toList args.toList ds p := hA0
  rw [Tryz.params5] at hA hval
  obtain ⟨v0, vs0, d0, ds0, p0, q0, hargs, rfl, rfl, h0, tr0⟩ := trodAll_cons hA
  obtain ⟨v1, vs1, d1, ds1, p1, q1, rfl, rfl, rfl, h1, tr1⟩ := trodAll_cons tr0
  obtain ⟨v2, vs2, d2, ds2, p2, q2, rfl, rfl, rfl, h2, tr2⟩ := trodAll_cons tr1
  obtain ⟨rfl, rfl, rfl⟩ := trodAll_nil tr2
  obtain rfl : args = #[v0, v1, v2] := by cases args; simp_all
  obtain ⟨rfl, rfl⟩ := trodVars_none hV
  have k0 := h0
  have lt0 : ∀ x ∈ p0, x.block < W.heap.size := by obtain ⟨m, hm⟩ := k0; exact DataW.trod_lt m _ _ _ hm
  obtain ⟨n0, u0, y0, z0, m0, rfl, _, _, tn0, tu0⟩ := open_agg2 Tryz.underlying32 (by kernel_rfl) (by kernel_rfl) (hval 0 32 v0 rfl rfl) h0
  obtain ⟨an0, lenn0, capn0, hn0⟩ := slice_form Tryz.underlying30 tn0
  obtain rfl : n0 = .slice an0 lenn0 capn0 := by simpa using hn0
  obtain ⟨au0, lenu0, capu0, hu0⟩ := slice_form Tryz.underlying22 tu0
  obtain rfl : u0 = .slice au0 lenu0 capu0 := by simpa using hu0
  have tf0 : DataW.Trod enc Tryz.prog W 0 (fun _ => true) true 30 (.slice an0 lenn0 capn0) y0.1 y0.2 := ⟨m0, by simpa [Value.cells] using tn0⟩
  obtain ⟨l0, e0, c0, x0, r0, s0⟩ := Rf_row Tryz.underlying30 Tryz.underlying37 Tryz.underlying9 ⟨rfl, rfl, rfl, rfl⟩ ⟨by kernel_rfl, by kernel_rfl⟩ tf0
  obtain ⟨b0, eb0, cb0, xb0, rb0⟩ : ∃ l : List UInt8, l.length = lenu0 ∧ lenu0 ≤ capu0 ∧ capu0 ≤ maxLen ∧ Rb W au0 l := by
    rcases open_ints Tryz.underlying22 Tryz.underlying5 (by kernel_rfl) tu0 with ⟨hcs, _⟩ | ⟨x, l, c, zs, hcs, _, hl, hm, hz, _, hcell, hwz⟩
    · simp at hcs
      obtain ⟨rfl, rfl, rfl⟩ := hcs
      exact Rb_row (zs := []) (.inl ⟨rfl, rfl, rfl, rfl⟩)
    · simp at hcs
      obtain ⟨rfl, rfl, rfl⟩ := hcs
      exact Rb_row (.inr ⟨_, rfl, hl, hm, by simpa using hz, hcell, hwz⟩)
  have k1 := h1
  have lt1 : ∀ x ∈ p1, x.block < W.heap.size := by obtain ⟨m, hm⟩ := k1; exact DataW.trod_lt m _ _ _ hm
  obtain ⟨a1, len1, cap1, rfl⟩ := okWide_slice Tryz.underlying33 (hval 1 33 v1 rfl rfl)
  obtain ⟨l1, e1, c1, x1, r1, s1⟩ := Rw_row Tryz.underlying33 Tryz.underlying26 Tryz.underlying9 Tryz.underlying3 ⟨rfl, rfl, rfl, rfl, rfl, rfl, rfl, rfl⟩ ⟨by kernel_rfl, by kernel_rfl, by kernel_rfl⟩ h1
  have k2 := h2
  have lt2 : ∀ x ∈ p2, x.block < W.heap.size := by obtain ⟨m, hm⟩ := k2; exact DataW.trod_lt m _ _ _ hm
  obtain ⟨a2, rfl, _, _, w2⟩ := open_string Tryz.underlying9 (hval 2 9 v2 rfl rfl) h2
  obtain ⟨l2, rfl⟩ : ∃ l, a2 = bs l := ⟨_, (bs_of a2).symm⟩
  have s2 : l2.length ≤ 9223372036854775807 := by have := w2; rw [bs_size] at this; exact this
  clear hA0 hval0
  refine Calls.mono (R := fun e W' => e = .returned (.bool true) ∧ Below W.heap.size W W') (rewriteFields_any an0 au0 a1 l0 b0 l2 l1 lenn0 capn0 lenu0 capu0 len1 cap1 W hG e0 eb0 e1 r0 rb0 r1 s1 s0 (by have := x0; unfold maxLen at this; omega) (by have := xb0; unfold maxLen at this; omega) (by have := x1; unfold maxLen at this; omega)) fun e W' ⟨he, bel⟩ => ?_
  subst he
  exact ⟨_, rfl, _, _, _, [], _, [], hW', trodAll_mk1 (shut_bool Tryz.underlying4 _), (trodAll_cons_mk (Below.trod laidOut (by kernel_rfl) (of_decide_eq_true (by kernel_rfl)) k0 bel lt0) (trodAll_cons_mk (Below.trod laidOut (by kernel_rfl) (of_decide_eq_true (by kernel_rfl)) k1 bel lt1) (trodAll_cons_mk (Below.trod laidOut (by kernel_rfl) (of_decide_eq_true (by kernel_rfl)) k2 bel lt2) trodAll_mk0))), rfl, bel.frame _, fun h => by cases h⟩

theorem said : Rows.RewriteFieldsSaid :=
  OpenClaim.holds_of_cond 5 Tryz.f5 rfl rfl rfl rfl rfl rfl rfl ⟨rfl, rfl, rfl, rfl, rfl⟩ rfl rfl rfl rfl rfl (by kernel_rfl) Tryz.func5 (by kernel_rfl)
    (of_decide_eq_true (by kernel_rfl)) (by unfold Func.isWrapper; first | (rw [if_pos (by decide +kernel)]; kernel_rfl) | (rw [if_neg (by decide +kernel)]; exact ⟨rfl, rfl⟩))
    (fun os started H enc _ F => by rw [OpenClaim.pre_eq_preRow]; exact lifted os started H enc F)

/-- No parameter wants a stand-in; the program's own looks are off: what the card asks. -/
theorem plain (f : FuncId) (fn : Func) (hf : Tryz.pinned.checked.prog.funcNamed "despatch/despatchlaw20.RewriteFields" = some f) (hfn : Tryz.pinned.checked.prog.funcs[f]? = some fn) :
    false = Tryz.pinned.checked.prog.looks [] ∧ ∀ (j : Nat) t, fn.params[j]? = some t → Tryz.pinned.checked.prog.wantsStandIn t = false := by
  obtain rfl : f = 5 := Option.some.inj ((show Tryz.prog.funcNamed "despatch/despatchlaw20.RewriteFields" = some 5 by kernel_rfl).symm.trans hf) |>.symm
  obtain rfl : fn = Tryz.f5 := (Option.some.inj (Tryz.func5.symm.trans hfn)).symm
  refine ⟨by kernel_rfl, fun j t ht => ?_⟩
  rw [Tryz.params5] at ht
  have hm := Array.mem_of_getElem? ht
  have hall : ∀ t ∈ (Tryz.f5.params).toList, Tryz.prog.wantsStandIn t = false := fun t ht => of_decide_eq_true (List.all_eq_true.1 (show (Tryz.f5.params).toList.all (fun t => decide (Tryz.prog.wantsStandIn t = false)) = true by kernel_rfl) t ht)
  exact hall t (by rw [Tryz.params5]; simpa using hm)

/-- ████ THE CARD ████ -/
theorem proved : Rows.RewriteFieldsCardSaid :=
  Claim7.holds_tied_plain_at .later [] _ _ _ _ said (fun _ h => by cases h) (by kernel_rfl) (fun _ h => by cases h) rewriteFields_row_tie rfl ⟨rfl, rfl⟩ (by kernel_rfl) rfl plain (by kernel_rfl)
#print axioms proved
end Go.Proofs.YtcagkoakbdbbaaaGreatDoor.rewriteFields
