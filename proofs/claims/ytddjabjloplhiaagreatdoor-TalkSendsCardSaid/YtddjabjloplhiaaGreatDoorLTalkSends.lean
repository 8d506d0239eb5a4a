/- TalkSends: the statement, tied to what the program's text lays: by the walk of the law over the contracts of what it calls. -/
import Derived.Test.YtddjabjloplhiaaGreatDoorCards
import Derived.Test.YtddjabjloplhiaaGreatDoorTie
import Derived.Test.YtddjabjloplhiaaGreatDoorT1
import Derived.Test.YtddjabjloplhiaaGreatDoorB32
import Derived.Deep.DeepHandedRow
import Derived.WalkKit
import Derived.ProofKit
import Derived.Below
import Derived.OpenShut
import Derived.ShutString
import Derived.Lib.SmallJoins
namespace Go.Proofs.YtddjabjloplhiaaGreatDoor.talkSends
open Go.ChangeShapes Go.WideShapes Go.ChangeAt Go.RowKit Go.Joins
open Go.ChangeMaps (open_string shut_string)
set_option linter.unusedVariables false
set_option linter.unusedSimpArgs false

theorem own : ownKnob Tryz.prog.godebug = none := by kernel_rfl
theorem laidOut : laidOutB Tryz.prog = true := by kernel_rfl
theorem laid_met (os : Os) : laidMet Tryz.prog Rows.talkSendsRow.laid ((laidWorld os).forCall (fun _ _ => 0) ⟨#[], #[.agg #[.string ByteArray.empty, .slice none 0 0, .slice none 0 0]], []⟩).memory :=
  laidMet_of_run' 8 (by kernel_rfl) (by kernel_rfl)
theorem reads (os : Os) {H : Type} (enc : TypeId × Value → H) : ∃ places, DataW.whole enc Tryz.prog ((laidWorld os).forCall (fun _ _ => 0) ⟨#[], #[.agg #[.string ByteArray.empty, .slice none 0 0, .slice none 0 0]], []⟩).memory Tryz.f4.params.toList Rows.talkSendsSpec.vars false (#[.agg #[.string ByteArray.empty, .slice none 0 0, .slice none 0 0]] : Array Value).toList 8 = some ([.agg [.lit (.string []), .nil, .nil]], [], places) :=
  ⟨[], by kernel_rfl⟩

set_option maxRecDepth 100000 in
theorem lifted (os : Os) (started : os.Started) (H : Type) (enc : TypeId × Value → H) (F : Stop.Interp) :
    ReturnsInHanded {} Tryz.checked os 4 .any ((OpenSpec.ofChange Rows.talkSendsSpec).preRow enc Tryz.prog Tryz.f4 Rows.talkSendsRow.domain false Rows.talkSendsRow.laid) (((OpenSpec.ofChange Rows.talkSendsSpec).at F).post enc Tryz.prog Tryz.f4 false true false false) := by
  obtain ⟨places, hx⟩ := reads os enc
  refine returnsInHanded_of_row (C := Tryz.checked) (s := OpenSpec.ofChange Rows.talkSendsSpec) own started (by kernel_rfl) Tryz.func4
    (witness_row_at (enc := enc) (C := Tryz.checked) false (laidWorld os) #[.agg #[.string ByteArray.empty, .slice none 0 0, .slice none 0 0]] rfl (by kernel_rfl) (by kernel_rfl) (by kernel_rfl)
      (OpenSpec.preRow_of_cond 8 hx (by kernel_rfl) (fun k hk => by cases hk) (by kernel_rfl) (laid_met os))) ?_
  intro W base args ds gs before hval0 hW _ hcond0 hwt0 hL0 hSh _
  have hT : Mx W := Tryz.laysM145.s1_3 W hSh
  have hval : ∀ (j : Nat) t v, Tryz.f4.params[j]? = some t → args[j]? = some v → Value.okWide Tryz.prog W .any base t v := hval0
  have hW' := hW
  obtain ⟨p, q, hA0, hV, rfl, hfz, hnd⟩ := hW
  have hA : DataW.TrodAll enc Tryz.prog W 0 (fun _ => true) true Tryz.f4.params.toList args.toList ds p := hA0
  rw [Tryz.params4] at hA hval
  obtain ⟨v0, vs0, d0, ds0, p0, q0, hargs, rfl, rfl, h0, tr0⟩ := trodAll_cons hA
  obtain ⟨rfl, rfl, rfl⟩ := trodAll_nil tr0
  obtain rfl : args = #[v0] := by cases args; simp_all
  obtain ⟨rfl, rfl⟩ := trodVars_none hV
  have k0 := h0
  have lt0 : ∀ x ∈ p0, x.block < W.heap.size := by obtain ⟨m, hm⟩ := k0; exact DataW.trod_lt m _ _ _ hm
  obtain ⟨m0, n0, u0, ym0, yn0, yu0, fu0, rfl, _, _, tm0, tn0, tu0⟩ := open_agg3 Tryz.underlying38 (by kernel_rfl) (by kernel_rfl) (hval 0 38 v0 rfl rfl) h0
  obtain ⟨am0, hm0, _, wm0⟩ := DataW.trod_string Tryz.underlying9 tm0
  obtain rfl : m0 = .string am0 := by simpa using hm0
  obtain ⟨lm0, rfl⟩ : ∃ l, am0 = bs l := ⟨_, (bs_of am0).symm⟩
  have sm0 : lm0.length ≤ 9223372036854775807 := by have := wm0; rw [bs_size] at this; exact this
  obtain ⟨an0, lenn0, capn0, hn0⟩ := slice_form Tryz.underlying30 tn0
  obtain rfl : n0 = .slice an0 lenn0 capn0 := by simpa using hn0
  obtain ⟨au0, lenu0, capu0, hu0⟩ := slice_form Tryz.underlying22 tu0
  obtain rfl : u0 = .slice au0 lenu0 capu0 := by simpa using hu0
  have tf0 : DataW.Trod enc Tryz.prog W 0 (fun _ => true) true 30 (.slice an0 lenn0 capn0) yn0.1 yn0.2 := ⟨fu0, by simpa [Value.cells] using tn0⟩
  obtain ⟨l0, e0, c0, x0, r0, s0⟩ := Rs_row Tryz.underlying30 Tryz.underlying9 (by kernel_rfl) tf0
  obtain ⟨b0, eb0, cb0, xb0, rb0⟩ : ∃ l : List UInt8, l.length = lenu0 ∧ lenu0 ≤ capu0 ∧ capu0 ≤ maxLen ∧ Rb W au0 l := by
    rcases open_ints Tryz.underlying22 Tryz.underlying5 (by kernel_rfl) tu0 with ⟨hcs, _⟩ | ⟨x, l, c, zs, hcs, _, hl, hm, hz, _, hcell, hwz⟩
    · simp at hcs
      obtain ⟨rfl, rfl, rfl⟩ := hcs
      exact Rb_row (zs := []) (.inl ⟨rfl, rfl, rfl, rfl⟩)
    · simp at hcs
      obtain ⟨rfl, rfl, rfl⟩ := hcs
      exact Rb_row (.inr ⟨_, rfl, hl, hm, by simpa using hz, hcell, hwz⟩)
  clear hA0 hval0
  refine Calls.mono (R := fun e W' => e = .returned (.bool true) ∧ Below W.heap.size W W') (talkSends_any lm0 l0 b0 an0 au0 lenn0 capn0 lenu0 capu0 W hT e0 c0 r0 eb0 cb0 rb0 sm0 (by have := x0; unfold maxLen at this; omega) (by have := xb0; unfold maxLen at this; omega) s0) fun e W' ⟨he, bel⟩ => ?_
  subst he
  exact ⟨_, rfl, _, _, _, [], _, [], hW', trodAll_mk1 (shut_bool Tryz.underlying4 _), (trodAll_cons_mk (Below.trod laidOut (by kernel_rfl) (of_decide_eq_true (by kernel_rfl)) k0 bel lt0) trodAll_mk0), rfl, bel.frame _, fun h => by cases h⟩

theorem said : Rows.TalkSendsSaid :=
  OpenClaim.holds_of_cond 4 Tryz.f4 rfl rfl rfl rfl rfl rfl rfl ⟨rfl, rfl, rfl, rfl, rfl⟩ rfl rfl rfl rfl rfl (by kernel_rfl) Tryz.func4 (by kernel_rfl)
    (of_decide_eq_true (by kernel_rfl)) (by unfold Func.isWrapper; first | (rw [if_pos (by decide +kernel)]; kernel_rfl) | (rw [if_neg (by decide +kernel)]; exact ⟨rfl, rfl⟩))
    (fun os started H enc _ F => by rw [OpenClaim.pre_eq_preRow]; exact lifted os started H enc F)

/-- No parameter wants a stand-in; the program's own looks are off: what the card asks. -/
theorem plain (f : FuncId) (fn : Func) (hf : Tryz.pinned.checked.prog.funcNamed "despatch/despatchlaw21.TalkSends" = some f) (hfn : Tryz.pinned.checked.prog.funcs[f]? = some fn) :
    false = Tryz.pinned.checked.prog.looks [] ∧ ∀ (j : Nat) t, fn.params[j]? = some t → Tryz.pinned.checked.prog.wantsStandIn t = false := by
  obtain rfl : f = 4 := Option.some.inj ((show Tryz.prog.funcNamed "despatch/despatchlaw21.TalkSends" = some 4 by kernel_rfl).symm.trans hf) |>.symm
  obtain rfl : fn = Tryz.f4 := (Option.some.inj (Tryz.func4.symm.trans hfn)).symm
  refine ⟨by kernel_rfl, fun j t ht => ?_⟩
  rw [Tryz.params4] at ht
  have hm := Array.mem_of_getElem? ht
  have hall : ∀ t ∈ (Tryz.f4.params).toList, Tryz.prog.wantsStandIn t = false := fun t ht => of_decide_eq_true (List.all_eq_true.1 (show (Tryz.f4.params).toList.all (fun t => decide (Tryz.prog.wantsStandIn t = false)) = true by kernel_rfl) t ht)
  exact hall t (by rw [Tryz.params4]; simpa using hm)

/-- ████ THE CARD ████ -/
theorem proved : Rows.TalkSendsCardSaid :=
  Claim7.holds_tied_plain_at .later [] _ _ _ _ said (fun _ h => by cases h) (by kernel_rfl) (fun _ h => by cases h) talkSends_row_tie rfl ⟨rfl, rfl⟩ (by kernel_rfl) rfl plain (by kernel_rfl)
#print axioms proved
end Go.Proofs.YtddjabjloplhiaaGreatDoor.talkSends
