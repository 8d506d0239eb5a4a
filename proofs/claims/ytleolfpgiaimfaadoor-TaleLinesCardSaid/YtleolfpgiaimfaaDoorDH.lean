/- A look into the forms. -/
import Derived.Test.YtleolfpgiaimfaaDoorDG
namespace Go.Proofs.YtleolfpgiaimfaaDoor
set_option linter.unusedVariables false
set_option linter.unusedSimpArgs false
open Go.RowKit Go.Shelf

theorem zero_form (w : World) : (zeroValue 40).run Tryd.prog w = .ok (.agg #[.string ⟨#[]⟩, .slice none 0 0]) w := by
  have h : (Tryd.prog.info? 40).map (fun i => i.zero) = some (some (.agg #[.string ⟨#[]⟩, .slice none 0 0])) := by kernel_rfl
  cases hi : Tryd.prog.info? 40 with
  | none => rw [hi] at h; cases h
  | some i =>
    rw [hi, Option.map_some] at h
    simp [zeroValue, typeInfo, hi, Option.some.inj h]
theorem frm_kind {w : World} {k : Int} {v : Value} (h : FrmOk w k v) {word : List UInt8} {fs : List Fk} (hf : formL k = some (word, fs)) : ∃ s, v = .agg #[.string (bs word), s] ∧ SlcOk w fs s := by
  obtain ⟨word', fs', s, h1, h2, h3⟩ := h
  rw [hf] at h1
  cases h1
  exact ⟨s, h2, h3⟩
theorem look_hit {w : World} {B clock : Nat} {es : Array MapEntry} (h : FormsAt w B es clock) {k : Int} {word : List UInt8} {fs : List Fk} (hf : formL k = some (word, fs)) :
    ∃ s, SlcOk w fs s ∧ (Instr.lookup 42 (.map (some B)) (.int .i64 k) true).run Tryd.prog w = .ok (.tuple #[.agg #[.string (bs word), s], .bool true]) w := by
  obtain ⟨hw, hes, _, hall⟩ := h
  obtain ⟨j, e, h1, h2, h3⟩ := find_hit k es.toList 0 (fun e he => by obtain ⟨k', g, _⟩ := hes e he; exact ⟨k', g⟩) (hall k _ hf)
  obtain ⟨k', g1, g2, _⟩ := hes e h2
  rw [h3] at g1
  cases g1
  obtain ⟨s, e1, e2⟩ := frm_kind g2 hf
  rw [e1] at h1
  exact ⟨s, e2, run_look_hit w _ _ _ B clock j es k _ Tryd.underlying42 Tryd.underlying3 hw h1⟩
theorem look_miss {w : World} {B clock : Nat} {es : Array MapEntry} (h : FormsAt w B es clock) {k : Int} (hf : formL k = none) :
    (Instr.lookup 42 (.map (some B)) (.int .i64 k) true).run Tryd.prog w = .ok (.tuple #[.agg #[.string ⟨#[]⟩, .slice none 0 0], .bool false]) w := by
  obtain ⟨hw, hes, _, _⟩ := h
  refine run_look_miss w _ _ _ B clock es k _ Tryd.underlying42 Tryd.underlying3 hw (find_none k _ _ fun e he => ?_) (zero_form w)
  obtain ⟨k', g1, ⟨word, fs, s, g2, _⟩, _⟩ := hes e he
  refine ⟨k', g1, ?_⟩
  rintro rfl
  rw [hf] at g2
  cases g2

end Go.Proofs.YtleolfpgiaimfaaDoor
