/- What the row's list gives for the tales' laws: Gt. -/
import Derived.Test.YtleolfpgiaimfaaDoorT1
import Derived.Test.YtleolfpgiaimfaaDoorD6
namespace Go.Proofs.YtleolfpgiaimfaaDoor
set_option linter.unusedVariables false
set_option linter.unusedSimpArgs false
open Go.Lib

theorem yPow : (Tryd.prog.globals[3]?).map (·.type) = some 109 := by kernel_rfl
theorem cU64 : Tryd.prog.cellsOf 96 = 1 := by kernel_rfl
theorem cPow : Tryd.prog.cellsOf 109 = 20 := by kernel_rfl
theorem dPow : (Rows.laid_internal_strconv_uint64pow10 : DataW Unit) = Lib.tabData .u64 Lib.pow10Tab := by kernel_rfl
theorem pow_laid {w : World} {l : List (String × DataW Unit)} (h : laidMet Tryd.prog l w) (hm : ("internal/strconv.uint64pow10", Rows.laid_internal_strconv_uint64pow10) ∈ l) : Lib.TabIs Tryd.prog w "internal/strconv.uint64pow10" .u64 Lib.pow10Tab := by
  have h1 := laidMet.reads h hm
  rw [dPow] at h1
  obtain ⟨g, t, cs, fuel, p, hg, hty, hvar, hd⟩ := h1
  obtain rfl := Option.some.inj (gpow.symm.trans hg)
  obtain rfl := Option.some.inj (yPow.symm.trans hty)
  have hcs := cells_of_tab Tryd.underlying109 Tryd.underlying96 cU64 cPow hd
  unfold Lib.TabIs
  rw [hvar, ← hcs]

theorem iface_of {H : Type} {enc : TypeId × Value → H} {P : Program} {w : World} {base : Nat} {sp : Nat → Bool} {held : Bool} {fuel : Nat} {t : TypeId} {ms : Array (String × TypeId)} {cs : List Value} {nm : String} {d : DataW H} {p : List MemPlace}
    (ht : P.underlying t = some (.interface ms)) (h : DataW.trod enc P w base sp held fuel t cs = some (.iface nm d, p)) : ∃ te pe, cs = [.iface te pe] := by
  cases fuel with
  | zero => simp [DataW.trod] at h
  | succ fuel =>
    simp only [DataW.trod, ht] at h
    split at h
    all_goals first
      | exact ⟨_, _, rfl⟩
      | (simp_all; done)
theorem g_esy : Tryd.prog.globalNamed "strconv.ErrSyntax" = some 0 := by kernel_rfl
theorem g_era : Tryd.prog.globalNamed "strconv.ErrRange" = some 1 := by kernel_rfl
theorem y_esy : (Tryd.prog.globals[0]?).map (·.type) = some 64 := by kernel_rfl
theorem y_era : (Tryd.prog.globals[1]?).map (·.type) = some 64 := by kernel_rfl
theorem esy_laid {w : World} {l : List (String × DataW Unit)} (h : laidMet Tryd.prog l w) (hm : ("strconv.ErrSyntax", Rows.laid_strconv_ErrSyntax) ∈ l) : ∃ te pe, w.cell? ⟨0, 0, none⟩ = some (.iface te pe) := by
  obtain ⟨g, t, cs, fuel, p, hg, hty, hvar, hd⟩ := laidMet.reads h hm
  obtain rfl := Option.some.inj (g_esy.symm.trans hg)
  obtain rfl := Option.some.inj (y_esy.symm.trans hty)
  obtain ⟨te, pe, hcs⟩ := iface_of Tryd.underlying64 hd
  refine ⟨te, pe, ?_⟩
  rw [World.var?_cell hg hvar 0, ← Array.getElem?_toList, hcs]
  rfl
theorem era_laid {w : World} {l : List (String × DataW Unit)} (h : laidMet Tryd.prog l w) (hm : ("strconv.ErrRange", Rows.laid_strconv_ErrRange) ∈ l) : ∃ te pe, w.cell? ⟨1, 0, none⟩ = some (.iface te pe) := by
  obtain ⟨g, t, cs, fuel, p, hg, hty, hvar, hd⟩ := laidMet.reads h hm
  obtain rfl := Option.some.inj (g_era.symm.trans hg)
  obtain rfl := Option.some.inj (y_era.symm.trans hty)
  obtain ⟨te, pe, hcs⟩ := iface_of Tryd.underlying64 hd
  refine ⟨te, pe, ?_⟩
  rw [World.var?_cell hg hvar 0, ← Array.getElem?_toList, hcs]
  rfl
theorem gt_laid {w : World} {l : List (String × DataW Unit)} (h : laidMet Tryd.prog l w) (hx : ∃ m : Int, w.cell? ⟨2, 0, none⟩ = some (.int .i64 m)) (h1 : ("internal/strconv.uint64pow10", Rows.laid_internal_strconv_uint64pow10) ∈ l) (h2 : ("strconv.ErrSyntax", Rows.laid_strconv_ErrSyntax) ∈ l) (h3 : ("strconv.ErrRange", Rows.laid_strconv_ErrRange) ∈ l) : Gt w :=
  ⟨pow_laid h h1, esy_laid h h2, era_laid h h3, hx⟩

end Go.Proofs.YtleolfpgiaimfaaDoor
