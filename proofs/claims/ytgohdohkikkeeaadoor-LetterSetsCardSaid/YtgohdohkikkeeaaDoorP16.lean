/- What a Set and a Drop leave of names' values: in plain words. -/
import Derived.Test.YtgohdohkikkeeaaDoorV5
namespace Go.Proofs.YtgohdohkikkeeaaDoor
set_option linter.unusedVariables false
set_option linter.unusedSimpArgs false

theorem sameN_refl (a : List UInt8) : sameN a a = true := by unfold sameN; simp
theorem sameN_other {p nm o : List UInt8} (h1 : sameN p nm = true) (h2 : sameN nm o = false) : sameN p o = false := by
  unfold sameN at *
  rw [decide_eq_true_iff] at h1
  rw [decide_eq_false_iff_not] at *
  rwa [h1]
theorem valsN_app (nm : List UInt8) (a b : List (List UInt8 × List UInt8)) : valsN nm (a ++ b) = valsN nm a ++ valsN nm b := by simp [valsN]
theorem valsN_keep (nm : List UInt8) (fs : List (List UInt8 × List UInt8)) : valsN nm (keepF nm fs) = [] := by
  unfold valsN keepF
  rw [List.map_eq_nil_iff, List.filter_eq_nil_iff]
  intro p hp
  have := (List.mem_filter.1 hp).2
  simpa using this
theorem valsN_keep_other {nm o : List UInt8} (h : sameN nm o = false) : ∀ fs : List (List UInt8 × List UInt8), valsN o (keepF nm fs) = valsN o fs
  | [] => rfl
  | p :: fs => by
    have ih := valsN_keep_other h fs
    unfold valsN keepF at *
    cases h1 : sameN p.1 nm with
    | true =>
      have h2 := sameN_other h1 h
      rw [List.filter_cons_of_neg (by simp [h1]), ih, List.filter_cons_of_neg (by simp [h2])]
    | false =>
      rw [List.filter_cons_of_pos (by simp [h1])]
      cases h2 : sameN p.1 o with
      | true => rw [List.filter_cons_of_pos (by simp [h2]), List.filter_cons_of_pos (by simp [h2]), List.map_cons, List.map_cons, ih]
      | false => rw [List.filter_cons_of_neg (by simp [h2]), List.filter_cons_of_neg (by simp [h2]), ih]
theorem setN_eq (nm v : List UInt8) (fs : List (List UInt8 × List UInt8)) : setN nm v fs = keepF nm (fs.take (ahead nm fs)) ++ ([(nm, v)] ++ keepF nm (fs.drop (ahead nm fs))) := by
  unfold setN
  rw [keepF_ahead]
  rfl
theorem valsN_set (nm v : List UInt8) (fs : List (List UInt8 × List UInt8)) : valsN nm (setN nm v fs) = [v] := by
  rw [setN_eq, valsN_app, valsN_app, valsN_keep, valsN_keep]
  simp [valsN, sameN_refl]
theorem valsN_set_other {nm o : List UInt8} (h : sameN nm o = false) (v : List UInt8) (fs : List (List UInt8 × List UInt8)) : valsN o (setN nm v fs) = valsN o fs := by
  rw [setN_eq, valsN_app, valsN_app, valsN_keep_other h, valsN_keep_other h]
  have e : valsN o [(nm, v)] = [] := by simp [valsN, h]
  rw [e, List.nil_append, ← valsN_app, List.take_append_drop]
theorem setN_len (nm v : List UInt8) (fs : List (List UInt8 × List UInt8)) : (setN nm v fs).length ≤ fs.length + 1 := by
  rw [setN_eq]
  have h1 := keepF_len nm (fs.take (ahead nm fs))
  have h2 := keepF_len nm (fs.drop (ahead nm fs))
  simp only [List.length_append, List.length_cons, List.length_nil, List.length_take, List.length_drop] at *
  omega
end Go.Proofs.YtgohdohkikkeeaaDoor
