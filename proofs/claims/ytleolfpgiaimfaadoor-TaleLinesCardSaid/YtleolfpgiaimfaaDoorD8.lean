/- Fresh bytes read; each field's word, and what its reading makes of an event. -/
import Derived.Test.YtleolfpgiaimfaaDoorD7
namespace Go.Proofs.YtleolfpgiaimfaaDoor
set_option linter.unusedVariables false
set_option linter.unusedSimpArgs false
open Go.RowKit Go.Shelf

/-- cells laid into a row, from a place on -/
theorem Row.setCells {g : Nat} {e : TypeId} : ∀ (vs : List Value) (o : Nat) (w : World) (cs : List Value), Row w g e cs → o + vs.length ≤ cs.length → Row (w.setCells g o vs) g e (cs.take o ++ vs ++ cs.drop (o + vs.length))
  | [], o, w, cs, h, _ => by
    rw [World.setCells, List.append_nil, List.length_nil, Nat.add_zero, List.take_append_drop]
    exact h
  | v :: vs, o, w, cs, h, hl => by
    simp only [List.length_cons] at hl
    rw [World.setCells]
    have := Row.setCells vs (o + 1) (w.setCell ⟨g, o, none⟩ v) (cs.set o v) (h.set o v) (by rw [List.length_set]; omega)
    have e1 : (cs.set o v).take (o + 1) = cs.take o ++ [v] := by
      rw [List.take_add_one, List.take_set_of_le (by omega), List.getElem?_set]
      simp
      omega
    have e2 : (cs.set o v).drop (o + 1 + vs.length) = cs.drop (o + (v :: vs).length) := by
      rw [List.drop_set_of_lt (by omega), List.length_cons, show o + 1 + vs.length = o + (vs.length + 1) by omega]
    rw [e1, e2] at this
    simpa using this
theorem Ext.setCells {S : Nat → Prop} {g : Nat} (hS : S g) : ∀ (vs : List Value) (o : Nat) (w : World), Ext S w (w.setCells g o vs)
  | [], _, w => Ext.refl S w
  | v :: vs, o, w => (Ext.setCell S w ⟨g, o, none⟩ v hS).trans (Ext.setCells hS vs (o + 1) _) fun _ h => .inl h
theorem info8 : (Tryd.prog.info? 5).map (·.size) = some 1 := by kernel_rfl

theorem fresh2_any (b : Nat) (s : List UInt8) (w : World) (hc : ∀ j, j < 32 → ∃ u, w.cell? ⟨b, 10 + j, none⟩ = some u) (hfz : ∀ j, w.frozen? ⟨b, j, none⟩ = false) (hl : s.length ≤ 1000000) :
    Calls Tryd.prog 29 #[.pointer (some ⟨b, 0, none⟩), .string (bs s)] w fun e w' => e = .returned (.bool (unhexL s).2) ∧ ∃ w2, Below w.heap.size w w2 ∧ w' = w2.setCells b 10 (((unhexL s).1.take 32).map bv) := by
  have hI := unhex_any s w hl
  go_enter Tryd.func29, Tryd.ntmps29
  go_wp2_with (go_at_call 27; refine hI.mono ?_; rintro e w2 ⟨A, c, rfl, hlc, hRb, hge, hb2⟩; refine Hid.out ?_)
  refine Lib.hid ?_
  have hlt : b < w.heap.size := by
    obtain ⟨u, hu⟩ := hc 0 (by omega)
    exact cell_lt hu
  have hc2 : ∀ j, j < 32 → (w2.cell? ⟨b, 10 + j, none⟩).isSome = true := fun j hj => by
    obtain ⟨u, hu⟩ := hc j hj
    rw [hb2.cell (p := ⟨b, 10 + j, none⟩) hlt, hu]
    rfl
  have hfz2 : ∀ j, w2.frozen? ⟨b, j, none⟩ = false := fun j => (hb2.frozen (p := ⟨b, j, none⟩) hlt).trans (hfz j)
  clear hI hc hfz
  have hcp : ∃ k, (Builtin.copy_ #[22, 22] 3 #[.slice (some ⟨b, 10, none⟩) 32 32, .slice A (unhexL s).1.length c]).run Tryd.prog w2 = .ok k (w2.setCells b 10 (((unhexL s).1.take 32).map bv)) := by
    rcases Nat.eq_zero_or_pos (unhexL s).1.length with h0 | h0
    · have hz : (unhexL s).1 = [] := List.eq_nil_of_length_eq_zero h0
      rw [hz]
      exact ⟨_, run_copy_none w2 _ _ _ 5 _ _ _ _ _ _ Tryd.underlying22 info8 (by simp)⟩
    · obtain ⟨bl, of, hA, hcells⟩ := hRb (by simpa using h0)
      subst hA
      refine ⟨_, run_copy_cells w2 _ _ _ 5 b 10 32 32 ⟨bl, of, none⟩ _ c (((unhexL s).1.take 32).map bv) Tryd.underlying22 info8 ?_ ?_ ?_ ?_ ?_⟩
      · rw [List.length_map, List.length_take]
        exact Nat.min_comm _ _
      · intro j v hj
        have hplain : (⟨bl, of, none⟩ : Addr).add j = ⟨bl, of + j, none⟩ := by unfold Addr.add; split <;> simp_all
        rw [hplain]
        refine hcells j v ?_
        rw [List.getElem?_map, List.getElem?_take] at hj
        rw [List.getElem?_map]
        split at hj
        · exact hj
        · simp at hj
      · intro j hj
        rw [List.length_map, List.length_take] at hj
        exact hc2 j (by omega)
      · intro j _
        exact hfz2 _
      · intro v hv
        obtain ⟨x, _, rfl⟩ := List.mem_map.1 hv
        rfl
  obtain ⟨k, hcp⟩ := hcp
  obtain ⟨n, hn⟩ : ∃ n, (unhexL s).1.length = n := ⟨_, rfl⟩
  obtain ⟨wz, hwz⟩ : ∃ wz, w2.setCells b 10 (((unhexL s).1.take 32).map bv) = wz := ⟨_, rfl⟩
  rw [hn, hwz] at hcp
  rw [hn]
  have HW := Lib.hid hwz
  clear hwz hn hc2 hfz2
  go_wp2_with fail
  go_ret
  exact ⟨rfl, w2, hb2, HW.out.symm⟩
end Go.Proofs.YtleolfpgiaimfaaDoor
