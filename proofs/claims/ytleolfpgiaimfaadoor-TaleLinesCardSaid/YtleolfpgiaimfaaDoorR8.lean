/- An event that came in, by value: what its cells read as. -/
import Derived.Test.YtleolfpgiaimfaaDoorD7
import Derived.Lib.LaidU8
import Derived.Lib.SmallJoins
import Derived.OpenShut
namespace Go.Proofs.YtleolfpgiaimfaaDoor
set_option linter.unusedVariables false
set_option linter.unusedSimpArgs false
open Go.RowKit Go.Shelf Go.Lib Go.Joins Go.ChangeShapes Go.WideShapes Go.ChangeAt

section
variable {H : Type} {enc : TypeId × Value → H} {P : Program} {w : World} {base : Nat} {sp : Nat → Bool} {held : Bool}
theorem trod_fields {fuel : Nat} {t : TypeId} {fs : Array Field} {cs : List Value} {d : DataW H} {p : List MemPlace} (ht : P.underlying t = some (.struct fs)) (h : DataW.trod enc P w base sp held fuel t cs = some (d, p)) :
    cs.length = P.cellsOf t ∧ ∃ fuel', ∀ f ∈ fs.toList, ∃ y, DataW.trod enc P w base sp held fuel' f.type ((cs.drop f.offset).take (P.cellsOf f.type)) = some y := by
  cases fuel with
  | zero => simp [DataW.trod] at h
  | succ fuel =>
    simp only [DataW.trod, ht] at h
    split at h
    · rename_i hl
      obtain ⟨xs, hm, hx⟩ := Option.map_eq_some_iff.1 h
      refine ⟨hl, fuel, fun f hf => ?_⟩
      obtain ⟨i, hi⟩ := List.mem_iff_getElem?.1 hf
      obtain ⟨b, _, hb⟩ := mapM_at hm i f hi
      exact ⟨b, hb⟩
    · cases h
theorem trod_array {fuel n : Nat} {t e : TypeId} {cs : List Value} {d : DataW H} {p : List MemPlace} (ht : P.underlying t = some (.array n e)) (h : DataW.trod enc P w base sp held fuel t cs = some (d, p)) :
    cs.length = P.cellsOf t ∧ ∃ fuel', ∀ i, i < n → ∃ y, DataW.trod enc P w base sp held fuel' e ((cs.drop (i * P.cellsOf e)).take (P.cellsOf e)) = some y := by
  cases fuel with
  | zero => simp [DataW.trod] at h
  | succ fuel =>
    simp only [DataW.trod, ht] at h
    split at h
    · rename_i hl
      obtain ⟨xs, hm, hx⟩ := Option.map_eq_some_iff.1 h
      refine ⟨hl, fuel, fun i hi => ?_⟩
      obtain ⟨b, _, hb⟩ := mapM_at hm i i (by simp [hi])
      exact ⟨b, hb⟩
    · cases h
end

theorem chain {α : Type} {l s r : List α} {a k : Nat} (h : (l.drop a).take k = s) (hr : l.drop (a + k) = r) : l.drop a = s ++ r := by
  rw [← h, ← hr, ← List.drop_drop, List.take_append_drop]
theorem u8_cell {n : Int} (h : (Lit.int .u8 n).wf = true) : Value.int .u8 n = bv (UInt8.ofNat n.toNat) := by
  have hb := bounds_u8 h
  unfold bv
  rw [show (UInt8.ofNat n.toNat).toNat = n.toNat by simp; omega, Int.toNat_of_nonneg hb.1]
theorem u8_cells : ∀ (l : List Value), (∀ i, i < l.length → ∃ n, (l.drop i).take 1 = [.int .u8 n] ∧ (Lit.int .u8 n).wf = true) → ∃ f : List UInt8, l = f.map bv
  | [], _ => ⟨[], rfl⟩
  | v :: l, h => by
    obtain ⟨n, h0, hn⟩ := h 0 (by simp)
    obtain ⟨f, hf⟩ := u8_cells l (fun i hi => by
      obtain ⟨n, h1, hn⟩ := h (i + 1) (by simp; omega)
      exact ⟨n, by simpa using h1, hn⟩)
    simp at h0
    exact ⟨UInt8.ofNat n.toNat :: f, by rw [h0, u8_cell hn, hf]; rfl⟩
theorem isInt_of {n : Int} (h : (Lit.int .i64 n).wf = true) : isInt n := bounds_i64 h

section
variable {H : Type} {enc : TypeId × Value → H} {w : World} {r : Reach} {base b0 : Nat} {sp : Nat → Bool} {held : Bool}
theorem cInt : Tryd.prog.cellsOf 3 = 1 := by kernel_rfl
theorem cStr : Tryd.prog.cellsOf 9 = 1 := by kernel_rfl
theorem cByt : Tryd.prog.cellsOf 22 = 1 := by kernel_rfl
theorem cBool : Tryd.prog.cellsOf 4 = 1 := by kernel_rfl
theorem cU8 : Tryd.prog.cellsOf 5 = 1 := by kernel_rfl
theorem cKey : Tryd.prog.cellsOf 24 = 32 := by kernel_rfl
theorem cRw : Tryd.prog.cellsOf 26 = 4 := by kernel_rfl
theorem cEv : Tryd.prog.cellsOf 28 = 46 := by kernel_rfl
/-- the four cells of what relays do -/
theorem Rw_cells {fuel : Nat} {cs : List Value} {d : DataW H} {p : List MemPlace} (h : DataW.trod enc Tryd.prog w base sp held fuel 26 cs = some (d, p)) :
    ∃ (k n m : Int) (t : List UInt8), cs = [.int .i64 k, .int .i64 n, .int .i64 m, .string (bs t)] ∧ isInt k ∧ isInt n ∧ isInt m := by
  obtain ⟨hlen, n, hx⟩ := trod_fields Tryd.underlying26 h
  simp only [List.forall_mem_cons] at hx
  obtain ⟨⟨y0, h0⟩, ⟨y1, h1⟩, ⟨y2, h2⟩, ⟨y3, h3⟩, -⟩ := hx
  rw [cInt] at h0 h1 h2
  rw [cStr] at h3
  rw [cRw] at hlen
  obtain ⟨z0, e0, _, w0⟩ := DataW.trod_int Tryd.underlying3 h0
  obtain ⟨z1, e1, _, w1⟩ := DataW.trod_int Tryd.underlying3 h1
  obtain ⟨z2, e2, _, w2⟩ := DataW.trod_int Tryd.underlying3 h2
  obtain ⟨a3, e3, _, w3⟩ := DataW.trod_string Tryd.underlying9 h3
  obtain ⟨t3, rfl⟩ : ∃ l, a3 = bs l := ⟨_, (bs_of a3).symm⟩
  have hend : cs.drop 4 = [] := List.drop_eq_nil_of_le (by omega)
  have hl := chain e0 (chain e1 (chain e2 (chain e3 hend)))
  rw [List.drop_zero] at hl
  exact ⟨z0, z1, z2, t3, hl, isInt_of w0, isInt_of w1, isInt_of w2⟩
/-- the cells of a key -/
theorem Key_cells {fuel : Nat} {cs : List Value} {d : DataW H} {p : List MemPlace} (h : DataW.trod enc Tryd.prog w base sp held fuel 24 cs = some (d, p)) : ∃ f : List UInt8, cs = f.map bv ∧ f.length = 32 := by
  obtain ⟨hlen, n, hx⟩ := trod_array Tryd.underlying24 h
  rw [cKey] at hlen
  rw [cU8] at hx
  obtain ⟨f, hf⟩ := u8_cells cs (fun i hi => by
    obtain ⟨y, hy⟩ := hx i (by omega)
    rw [Nat.mul_one] at hy
    obtain ⟨z, e, _, wz⟩ := DataW.trod_int Tryd.underlying5 hy
    exact ⟨z, e, wz⟩)
  refine ⟨f, hf, ?_⟩
  rw [hf, List.length_map] at hlen
  exact hlen
end
set_option maxRecDepth 100000 in
/-- (R8) AN EVENT THAT CAME IN, BY VALUE -/
theorem Ev_row {H : Type} {enc : TypeId × Value → H} {w : World} {r : Reach} {b0 : Nat} {v : Value} {d : DataW H} {p : List MemPlace} (hv : Value.okWide Tryd.prog w r b0 28 v) (h : DataW.Trod enc Tryd.prog w 0 (fun _ => true) true 28 v d p) :
    ∃ (E : Ev) (A : Option Addr) (c : Nat), v = .agg (evl E (.slice A E.body.length c)).toArray ∧ E.Ok ∧ E.body.length ≤ c ∧ Rb w A E.body := by
  obtain ⟨cs, rfl, hsz⟩ := okWide_struct Tryd.underlying28 hv
  obtain ⟨l⟩ := cs
  obtain ⟨fuel, hf⟩ := h
  obtain ⟨hlen, n, hx⟩ := trod_fields Tryd.underlying28 hf
  simp only [Value.cells] at hx hlen
  simp only [List.forall_mem_cons] at hx
  obtain ⟨⟨y0, h0⟩, ⟨y1, h1⟩, ⟨y2, h2⟩, ⟨y3, h3⟩, ⟨y4, h4⟩, ⟨y5, h5⟩, ⟨y6, h6⟩, ⟨y7, h7⟩, ⟨y8, h8⟩, ⟨y9, h9⟩, ⟨y10, h10⟩, ⟨y11, h11⟩, -⟩ := hx
  rw [cInt] at h0 h1 h2 h3 h4
  rw [cStr] at h5
  rw [cByt] at h6
  rw [cBool] at h7 h8
  rw [cU8] at h9
  rw [cKey] at h10
  rw [cRw] at h11
  rw [cEv] at hlen
  obtain ⟨z0, e0, _, w0⟩ := DataW.trod_int Tryd.underlying3 h0
  obtain ⟨z1, e1, _, w1⟩ := DataW.trod_int Tryd.underlying3 h1
  obtain ⟨z2, e2, _, w2⟩ := DataW.trod_int Tryd.underlying3 h2
  obtain ⟨z3, e3, _, w3⟩ := DataW.trod_int Tryd.underlying3 h3
  obtain ⟨z4, e4, _, w4⟩ := DataW.trod_int Tryd.underlying3 h4
  obtain ⟨a5, e5, _, w5⟩ := DataW.trod_string Tryd.underlying9 h5
  obtain ⟨t5, rfl⟩ : ∃ l, a5 = bs l := ⟨_, (bs_of a5).symm⟩
  obtain ⟨A, len, c, e6, body, x6, xl, r6⟩ : ∃ (A : Option Addr) (len c : Nat), (l.drop 6).take 1 = [.slice A len c] ∧ ∃ body : List UInt8, body.length = len ∧ len ≤ c ∧ Rb w A body := by
    rcases open_ints Tryd.underlying22 Tryd.underlying5 (by kernel_rfl) h6 with ⟨hcs, _⟩ | ⟨x, l, c, zs, hcs, _, hl, hm, hz, _, hcell, hwz⟩
    · obtain ⟨b, q0, q1, q2, q3⟩ := Rb_row (w := w) (a := none) (len := 0) (cap := 0) (zs := []) (.inl ⟨rfl, rfl, rfl, rfl⟩)
      exact ⟨_, _, _, hcs, b, q0, q1, q3⟩
    · obtain ⟨b, q0, q1, q2, q3⟩ := Rb_row (w := w) (.inr ⟨_, rfl, hl, hm, by simpa using hz, hcell, hwz⟩)
      exact ⟨_, _, _, hcs, b, q0, q1, q3⟩
  subst x6
  obtain ⟨b7, e7, _⟩ := DataW.trod_bool Tryd.underlying4 h7
  obtain ⟨b8, e8, _⟩ := DataW.trod_bool Tryd.underlying4 h8
  obtain ⟨z9, e9, _, w9⟩ := DataW.trod_int Tryd.underlying5 h9
  rw [u8_cell w9] at e9
  obtain ⟨f, e10, fl⟩ := Key_cells h10
  obtain ⟨rk, rn, rm, rt, e11, k0, k1, k2⟩ := Rw_cells h11
  have hend : l.drop 46 = [] := List.drop_eq_nil_of_le (by omega)
  refine ⟨{ kind := z0, who := z1, dst := z2, n := z3, m := z4, thread := t5, body := body, sec := b7, stays := b8, turn := UInt8.ofNat z9.toNat, fresh := f, rk := rk, rn := rn, rm := rm, rt := rt }, A, c, ?_,
    ⟨isInt_of w0, isInt_of w1, isInt_of w2, isInt_of w3, isInt_of w4, fl, k0, k1, k2⟩, xl, r6⟩
  have hl := chain e0 (chain e1 (chain e2 (chain e3 (chain e4 (chain e5 (chain e6 (chain e7 (chain e8 (chain e9 (chain e10 (chain e11 hend)))))))))))
  simp only [List.drop_zero] at hl
  rw [hl]
  simp [evl]

end Go.Proofs.YtleolfpgiaimfaaDoor
