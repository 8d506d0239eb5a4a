/- Plain: CR LF found, counted, and made LF. · bytes.Count and bytes.Index at CR LF; make([]byte, n). -/
import Derived.Test.YtcagkoakbdbbaaaGreatDoorJ09
import Derived.Lib.IndexMore
import Derived.Laws.CopyOwn
namespace Go.Proofs.YtcagkoakbdbbaaaGreatDoor
set_option linter.unusedVariables false
set_option linter.unusedSimpArgs false

/-- cut at the first CR and LF -/
def cutN : List UInt8 → Option (List UInt8 × List UInt8)
  | [] => none
  | c :: r => if ([13, 10] : List UInt8).isPrefixOf (c :: r) = true then some ([], r.drop 1) else (cutN r).map fun p => (c :: p.1, p.2)
theorem pre_crlf {c : UInt8} {r : List UInt8} (h : ([13, 10] : List UInt8).isPrefixOf (c :: r) = true) : c = 13 ∧ ∃ t, r = 10 :: t := by
  obtain ⟨t, ht⟩ := List.isPrefixOf_iff_prefix.1 h
  simp only [List.cons_append, List.nil_append, List.cons.injEq] at ht
  obtain ⟨rfl, rfl⟩ := ht
  exact ⟨rfl, t, rfl⟩
theorem bare_step {c : UInt8} {r : List UInt8} (h : ¬ ([13, 10] : List UInt8).isPrefixOf (c :: r) = true) : bareL (c :: r) = c :: bareL r := by
  cases r with
  | nil => rfl
  | cons d r =>
    rw [bareL, if_neg]
    rintro ⟨rfl, rfl⟩
    exact h (by simp [List.isPrefixOf])
theorem cutN_some : ∀ {l a b : List UInt8}, cutN l = some (a, b) → l = a ++ 13 :: 10 :: b ∧ Lib.index l [13, 10] = (a.length : Int) ∧ bareL l = a ++ 10 :: bareL b
  | [], _, _, h => by simp [cutN] at h
  | c :: r, a, b, h => by
    unfold cutN at h
    by_cases hc : ([13, 10] : List UInt8).isPrefixOf (c :: r) = true
    · rw [if_pos hc] at h
      cases h
      obtain ⟨rfl, t, rfl⟩ := pre_crlf hc
      refine ⟨rfl, ?_, bare_crlf t⟩
      unfold Lib.index
      rw [if_pos hc]
      rfl
    · rw [if_neg hc, Option.map_eq_some_iff] at h
      obtain ⟨⟨a', b'⟩, h1, h2⟩ := h
      cases h2
      obtain ⟨e, hi, hb⟩ := cutN_some h1
      refine ⟨by rw [e]; rfl, ?_, by rw [bare_step hc, hb]; rfl⟩
      unfold Lib.index
      rw [if_neg hc, hi]
      have hne : (((a'.length : Int)) == -1) = false := by rw [beq_eq_false_iff_ne]; omega
      rw [hne]
      simp
theorem cutN_none : ∀ {l : List UInt8}, cutN l = none → Lib.index l [13, 10] = -1 ∧ bareL l = l
  | [], _ => ⟨rfl, rfl⟩
  | c :: r, h => by
    unfold cutN at h
    by_cases hc : ([13, 10] : List UInt8).isPrefixOf (c :: r) = true
    · rw [if_pos hc] at h
      cases h
    · rw [if_neg hc, Option.map_eq_none_iff] at h
      obtain ⟨h1, h2⟩ := cutN_none h
      refine ⟨?_, by rw [bare_step hc, h2]⟩
      unfold Lib.index
      rw [if_neg hc, h1]
      rfl
/-- how many -/
def cntN (l : List UInt8) : Nat := Lib.count l [13, 10]
theorem cnt_from : ∀ (f g : Nat) (l : List UInt8), l.length < f → l.length < g → Lib.countFrom [13, 10] f l = Lib.countFrom [13, 10] g l
  | 0, _, _, h, _ => by omega
  | _ + 1, 0, _, _, h => by omega
  | f + 1, g + 1, l, hf, hg => by
    unfold Lib.countFrom
    cases hc : cutN l with
    | none => rw [(cutN_none hc).1]; rfl
    | some p =>
      obtain ⟨a, b⟩ := p
      obtain ⟨e, hi, _⟩ := cutN_some hc
      rw [hi]
      have hne : (((a.length : Int)) == -1) = false := by rw [beq_eq_false_iff_ne]; omega
      rw [hne]
      have hd : l.drop ((a.length : Int).toNat + ([13, 10] : List UInt8).length) = b := by
        rw [e, Int.toNat_natCast, show a ++ 13 :: 10 :: b = (a ++ [13, 10]) ++ b by simp, List.drop_left' (by simp)]
      rw [hd]
      have hl : l.length = a.length + b.length + 2 := by rw [e]; simp; omega
      rw [cnt_from f g b (by omega) (by omega)]
theorem cnt_none {l : List UInt8} (h : cutN l = none) : cntN l = 0 := by
  unfold cntN Lib.count Lib.countFrom
  rw [(cutN_none h).1]
  rfl
theorem cnt_some {l a b : List UInt8} (h : cutN l = some (a, b)) : cntN l = 1 + cntN b := by
  obtain ⟨e, hi, _⟩ := cutN_some h
  unfold cntN Lib.count
  rw [Lib.countFrom, hi]
  have hne : (((a.length : Int)) == -1) = false := by rw [beq_eq_false_iff_ne]; omega
  rw [hne]
  have hd : l.drop ((a.length : Int).toNat + ([13, 10] : List UInt8).length) = b := by
    rw [e, Int.toNat_natCast, show a ++ 13 :: 10 :: b = (a ++ [13, 10]) ++ b by simp, List.drop_left' (by simp)]
  rw [hd]
  have hl : l.length = a.length + b.length + 2 := by rw [e]; simp; omega
  rw [cnt_from l.length (b.length + 1) b (by omega) (by omega)]
  rfl
theorem cnt_len (n : Nat) : ∀ l : List UInt8, l.length ≤ n → 2 * cntN l ≤ l.length ∧ (bareL l).length + cntN l = l.length := by
  induction n with
  | zero =>
    intro l h
    obtain rfl := List.eq_nil_of_length_eq_zero (by omega : l.length = 0)
    exact ⟨by simp [cntN, Lib.count, Lib.countFrom, Lib.index], by simp [cntN, Lib.count, Lib.countFrom, Lib.index, bareL]⟩
  | succ n ih =>
    intro l h
    cases hc : cutN l with
    | none => rw [cnt_none hc, (cutN_none hc).2]; omega
    | some p =>
      obtain ⟨a, b⟩ := p
      obtain ⟨e, _, hb⟩ := cutN_some hc
      have hl : l.length = a.length + b.length + 2 := by rw [e]; simp; omega
      obtain ⟨h1, h2⟩ := ih b (by omega)
      rw [cnt_some hc, hb]
      constructor
      · omega
      · rw [List.length_append, List.length_cons]
        omega
theorem cnt_zero {l : List UInt8} (h : cntN l = 0) : bareL l = l := by
  cases hc : cutN l with
  | none => exact (cutN_none hc).2
  | some p =>
    obtain ⟨a, b⟩ := p
    rw [cnt_some hc] at h
    omega
theorem cnt_pos {l : List UInt8} (h : 0 < cntN l) : ∃ a b, cutN l = some (a, b) := by
  cases hc : cutN l with
  | none => rw [cnt_none hc] at h; omega
  | some p => exact ⟨p.1, p.2, rfl⟩
end Go.Proofs.YtcagkoakbdbbaaaGreatDoor

namespace Go.Proofs.YtcagkoakbdbbaaaGreatDoor
set_option linter.unusedVariables false
set_option linter.unusedSimpArgs false
open Go.RowKit

/-- the cell of MaxLen -/
def MxR (w : World) : Prop := ∃ m : Int, w.cell? ⟨2, 0, none⟩ = some (.int .i64 m)
theorem MxR.below {w w' : World} (h : MxR w) (hb : Below w.heap.size w w') : MxR w' := by
  obtain ⟨m, hm⟩ := h
  exact ⟨m, (hb.cell (cell_lt hm)).trans hm⟩
/-- bytes that are handed back -/
def BOut (L : List UInt8) (e : Ending) (w' : World) : Prop := ∃ A c, e = .returned (.slice A L.length c) ∧ L.length ≤ c ∧ c ≤ maxLen ∧ Rb w' A L ∧ Pl A c
theorem BOut.own {w' : World} {base n : Nat} {v : Value} {L : List UInt8} (h : w'.ownsRow base 5 1 v n (L.map bv)) : BOut L (.returned v) w' := by
  obtain ⟨A, c, hv, h1, h2, h3, h4, h5, h6⟩ := (OwnM.of h).form
  have hl : L.length = n := by rw [List.length_map] at h4; omega
  subst hl
  refine ⟨A, c, by rw [hv], h1, h2, h3, ?_⟩
  rcases h6 with h | ⟨b, h⟩
  · exact .inl ⟨h, h5 h⟩
  · exact .inr ⟨b, 0, h⟩
theorem nums_rng {l : List UInt8} : ∀ x ∈ nums l, 0 ≤ x ∧ x < 256 := fun x hx => by
  obtain ⟨y, _, rfl⟩ := List.mem_map.1 hx
  have := y.toNat_lt
  constructor <;> omega
theorem addr_add (b o i : Nat) : (⟨b, o, none⟩ : Addr).add i = ⟨b, o + i, none⟩ := by unfold Addr.add; split <;> simp_all
theorem rb_nums {w : World} {b o : Nat} {l : List UInt8} (h : Rb w (some ⟨b, o, none⟩) l) : ∀ i, i < l.length → w.cell? ((⟨b, o, none⟩ : Addr).add i) = some (.int .u8 ((nums l).getD i 0)) := fun i hi => by
  obtain ⟨b1, o1, e, hc⟩ := h (by simp; omega)
  cases e
  rw [addr_add, hc i (bv l[i]) (by simp [List.getElem?_eq_getElem hi]), nums_getD l i hi]
  rfl
theorem count_any (A : Option Addr) (b : List UInt8) (B d n c : Nat) (w : World) (hn : b.length = n) (hA : Rb w A b) (hpl : Pl A c) (hnc : n ≤ c) (hb : n ≤ 1000000000) (hs : Rb w (some ⟨B, 0, none⟩) [13, 10]) (hw : MxR w) :
    Calls Tryz.prog 83 #[.slice A n c, .slice (some ⟨B, 0, none⟩) 2 d] w fun e w' => e = .returned (.int .i64 (cntN b : Int)) ∧ Dn w w' := by
  subst hn
  obtain ⟨m, hm⟩ := hw
  rcases hpl with ⟨rfl, rfl⟩ | ⟨b0, o0, rfl⟩
  · have h0 : b = [] := List.eq_nil_of_length_eq_zero (by omega)
    subst h0
    refine (Tryz.bytes_Count_nil (some ⟨B, 0, none⟩) 2 d w (by omega) (by omega)).mono ?_
    rintro e w' ⟨rfl, rfl⟩
    exact ⟨by rw [cnt_none rfl]; rfl, Dn.refl _⟩
  · have h := Tryz.bytes_Count_at ⟨b0, o0, none⟩ ⟨B, 0, none⟩ b.length c 2 d (nums b) (nums [13, 10]) m w (nums_len b) rfl nums_rng nums_rng (rb_nums hA) (rb_nums hs) hnc (by omega) (by omega) (by omega) hm
    rw [bytesOf_nums, bytesOf_nums] at h
    refine h.mono ?_
    rintro e w' ⟨rfl, q, rfl⟩
    exact ⟨rfl, Dn.of _ _⟩
theorem index_any (b0 o0 : Nat) (b : List UInt8) (B d n c : Nat) (w : World) (hn : b.length = n) (hA : Rb w (some ⟨b0, o0, none⟩) b) (hnc : n ≤ c) (hb : n ≤ 1000000000) (hs : Rb w (some ⟨B, 0, none⟩) [13, 10]) (hw : MxR w) {a r : List UInt8} (hc : cutN b = some (a, r)) :
    Calls Tryz.prog 84 #[.slice (some ⟨b0, o0, none⟩) n c, .slice (some ⟨B, 0, none⟩) 2 d] w fun e w' => e = .returned (.int .i64 (a.length : Int)) ∧ Dn w w' := by
  subst hn
  obtain ⟨m, hm⟩ := hw
  have h := Tryz.bytes_Index_at ⟨b0, o0, none⟩ ⟨B, 0, none⟩ b.length c 2 d (nums b) (nums [13, 10]) m w (nums_len b) rfl nums_rng nums_rng (rb_nums hA) (rb_nums hs) hnc (by omega) (by omega) hm
  rw [bytesOf_nums, bytesOf_nums, (cutN_some hc).2.1] at h
  refine h.mono ?_
  rintro e w' ⟨rfl, q, rfl⟩
  exact ⟨rfl, Dn.of _ _⟩
/-- make([]byte, n) -/
theorem makeNb (z : Int) (N : Nat) (hz : z = (N : Int)) (hN : N ≤ 1000000000) : ∃ zs : List Value, zs.length = N ∧ ∀ W : World, (Instr.makeSlice 22 (.int .i64 z) (.int .i64 z)).run Tryz.prog W = .ok (.slice (some ⟨W.heap.size, 0, none⟩) N N) (W.alloc (.cells zs.toArray 5)) := by
  subst hz
  obtain ⟨i, h1, h2, h3, h4⟩ := info_parts infoU8
  refine ⟨(madeCells (Value.cells (.int .u8 0)) (N * 1)).toList, ?_, fun W => ?_⟩
  · rw [Array.length_toList, size_madeCells]
    simp [Value.cells]
  · have h := run_make (P := Tryz.prog) W 22 5 i (.int .u8 0) Tryz.underlying22 h1 h2 .i64 .i64 (N : Int) (N : Int) (by omega) (by omega) (by rw [h4]; omega) (by omega)
    simpa [h3] using h
theorem splice_at {α : Type} (D Z cs : List α) : splice (D ++ Z) D.length cs = (D ++ cs) ++ Z.drop cs.length := by
  unfold splice
  rw [List.take_left, ← List.drop_drop, List.drop_left, List.append_assoc]
theorem szU8 : (Tryz.prog.info? 5).map (·.size) = some 1 := by kernel_rfl
/-- s[k:], at an Int that is k -/
theorem slk_any (b o n c : Nat) (z : Int) (k : Nat) (hz : z = (k : Int)) (hk : k ≤ n) (hkc : k < c) : ∀ K W, (Instr.slice 22 (.slice (some ⟨b, o, none⟩) n c) (some (.int K z)) none none).run Tryz.prog W = .ok (.slice (some ⟨b, o + k, none⟩) (n - k) (c - k)) W := by
  subst hz
  intro K W
  rw [run_slice_l W 22 (some ⟨b, o, none⟩) n c (elem_of Tryz.underlying22) K (k : Int) (by omega) (by omega), elem_eq Tryz.underlying22, Tryz.sizeOf5]
  have hne : ¬ c = k := by omega
  simp [Result.andThen, sliced, hne, addr_add]
/-- s[i:j], at Ints -/
theorem slp_any (A : Option Addr) (n c : Nat) (z1 z2 : Int) (i j : Nat) (h1 : z1 = (i : Int)) (h2 : z2 = (j : Int)) (hij : i ≤ j) (hj : j ≤ n) (hnc : n ≤ c) :
    ∃ A', (∀ K1 K2 W, (Instr.slice 22 (.slice A n c) (some (.int K1 z1)) (some (.int K2 z2)) none).run Tryz.prog W = .ok (.slice A' (j - i) (c - i)) W) ∧ ∀ (W : World) (b : List UInt8), b.length = n → Rb W A b → Rb W A' (sg b i j) := by
  subst h1
  subst h2
  refine ⟨if c = i then A else A.map (·.add i), fun K1 K2 W => ?_, fun W b hb h => ?_⟩
  · rw [run_slice_lh W 22 A n c (elem_of Tryz.underlying22) K1 K2 (i : Int) (j : Int) (by omega) (by omega) (by omega), elem_eq Tryz.underlying22, Tryz.sizeOf5]
    simp [Result.andThen, sliced]
  · by_cases h0 : sg b i j = []
    · rw [h0]
      exact Rb.nil _ _
    · have hlt : i < j := by
        have := List.length_pos_iff.2 h0
        rw [sg_len (by omega)] at this
        omega
      rw [if_neg (by omega)]
      obtain ⟨b0, o0, rfl, _⟩ := h (by simp; omega)
      have e : Option.map (fun x : Addr => x.add i) (some ⟨b0, o0, none⟩) = some ⟨b0, o0 + i, none⟩ := by rw [Option.map_some, addr_add]
      rw [e]
      exact (h.drop i).take _
end Go.Proofs.YtcagkoakbdbbaaaGreatDoor
