/- Small letters, blanks, dotted texts: the program's lower, trim, dotted. -/
import Derived.Test.YtkllecicddfjpaaGreatDoorJ10
import Derived.Test.YtkllecicddfjpaaGreatDoorJ03
import Derived.Shelf.Strings.SlTrimAscii
namespace Go.Proofs.YtkllecicddfjpaaGreatDoor
namespace Tk
set_option linter.unusedVariables false
set_option linter.unusedSimpArgs false
open Go.RowKit

/-- the cell of MaxLen holds an integer -/
def Mx (w : World) : Prop := ∃ m : Int, w.cell? ⟨1, 0, none⟩ = some (.int .i64 m)
theorem Mx.below {w w' : World} (h : Mx w) (hb : Below w.heap.size w w') : Mx w' := by
  obtain ⟨m, hm⟩ := h
  exact ⟨m, (hb.cell (cell_lt hm)).trans hm⟩

/-- a block of these cells, marked behind its last one or not -/
def RowM (w : World) (g : Nat) (e : TypeId) (cs : List Value) : Prop := ∃ fz, w.heap[g]? = some (.cells cs.toArray e fz) ∧ offM fz cs.length
section
variable {w w' : World} {g : Nat} {e : TypeId} {cs : List Value}
theorem RowM.lt (h : RowM w g e cs) : g < w.heap.size := by
  obtain ⟨fz, h, _⟩ := h
  exact (Array.getElem?_eq_some_iff.1 h).1
theorem RowM.cell (h : RowM w g e cs) {j : Nat} {v : Value} (hv : cs[j]? = some v) : w.cell? ⟨g, j, none⟩ = some v := by
  obtain ⟨fz, h, _⟩ := h
  simp only [World.cell?, h]
  simpa using hv
theorem RowM.frozen (h : RowM w g e cs) {j : Nat} (hj : j < cs.length) : w.frozen? ⟨g, j, none⟩ = false := by
  obtain ⟨⟨lo, hi'⟩, h, hfz⟩ := h
  simp only [World.frozen?, h, Bool.and_eq_false_iff, decide_eq_false_iff_not]
  rcases hfz with h | h
  · right
    simp only at h
    omega
  · left
    simp only at h
    omega
theorem RowM.below (h : RowM w g e cs) (hb : Below w.heap.size w w') : RowM w' g e cs := by
  have hl := h.lt
  obtain ⟨fz, h, k⟩ := h
  exact ⟨fz, (hb.block _ hl).trans h, k⟩
theorem RowM.set (h : RowM w g e cs) (j : Nat) (v : Value) : RowM (w.setCell ⟨g, j, none⟩ v) g e (cs.set j v) := by
  obtain ⟨fz, h, k⟩ := h
  obtain ⟨hlt, hk⟩ := Array.getElem?_eq_some_iff.1 h
  refine ⟨fz, ?_, by simpa using k⟩
  show (w.heap.modify g _)[g]? = _
  rw [Array.getElem?_eq_getElem (by rw [Array.size_modify]; exact hlt), Array.getElem_modify_self, hk]
  simp [Array.setIfInBounds_def]
  exact fun h => (List.set_eq_of_length_le h).symm
theorem RowM.of {n c : Nat} (h : OwnM w g e 1 (.slice (some ⟨g, 0, none⟩) n c) n cs) : ∃ r, RowM w g e (cs ++ r) := by
  rcases h.2 with ⟨h, _⟩ | ⟨g', cap, cur, fz, hv, _, hg, hfz, _, _, _, htake⟩
  · cases h
  · cases hv
    refine ⟨cur.toList.drop (n * 1), fz, ?_, ?_⟩
    · rw [← htake, List.take_append_drop, Array.toArray_toList]
      exact hg
    · rw [← htake, List.take_append_drop]
      simpa using hfz
end

/-- so far in small letters -/
def lowAt (l : List UInt8) (q : Nat) : List UInt8 := (l.take q).map small ++ l.drop q
theorem lowAt_len (l : List UInt8) (q : Nat) : (lowAt l q).length = l.length := by
  unfold lowAt
  simp
  omega
theorem lowAt_at {l : List UInt8} {q : Nat} {c : UInt8} (h : l[q]? = some c) : (lowAt l q)[q]? = some c := by
  have hq := lt_of_get h
  unfold lowAt
  rw [List.getElem?_append_right (by simp; omega), List.length_map, List.length_take, Nat.min_eq_left (by omega), Nat.sub_self, List.getElem?_drop, Nat.add_zero]
  exact h
theorem lowAt_set {l : List UInt8} {q : Nat} {c : UInt8} (h : l[q]? = some c) : (lowAt l q).set q (small c) = lowAt l (q + 1) := by
  have hq := lt_of_get h
  unfold lowAt
  rw [drop_at h, take_succ_of h, List.map_append]
  have hl : ((l.take q).map small).length = q := by simp; omega
  have := set_at ((l.take q).map small) (l.drop (q + 1)) c (small c)
  rw [hl] at this
  exact this
theorem lowAt_same {l : List UInt8} {q : Nat} {c : UInt8} (h : l[q]? = some c) (hc : small c = c) : lowAt l q = lowAt l (q + 1) := by
  rw [← lowAt_set h, hc]
  obtain ⟨hlt, e⟩ := List.getElem?_eq_some_iff.1 (lowAt_at h)
  have : (lowAt l q).set q c = lowAt l q := by
    conv => lhs; rw [← e]
    exact List.set_getElem_self hlt
  exact this.symm
theorem lowAt_end (l : List UInt8) : lowAt l l.length = l.map small := by simp [lowAt]
theorem row_set_map {l m : List UInt8} {r : List Value} {q : Nat} {x : UInt8} (h : l.set q x = m) (hq : q < l.length) : (l.map bv ++ r).set q (bv x) = m.map bv ++ r := by
  rw [← h, List.set_append_left _ _ (by simpa using hq), List.map_set]

set_option maxHeartbeats 800000 in
theorem lower_any (l : List UInt8) (w : World) (hl : l.length ≤ 140737488351232) :
    Calls Tryz.prog 119 #[.string (bs l)] w fun e w' => e = .returned (.string (bs (l.map small))) ∧ Below w.heap.size w w' := by
  obtain ⟨c, W, hcv, hown, hB, _⟩ := conv_bs (P := Tryz.prog) (src := 9) (dst := 22) Tryz.underlying9 Tryz.underlying22 Tryz.underlying5 w l (by unfold maxLen; omega)
  obtain ⟨B, hBB⟩ : ∃ B, w.heap.size = B := ⟨_, rfl⟩
  rw [hBB] at hcv hown hB ⊢
  obtain ⟨r, hrow⟩ := RowM.of hown
  obtain ⟨K, hK⟩ : ∃ K, l.length = K := ⟨_, rfl⟩
  have HK := Lib.hid hK
  have HBB := Lib.hid hBB
  rw [hK] at hcv hl
  clear hown hBB hK
  go_enter Tryz.func119, Tryz.ntmps119
  go_wp2_with fail
  go_loopw [10] (fun i wr => ∃ q : Nat, i = .int .i64 q ∧ q ≤ K ∧ Hid (RowM wr B 5 ((lowAt l q).map bv ++ r)) ∧ Below B w wr) (fun i _ => K - (intOf i).toNat)
  case atStart => exact ⟨0, rfl, by omega, Lib.hid hrow, hB⟩
  case round =>
    clear hrow hB hcv
    obtain ⟨q, rfl, hq, hrow, hB⟩ := hrel
    by_cases hlt : q < K
    · have hlt2 : q < l.length := by rw [HK.out]; exact hlt
      obtain ⟨x, hx⟩ : ∃ x, l[q]? = some x := ⟨_, List.getElem?_eq_getElem hlt2⟩
      have hlen : q < (lowAt l q).length := by rw [lowAt_len]; exact hlt2
      have hcell : wr.cell? ⟨B, q, none⟩ = some (.int .u8 (x.toNat : Int)) := hrow.out.cell (by rw [List.getElem?_append_left (by simpa using hlen), List.getElem?_map, lowAt_at hx]; rfl)
      have hfr : wr.frozen? ⟨B, q, none⟩ = false := hrow.out.frozen (by rw [List.length_append, List.length_map]; omega)
      by_cases h : 65 ≤ x.toNat ∧ x.toNat ≤ 90
      · obtain ⟨h1, h2⟩ := h
        have k1 : (65 : Int) ≤ (x.toNat : Int) := by omega
        have k2 : (x.toNat : Int) ≤ 90 := by omega
        have hsm : (small x).toNat = x.toNat + 32 := by rw [small_nat, if_pos ⟨h1, h2⟩]
        have hset := hrow.out.set q (bv (small x))
        rw [row_set_map (lowAt_set hx) hlen] at hset
        have hbv : bv (small x) = .int .u8 ((x.toNat : Int) + 97 - 65) := by unfold bv; rw [hsm]; congr 1; omega
        rw [hbv] at hset
        have HSET := Lib.hid hset
        clear hset hbv hsm hx hlen hlt2 h1 h2 hrow
        go_wp2_with fail
        go_roundw
        case rel => exact ⟨q + 1, by go_num, by omega, HSET, hB.setCell (Nat.le_refl _) _⟩
        case measure => simp [intOf]; omega
      · have hsm : small x = x := by unfold small; rw [if_neg h]
        have hst := hrow.out
        rw [lowAt_same hx hsm] at hst
        have HST := Lib.hid hst
        have k : ¬ (65 : Int) ≤ (x.toNat : Int) ∨ ((65 : Int) ≤ (x.toNat : Int) ∧ ¬ (x.toNat : Int) ≤ 90) := by omega
        clear hst hsm h hx hlen hlt2 hrow
        rcases k with k1 | ⟨k1, k2⟩
        all_goals
          go_wp2_with fail
          go_roundw
          case rel => exact ⟨q + 1, by go_num, by omega, HST, hB⟩
          case measure => simp [intOf]; omega
    · have hqK : q = l.length := by rw [HK.out]; omega
      have hrow2 := hrow.out
      rw [hqK, lowAt_end] at hrow2
      have hRb : Rb wr (some ⟨B, 0, none⟩) (l.map small) := fun _ => ⟨B, 0, rfl, fun j v hj => by
        rw [Nat.zero_add]
        exact hrow2.cell (by rw [List.getElem?_append_left (by have := lt_of_get hj; simpa using this)]; exact hj)⟩
      have hcs := fun c => conv_str (P := Tryz.prog) (src := 22) (dst := 9) (c := c) (n := K) Tryz.underlying22 Tryz.underlying5 Tryz.underlying9 hRb (by rw [List.length_map]; exact HK.out)
      clear hRb hrow hrow2 hqK
      go_wp2_with fail
      go_ret
      exact ⟨rfl, hB⟩

theorem trim_any (l : List UInt8) (w : World) (hb : l.length ≤ 140737488351232) :
    Calls Tryz.prog 138 #[.string (bs l), .string ⟨#[32, 9]⟩] w fun e w' => e = .returned (.string (bs (trimB l))) ∧ Below w.heap.size w w' := by
  have h := Any.strings_Trim_laid Tryz.lays160 (by kernel_rfl) (bs l) ⟨#[32, 9]⟩ w (by rw [bs_size]; omega) (by decide) (ascii_of_all (by decide))
  rw [bs_toList] at h
  exact h
set_option maxHeartbeats 400000 in
theorem tktrim_any (l : List UInt8) (w : World) (hb : l.length ≤ 140737488351232) :
    Calls Tryz.prog 132 #[.string (bs l)] w fun e w' => e = .returned (.string (bs (trimB l))) ∧ Below w.heap.size w w' := by
  have h := trim_any l
  generalize trimB l = m at *
  go_enter Tryz.func132, Tryz.ntmps132
  go_wp2_with fail
  refine (h _ hb).mono ?_
  rintro e w' ⟨rfl, hb⟩
  go_wp2_with fail
  go_ret
  exact ⟨rfl, hb⟩

/-- a text as a value -/
def sv (l : List UInt8) : Value := .string (bs l)
set_option maxHeartbeats 800000 in
theorem idxf_any (p : List UInt8 → Bool) (g : Nat) (eg : ∀ args w, (callFunc g args).run Tryz.prog w = .ok (.enter g args) w) (ps : List (List UInt8)) (hp : ∀ (x : List UInt8) (W : World), x ∈ ps → Calls Tryz.prog g #[.string (bs x)] W fun e w' => e = .returned (.bool (p x)) ∧ Below W.heap.size W w')
    (A : Option Addr) (n c : Nat) (w : World) (hn : ps.length = n) (hb : n ≤ 140737488351232) (hA : Rv w A (ps.map sv)) :
    Calls Tryz.prog 235 #[.slice A n c, .func (.func g) #[] #[]] w fun e w' => (∃ i : Int, e = .returned (.int .i64 i) ∧ decide (0 ≤ i) = ps.any p) ∧ Below w.heap.size w w' := by
  go_enter Tryz.func235, Tryz.ntmps235
  go_wp2_with fail
  go_loopw [8] (fun i wr => ∃ q : Nat, i = .int .i64 q ∧ q ≤ n ∧ Hid ((ps.take q).any p = false) ∧ Below w.heap.size w wr) (fun i _ => n - (intOf i).toNat)
  case atStart => exact ⟨0, rfl, by omega, Lib.hid (by simp), Below.refl _ _⟩
  case round =>
    obtain ⟨q, rfl, hq, ha, hB⟩ := hrel
    by_cases hlt : q < n
    · have hlt2 : q < ps.length := by omega
      obtain ⟨b, o, v, rfl, hv, hcell⟩ := (hA.below hB).one (k := q) (by simpa using hlt2)
      obtain ⟨x, hx⟩ : ∃ x, ps[q]? = some x := ⟨_, List.getElem?_eq_getElem hlt2⟩
      have hvx : v = .string (bs x) := by
        have := hv.out
        rw [List.getElem?_map, hx] at this
        exact (Option.some.inj this).symm
      subst hvx
      have hcall := hp x wr (List.mem_of_getElem? hx)
      rcases Bool.eq_false_or_eq_true (p x) with h | h
      · have hyes : ps.any p = true := List.any_eq_true.2 ⟨x, List.mem_of_getElem? hx, h⟩
        have HY := Lib.hid hyes
        rw [h] at hcall
        clear hyes h hp hx hv hA
        go_wp2_with (go_at_fn g; refine hcall.mono ?_; rintro e w' ⟨rfl, hb'⟩)
        go_ret
        exact ⟨⟨_, rfl, by rw [HY.out]; simp⟩, hB.trans (hb'.mono hB.size)⟩
      · have hst : (ps.take (q + 1)).any p = false := by
          rw [take_succ_of hx, List.any_append, ha.out]
          simp [h]
        have HST := Lib.hid hst
        rw [h] at hcall
        clear hst h hp hx hv
        go_wp2_with (go_at_fn g; refine hcall.mono ?_; rintro e w' ⟨rfl, hb'⟩)
        go_roundw
        case rel => exact ⟨q + 1, by go_num, by omega, HST, hB.trans (hb'.mono hB.size)⟩
        case measure => simp [intOf]; omega
    · have hno : ps.any p = false := by
        have := ha.out
        rwa [take_all ps (by omega)] at this
      have HN := Lib.hid hno
      clear hno hp hA
      go_wp2_with fail
      go_ret
      exact ⟨⟨_, rfl, by rw [HN.out]; rfl⟩, hB⟩
set_option maxHeartbeats 400000 in
theorem contf_any (p : List UInt8 → Bool) (g : Nat) (eg : ∀ args w, (callFunc g args).run Tryz.prog w = .ok (.enter g args) w) (ps : List (List UInt8)) (hp : ∀ (x : List UInt8) (W : World), x ∈ ps → Calls Tryz.prog g #[.string (bs x)] W fun e w' => e = .returned (.bool (p x)) ∧ Below W.heap.size W w')
    (A : Option Addr) (n c : Nat) (w : World) (hn : ps.length = n) (hb : n ≤ 140737488351232) (hA : Rv w A (ps.map sv)) :
    Calls Tryz.prog 205 #[.slice A n c, .func (.func g) #[] #[]] w fun e w' => e = .returned (.bool (ps.any p)) ∧ Below w.heap.size w w' := by
  have h := idxf_any p g eg ps hp A n c w hn hb hA
  clear hp hA hn
  generalize ps.any p = r at *
  go_enter Tryz.func205, Tryz.ntmps205
  go_wp2_with fail
  refine h.mono ?_
  rintro e w' ⟨⟨i, rfl, hi⟩, hb⟩
  go_wp2_with fail
  go_ret
  exact ⟨ret_bool (by first | exact hi | rfl), hb⟩
set_option maxHeartbeats 400000 in
theorem dotted1_any (l : List UInt8) (w : World) (hl : l.length ≤ 140737488351232) :
    Calls Tryz.prog 207 #[.string (bs l)] w fun e w' => e = .returned (.bool (!atomB l)) ∧ Below w.heap.size w w' := by
  have h := atom_any l
  generalize atomB l = r at *
  go_enter Tryz.func207, Tryz.ntmps207
  go_wp2_with fail
  refine (h _ hl).mono ?_
  rintro e w' ⟨rfl, hb⟩
  go_wp2_with fail
  go_ret
  exact ⟨rfl, hb⟩
theorem eg_dotted1 : ∀ args w, (callFunc 207 args).run Tryz.prog w = .ok (.enter 207 args) w := enters_of Tryz.func207 (by kernel_rfl) rfl
theorem split_any (l : List UInt8) (s : UInt8) (w : World) (hw : Mx w) (hl : l.length ≤ 1000000000) :
    Calls Tryz.prog 206 #[.string (bs l), .string ⟨#[s]⟩] w fun e w' => ∃ A c, e = .returned (.slice A (splitP s l).length c) ∧ Rv w' A ((splitP s l).map sv) ∧ Below w.heap.size w w' := by
  obtain ⟨m, hm⟩ := hw
  refine (Tryz.strings_Split (bs l) ⟨#[s]⟩ m w (by rw [bs_size]; omega) hm (Nat.le_refl 1)).mono ?_
  rintro e w' ⟨rfl, rfl⟩
  rw [countB_P, splitB_P]
  exact ⟨_, _, rfl, Rv_new w _ _ _ rfl, (Below.refl _ _).alloc (Nat.le_refl _) _⟩
set_option maxHeartbeats 400000 in
theorem dotted_any (l : List UInt8) (w : World) (hw : Mx w) (hl : l.length ≤ 1000000) :
    Calls Tryz.prog 155 #[.string (bs l)] w fun e w' => e = .returned (.bool (dotP l)) ∧ Below w.heap.size w w' := by
  have h := split_any l 46 w hw (by omega)
  have hd : (!((splitP 46 l).any fun x => !atomB x)) = dotP l := by
    unfold dotP
    rw [List.all_eq_not_any_not]
  have HD := Lib.hid hd
  have hlen := splitP_len 46 l
  have hmem := splitP_mem 46 l
  have hc := fun A n c W => contf_any (fun x => !atomB x) 207 eg_dotted1 (splitP 46 l) (fun x W hx => dotted1_any x W (by have := hmem x hx; omega)) A n c W
  clear hd hmem
  generalize (splitP 46 l).any (fun x => !atomB x) = r at *
  generalize splitP 46 l = ps at *
  go_enter Tryz.func155, Tryz.ntmps155
  go_wp2_with fail
  refine h.mono ?_
  rintro e w1 ⟨A, c, rfl, hA, hb1⟩
  go_wp2_with fail
  refine (hc _ _ _ _ rfl (by omega) hA).mono ?_
  rintro e w2 ⟨rfl, hb2⟩
  go_wp2_with fail
  go_ret
  exact ⟨ret_bool HD.out, hb1.trans (hb2.mono hb1.size)⟩
end Tk
end Go.Proofs.YtkllecicddfjpaaGreatDoor
