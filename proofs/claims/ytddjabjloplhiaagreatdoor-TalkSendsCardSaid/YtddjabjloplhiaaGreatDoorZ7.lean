/- The document's Split and Unstuff. -/
import Derived.Test.YtddjabjloplhiaaGreatDoorZ3
namespace Go.Proofs.YtddjabjloplhiaaGreatDoor
set_option linter.unusedVariables false
set_option linter.unusedSimpArgs false
open Go.RowKit

/-- a line with its value -/
abbrev Tl := List UInt8 × Value
/-- lines lie in memory, apart from these values -/
def LsOk (w : World) (base : Nat) (vs : List Value) (ts : List Tl) : Prop := ∀ t ∈ ts, OwnM w base 5 1 t.2 t.1.length (t.1.map bv) ∧ ∀ k, nb t.2 k → ∀ v ∈ vs, ¬ nb v k
theorem LsOk.next {w w' : World} {base : Nat} {vs vs' : List Value} {ts : List Tl} {S : Nat → Prop} (h : LsOk w base vs ts) (hx : Ext S w w') (hS : ∀ k, k < w.heap.size → S k → ∃ v ∈ vs, nb v k) (hv : ∀ k, k < w.heap.size → (∃ v ∈ vs', nb v k) → ∃ v ∈ vs, nb v k) : LsOk w' base vs' ts := by
  intro t ht
  obtain ⟨h1, h3⟩ := h t ht
  have hlt : ∀ k, nb t.2 k → k < w.heap.size := fun k hk => (h1.lt k hk).2
  refine ⟨hx.own h1 fun k hk hs => ?_, fun k hk v hvm hvk => ?_⟩
  · obtain ⟨v, hv1, hv2⟩ := hS k (hlt k hk) hs
    exact h3 k hk v hv1 hv2
  · obtain ⟨u, hu1, hu2⟩ := hv k (hlt k hk) ⟨v, hvm, hvk⟩
    exact h3 k hk u hu1 hu2
theorem LsOk.below {w w' : World} {base : Nat} {vs : List Value} {ts : List Tl} (h : LsOk w base vs ts) (hb : Below w.heap.size w w') : LsOk w' base vs ts := h.next (S := fun _ => False) (Ext.of_below _ hb) (fun _ _ hs => hs.elim) fun _ _ hv => hv

theorem infoBs : (Tryz.prog.info? 22).map (fun i => (i.zero, i.size, i.bytes)) = some (some (.slice none 0 0), 1, 24) := by kernel_rfl
theorem TBs : ElT Tryz.prog 65 22 1 24 := ElT.mk' (z := .slice none 0 0) Tryz.underlying65 (by omega) (by omega) rfl infoBs

/-- the lines, and what is behind the last one -/
def spl (b : List UInt8) : List (List UInt8) × List UInt8 :=
  match h : cutE b with
  | none => ([], b)
  | some (l, r) => (l :: (spl r).1, (spl r).2)
termination_by b.length
decreasing_by all_goals (have := cutE_len h; omega)
theorem spl_none {b : List UInt8} (h : cutE b = none) : spl b = ([], b) := by
  rw [spl]
  split
  · rfl
  · rename_i h2
    rw [h] at h2
    cases h2
theorem spl_some {b l r : List UInt8} (h : cutE b = some (l, r)) : spl b = (l :: (spl r).1, (spl r).2) := by
  rw [spl]
  split
  · rename_i h2
    rw [h] at h2
    cases h2
  · rename_i h2
    rw [h] at h2
    cases h2
    rfl
/-- what of the rest becomes lines, behind a line that has begun -/
def splF (line b : List UInt8) : List (List UInt8) × List UInt8 := match cutE b with
  | none => ([], line ++ b)
  | some (l, r) => ((line ++ l) :: (spl r).1, (spl r).2)
theorem splF_nil (b : List UInt8) : splF [] b = spl b := by
  unfold splF
  cases h : cutE b with
  | none => rw [spl_none h]; rfl
  | some p => rw [spl_some h]; rfl
theorem splF_end (line : List UInt8) : splF line [] = ([], line) := by simp [splF, cutE]
theorem cutE_hit {c d : UInt8} {r : List UInt8} (h1 : c = 13) (h2 : d = 10) : cutE (c :: d :: r) = some ([], r) := by
  subst h1
  subst h2
  rfl
theorem cutE_miss {c : UInt8} {r : List UInt8} (h : c ≠ 13 ∨ r.head? ≠ some 10) : cutE (c :: r) = (cutE r).map fun p => (c :: p.1, p.2) := by
  conv => lhs; unfold cutE
  rw [if_neg]
  intro hp
  obtain ⟨t, ht⟩ := List.isPrefixOf_iff_prefix.1 hp
  simp only [List.cons_append, List.nil_append, List.cons.injEq] at ht
  obtain ⟨rfl, rfl⟩ := ht
  rcases h with h | h
  · exact h rfl
  · exact h rfl
theorem splF_hit {line r : List UInt8} {c d : UInt8} (h1 : c = 13) (h2 : d = 10) : splF line (c :: d :: r) = (line :: (splF [] r).1, (splF [] r).2) := by
  rw [splF_nil]
  unfold splF
  rw [cutE_hit h1 h2]
  simp
theorem splF_miss {line r : List UInt8} {c : UInt8} (h : c ≠ 13 ∨ r.head? ≠ some 10) : splF line (c :: r) = splF (line ++ [c]) r := by
  unfold splF
  rw [cutE_miss h]
  cases cutE r <;> simp
/-- lines with their ends -/
def joinE (ls : List (List UInt8)) : List UInt8 := ls.flatMap fun l => l ++ [13, 10]
theorem joinE_cons (l : List UInt8) (ls : List (List UInt8)) : joinE (l :: ls) = l ++ [13, 10] ++ joinE ls := by simp [joinE]
theorem joinE_app (a b : List (List UInt8)) : joinE (a ++ b) = joinE a ++ joinE b := by simp [joinE]
theorem spl_join : ∀ (k : Nat) (b : List UInt8), b.length ≤ k → joinE (spl b).1 ++ (spl b).2 = b
  | k, b, hk => by
    cases h : cutE b with
    | none => rw [spl_none h]; rfl
    | some p =>
      obtain ⟨l, r⟩ := p
      have hl := cutE_len h
      rw [spl_some h]
      cases k with
      | zero => omega
      | succ k =>
        rw [joinE_cons, List.append_assoc, spl_join k r (by omega), (cutE_some h).1]
        simp
theorem spl_len (b : List UInt8) : (spl b).1.length * 2 + (joinE (spl b).1).length ≤ 2 * b.length ∧ (joinE (spl b).1).length + (spl b).2.length = b.length := by
  have h := congrArg List.length (spl_join _ b (Nat.le_refl _))
  rw [List.length_append] at h
  have : ∀ ls : List (List UInt8), ls.length * 2 ≤ (joinE ls).length := by
    intro ls
    induction ls with
    | nil => simp [joinE]
    | cons l r ih => rw [joinE_cons]; simp; omega
  have := this (spl b).1
  omega
/-- the mail that lines tell up to a point alone -/
def unL (rest : List UInt8) : List (List UInt8) → Option (List UInt8 × List UInt8)
  | [] => none
  | l :: ls => if l = [46] then some ([], joinE ls ++ rest) else (unL rest ls).map fun p => (undot l ++ [13, 10] ++ p.1, p.2)
theorem unL_spl : ∀ (k : Nat) (b : List UInt8), b.length ≤ k → unL (spl b).2 (spl b).1 = unst b
  | k, b, hk => by
    cases h : cutE b with
    | none => rw [spl_none h, unst_none h]; rfl
    | some p =>
      obtain ⟨l, r⟩ := p
      have hl := cutE_len h
      rw [spl_some h, unst_some h]
      unfold unL
      by_cases h1 : l = [46]
      · rw [if_pos h1, if_pos h1, spl_join _ r (Nat.le_refl _)]
      · rw [if_neg h1, if_neg h1]
        cases k with
        | zero => omega
        | succ k => rw [unL_spl k r (by omega)]

/-- what Split hands back -/
def SplitOut (b : List UInt8) (w : World) (e : Ending) (w' : World) : Prop := ∃ (v v2 : Value) (ts : List Tl), e = .returned (.tuple #[v, v2]) ∧ ts.map (·.1) = (spl b).1 ∧ OwnM w' w.heap.size 22 1 v ts.length (ts.map (·.2)) ∧ OwnM w' w.heap.size 5 1 v2 (spl b).2.length ((spl b).2.map bv) ∧
  LsOk w' w.heap.size [v, v2] ts ∧ Sep [v, v2]
/-- so far it was cut -/
def SpAt (b : List UInt8) (ts : List Tl) (line rest : List UInt8) : Prop := spl b = (ts.map (·.1) ++ (splF line rest).1, (splF line rest).2)
theorem SpAt.miss {b : List UInt8} {ts : List Tl} {line r : List UInt8} {c : UInt8} (h : SpAt b ts line (c :: r)) (hc : c ≠ 13 ∨ r.head? ≠ some 10) : SpAt b ts (line ++ [c]) r := by
  unfold SpAt at *
  rw [h, splF_miss hc]
theorem SpAt.hit {b : List UInt8} {ts : List Tl} {line r : List UInt8} {c d : UInt8} (h : SpAt b ts line (c :: d :: r)) (h1 : c = 13) (h2 : d = 10) (v : Value) : SpAt b (ts ++ [(line, v)]) [] r := by
  unfold SpAt at *
  rw [h, splF_hit h1 h2]
  simp
theorem SpAt.done {b : List UInt8} {ts : List Tl} {line : List UInt8} (h : SpAt b ts line []) : spl b = (ts.map (·.1), line) := by
  unfold SpAt at h
  rw [h, splF_end]
  simp
/-- the rows while it is cut -/
structure SpMem (w : World) (base : Nat) (ov lv : Value) (ts : List Tl) (line : List UInt8) : Prop where
  o : OwnM w base 22 1 ov ts.length (ts.map (·.2))
  l : OwnM w base 5 1 lv line.length (line.map bv)
  ls : LsOk w base [ov, lv] ts
  sep : Sep [ov, lv]
theorem SpMem.lt {w : World} {base : Nat} {ov lv : Value} {ts : List Tl} {line : List UInt8} (h : SpMem w base ov lv ts line) : ∀ u ∈ [ov, lv], ∀ k, nb u k → k < w.heap.size := by
  intro u hu k hk
  simp only [List.mem_cons, List.not_mem_nil, or_false] at hu
  rcases hu with rfl | rfl
  · exact (h.o.lt k hk).2
  · exact (h.l.lt k hk).2
theorem SpMem.line {w w1 : World} {base : Nat} {ov lv v1 : Value} {ts : List Tl} {line line' : List UInt8} (h : SpMem w base ov lv ts line) (hx : Ext (fun k => nb lv k) w w1) (ho : OwnM w1 base 5 1 v1 line'.length (line'.map bv)) (hv : ∀ k, nb v1 k → nb lv k ∨ w.heap.size ≤ k) : SpMem w1 base ov v1 ts line' :=
  ⟨hx.own h.o fun k h1 h2 => h.sep 0 1 _ _ (by omega) rfl rfl k h1 h2, ho, h.ls.next hx (fun k _ hs => ⟨lv, by simp, hs⟩) (mem_upd (i := 1) (vs := [ov, lv]) rfl hv), h.sep.upd (i := 1) rfl h.lt hv⟩
theorem SpMem.out {w w1 w2 : World} {base : Nat} {ov lv v1 v2 : Value} {ts : List Tl} {line : List UInt8} (h : SpMem w base ov lv ts line) (hx : Ext (fun k => nb ov k) w w1) (hb2 : Below w1.heap.size w1 w2) (ho : OwnM w1 base 22 1 v1 (ts.length + 1) (ts.map (·.2) ++ [lv])) (hv : ∀ k, nb v1 k → nb ov k ∨ w.heap.size ≤ k)
    (hl : OwnM w2 base 5 1 v2 0 []) (hv2 : ∀ k, nb v2 k → w1.heap.size ≤ k) : SpMem w2 base v1 v2 (ts ++ [(line, lv)]) [] := by
  have hno : ∀ k, nb lv k → ¬ nb ov k := fun k h1 h2 => h.sep 0 1 _ _ (by omega) rfl rfl k h2 h1
  have hl1 := hx.own h.l hno
  have hlt1 := fun k hk => (ho.lt k hk).2
  have hsz := hx.size
  refine ⟨?_, hl, ?_, ?_⟩
  · rw [List.length_append, List.map_append]
    exact ho.below hb2
  · intro t ht
    have hv3 : ∀ k, k < w.heap.size → (∃ v ∈ [v1, v2], nb v k) → ∃ v ∈ [ov, lv], nb v k := by
      rintro k hk ⟨v, hvm, hvk⟩
      simp only [List.mem_cons, List.not_mem_nil, or_false] at hvm
      rcases hvm with rfl | rfl
      · rcases hv k hvk with h1 | h1
        · exact ⟨ov, by simp, h1⟩
        · omega
      · have := hv2 k hvk
        omega
    rcases List.mem_append.1 ht with ht | ht
    · exact (h.ls.next (vs' := [v1, v2]) hx (fun k _ hs => ⟨ov, by simp, hs⟩) hv3).below hb2 t ht
    · simp only [List.mem_singleton] at ht
      subst ht
      refine ⟨hl1.below hb2, fun k hk v hvm hvk => ?_⟩
      have hkl := (h.l.lt k hk).2
      simp only [List.mem_cons, List.not_mem_nil, or_false] at hvm
      rcases hvm with rfl | rfl
      · rcases hv k hvk with h1 | h1
        · exact hno k hk h1
        · omega
      · have := hv2 k hvk
        omega
  · intro i j u v hij hu hv' k h1 h2
    rcases i with _ | _ | i <;> rcases j with _ | _ | j <;> simp at hu hv' hij
    · subst hu; subst hv'
      have := hlt1 k h1
      have := hv2 k h2
      omega
    · subst hu; subst hv'
      have := hlt1 k h2
      have := hv2 k h1
      omega

set_option maxRecDepth 100000 in
set_option maxHeartbeats 4000000 in
theorem rsplit_any (A : Option Addr) (b : List UInt8) (n c : Nat) (w : World) (hn : b.length = n) (hA : Rb w A b) (hnc : n ≤ c) (hb : n ≤ 1000000) :
    Calls Tryz.prog 36 #[.slice A n c] w fun e w' => SplitOut b w e w' ∧ Below w.heap.size w w' := by
  have HN := Lib.hid hn
  have hpu : ∀ W, Sem.run Tryz.prog (pure #[] : Sem (Array Value)) W = .ok #[] W := fun _ => rfl
  have hst : ∀ a W, Sem.run Tryz.prog (storeCells a []) W = .ok () W := fun _ _ => rfl
  have hB1 : Below w.heap.size w (w.alloc (.cells #[] 22)) := (Below.refl _ _).alloc (Nat.le_refl _) _
  have hB2 : Below w.heap.size w ((w.alloc (.cells #[] 22)).alloc (.cells #[] 5)) := hB1.alloc hB1.size _
  have ho1 : OwnM ((w.alloc (.cells #[] 22)).alloc (.cells #[] 5)) w.heap.size 22 1 (.slice (some ⟨w.heap.size, 0, none⟩) 0 0) 0 [] := (OwnM.of (World.ownsRow_made (base := w.heap.size) (e := 22) (size := 1) w #[] 0 (Nat.le_refl _) (by unfold maxLen; omega) rfl)).alloc _
  have ho2 : OwnM ((w.alloc (.cells #[] 22)).alloc (.cells #[] 5)) w.heap.size 5 1 (.slice (some ⟨w.heap.size + 1, 0, none⟩) 0 0) 0 [] := by
    have h := (OwnM.of (World.ownsRow_made (base := (w.alloc (.cells #[] 22)).heap.size) (e := 5) (size := 1) (w.alloc (.cells #[] 22)) #[] 0 (Nat.le_refl _) (by unfold maxLen; omega) rfl)).rebase (b' := w.heap.size) (by simp)
    simpa using h
  have hsp0 : Sep [.slice (some ⟨w.heap.size, 0, none⟩) 0 0, .slice (some ⟨w.heap.size + 1, 0, none⟩) 0 0] := by
    intro i j u v hij hu hv k h1 h2
    rcases i with _ | _ | i <;> rcases j with _ | _ | j <;> simp at hu hv hij
    · subst hu; subst hv; simp [nb, Value.ownBlock] at h1 h2; omega
    · subst hu; subst hv; simp [nb, Value.ownBlock] at h1 h2; omega
  have H1 := Lib.hid ho1
  have H2 := Lib.hid ho2
  have H3 := Lib.hid hsp0
  clear ho1 ho2 hsp0 hn
  go_enter Tryz.func36, Tryz.ntmps36
  go_wp2_with fail
  go_loopw [4, 5, 6] (fun ov lv i wr => ∃ (q : Nat) (ts : List Tl) (line : List UInt8), i = .int .i64 q ∧ q ≤ n ∧ ts.length + line.length ≤ q ∧ Hid (SpAt b ts line (b.drop q)) ∧ Hid (SpMem wr w.heap.size ov lv ts line) ∧ Below w.heap.size w wr) (fun _ _ i _ => n - (intOf i).toNat)
  case atStart =>
    refine ⟨0, [], [], rfl, by omega, by simp, Lib.hid ?_, Lib.hid ⟨H1.out, H2.out, fun t ht => by simp at ht, H3.out⟩, hB2⟩
    unfold SpAt
    rw [List.drop_zero, splF_nil]
    simp
  case round =>
    clear H1 H2 H3 hB1 hB2
    obtain ⟨q, ts, line, rfl, hq, hlen, hsp, hm, hB⟩ := hrel
    have hs := hB.size
    obtain ⟨Al, cl, rfl, _, _, _, _, _, _⟩ := hm.out.l.form
    obtain ⟨Ao, co, rfl, _, _, _, _, _, _⟩ := hm.out.o.form
    by_cases hlt : q < n
    · obtain ⟨b0, o0, x, rfl, hx, cx⟩ := hA.one (k := q) (by rw [HN.out]; exact hlt)
      have cx' : wr.cell? ⟨b0, o0 + q, none⟩ = some (.int .u8 (x.toNat : Int)) := (hB.cell (p := ⟨b0, o0 + q, none⟩) (cell_lt cx)).trans cx
      have hdr := drop_at hx.out
      have t13 : ((x.toNat : Int) == 13) = (x == 13) := u8_test x 13 rfl
      have hl1 := hm.out.l
      have ho1 := hm.out.o
      have hsp1 := hsp.out
      rw [hdr] at hsp1
      by_cases hit : x = 13 ∧ b[q + 1]? = some 10
      · obtain ⟨h13, h10⟩ := hit
        have hq1 := lt_of_get h10
        rw [HN.out] at hq1
        rw [drop_at h10] at hsp1
        have HSP := Lib.hid (hsp1.hit h13 rfl (.slice Al line.length cl))
        have hb13 : ((x.toNat : Int) == 13) = true := by rw [t13, h13]; rfl
        have hlq : (q : Int) + 1 < (n : Int) := by omega
        obtain ⟨b1, o1, x1, e1, hx1, cx1⟩ := hA.one (k := q + 1) (by rw [HN.out]; exact hq1)
        cases e1
        have hx10 : x1 = 10 := by have := hx1.out; rw [h10] at this; exact (Option.some.inj this).symm
        subst hx10
        have cx1' : wr.cell? ⟨b0, o0 + (q + 1), none⟩ = some (.int .u8 10) := (hB.cell (p := ⟨b0, o0 + (q + 1), none⟩) (cell_lt cx1)).trans cx1
        clear hsp1 hdr t13 hx hx1 hsp hl1 cx cx1 h13 h10
        go_wp2_with (at_builtin; refine wpList_appM rfl _ _ _ _ rfl TBs (ho1.alloc (.cells #[.slice Al line.length cl] 22)) rfl (Src_rv (news := [.slice Al line.length cl]) Tryz.underlying65 rfl (Rv_new wr _ _ _ rfl) (by simp [Value.oneCell']) (by omega)) rfl (by omega) (by simp; omega) ?_; intro v1 w1 own1 gr1 at1)
        go_roundw
        case rel =>
          have hx1 : Ext (fun k => nb (.slice Ao ts.length co) k) wr w1 := ((Ext.refl _ wr).alloc _).trans (Ext.of_grown (S := fun k => nb (.slice Ao ts.length co) k) gr1 (fun k e => e)) fun _ h => .inl h
          have hBl1 : Below w1.heap.size w1 (w1.alloc (.cells #[] 5)) := (Below.refl _ _).alloc (Nat.le_refl _) _
          have hsz1 := hx1.size
          refine ⟨q + 2, ts ++ [(line, .slice Al line.length cl)], [], by go_num, by omega, by simp; omega, ?_, Lib.hid (hm.out.out hx1 hBl1 own1 (fun k hk => ?_) ?_ (fun k hk => ?_)), ?_⟩
          · have h := HSP.out
            exact Lib.hid h
          · unfold nb at hk ⊢
            rcases at1 with h | h
            · rw [h] at hk; exact .inl hk
            · rw [h] at hk; have := Option.some.inj hk; simp at this; exact .inr (by omega)
          · exact (OwnM.of (World.ownsRow_made (base := w1.heap.size) (e := 5) (size := 1) w1 #[] 0 (Nat.le_refl _) (by unfold maxLen; omega) rfl)).rebase (by omega)
          · simp [nb, Value.ownBlock] at hk
            omega
          · exact ((hx1.mono (T := fun k => w.heap.size ≤ k) fun k hk => (hm.out.o.lt k hk).1).belowR hBl1).below hB hs fun _ h => h
        case measure => simp [intOf]; omega
      · have hmiss : x ≠ 13 ∨ (b.drop (q + 1)).head? ≠ some 10 := by
          rw [List.head?_drop]
          by_cases h : x = 13
          · exact .inr fun h2 => hit ⟨h, h2⟩
          · exact .inl h
        have HSP := Lib.hid (hsp1.miss hmiss)
        have hcase : (((x.toNat : Int) == 13) = false) ∨ (((x.toNat : Int) == 13) = true ∧ ¬ (q : Int) + 1 < (n : Int)) ∨ (((x.toNat : Int) == 13) = true ∧ (q : Int) + 1 < (n : Int) ∧ ∃ y : UInt8, ((y.toNat : Int) == 10) = false ∧ wr.cell? ⟨b0, o0 + (q + 1), none⟩ = some (.int .u8 (y.toNat : Int))) := by
          by_cases h : x = 13
          · have hb13 : ((x.toNat : Int) == 13) = true := by rw [t13, h]; rfl
            by_cases h2 : q + 1 < n
            · obtain ⟨b1, o1, x1, e1, hx1, cx1⟩ := hA.one (k := q + 1) (by rw [HN.out]; exact h2)
              cases e1
              refine .inr (.inr ⟨hb13, by omega, x1, ?_, (hB.cell (p := ⟨b0, o0 + (q + 1), none⟩) (cell_lt cx1)).trans cx1⟩)
              rw [show ((x1.toNat : Int) == 10) = (x1 == 10) from u8_test x1 10 rfl]
              rw [beq_eq_false_iff_ne]
              rintro rfl
              exact hit ⟨h, hx1.out⟩
            · exact .inr (.inl ⟨hb13, by omega⟩)
          · exact .inl (by rw [t13]; simp [h])
        clear hsp1 hdr t13 hx hsp ho1 cx hit hmiss
        rcases hcase with k1 | ⟨k1, k2⟩ | ⟨k1, k2, y, k3, cy⟩
        all_goals
          go_wp2_with (at_builtin; refine wpList_appM rfl _ _ _ _ rfl TU8 (hl1.alloc (.cells #[bv x] 5)) rfl (Src_rv (news := [bv x]) Tryz.underlying22 rfl (Rv_new wr _ _ _ rfl) (by simp [Value.oneCell', bv]) (by omega)) rfl (by omega) (by simp; omega) ?_; intro v1 w1 own1 gr1 at1)
          go_roundw
          case rel =>
            have hx1 : Ext (fun k => nb (.slice Al line.length cl) k) wr w1 := ((Ext.refl _ wr).alloc _).trans (Ext.of_grown (S := fun k => nb (.slice Al line.length cl) k) gr1 (fun k e => e)) fun _ h => .inl h
            have hsz1 := hx1.size
            refine ⟨q + 1, ts, line ++ [x], by go_num, by omega, by simp; omega, HSP, Lib.hid (hm.out.line hx1 (by rw [List.length_append, List.map_append]; exact own1) (fun k hk => ?_)), ?_⟩
            · unfold nb at hk ⊢
              rcases at1 with h | h
              · rw [h] at hk; exact .inl hk
              · rw [h] at hk; have := Option.some.inj hk; simp at this; exact .inr (by omega)
            · exact (hx1.mono (T := fun k => w.heap.size ≤ k) fun k hk => (hm.out.l.lt k hk).1).below hB hs fun _ h => h
          case measure => simp [intOf]; omega
    · obtain rfl : q = n := by omega
      have hd0 : b.drop q = [] := List.drop_of_length_le (by rw [HN.out]; exact Nat.le_refl _)
      have hsp1 := hsp.out
      rw [hd0] at hsp1
      have HSP := Lib.hid hsp1.done
      clear hsp hsp1 hd0
      go_wp2_with fail
      go_ret2
      refine ⟨⟨_, _, ts, rfl, ?_, hm.out.o, ?_, hm.out.ls, hm.out.sep⟩, hB⟩
      · rw [HSP.out]
      · rw [HSP.out]; exact hm.out.l

end Go.Proofs.YtddjabjloplhiaaGreatDoor
