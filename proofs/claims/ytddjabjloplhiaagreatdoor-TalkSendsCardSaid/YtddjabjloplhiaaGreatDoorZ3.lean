/- The talk's Post in memory with the mails that it took: values whose blocks lie apart; take. -/
import Derived.Test.YtddjabjloplhiaaGreatDoorZ2
import Derived.Test.YtddjabjloplhiaaGreatDoorY6
namespace Go.Proofs.YtddjabjloplhiaaGreatDoor
set_option linter.unusedVariables false
set_option linter.unusedSimpArgs false
open Go.RowKit

/-- this is the block of that value -/
def nb (v : Value) (k : Nat) : Prop := v.ownBlock = some k
/-- values whose blocks lie apart -/
def Sep (vs : List Value) : Prop := ∀ (i j : Nat) (u v : Value), i ≠ j → vs[i]? = some u → vs[j]? = some v → ∀ k, nb u k → nb v k → False
theorem Sep.upd {vs : List Value} {i N : Nat} {v v' : Value} (h : Sep vs) (hi : vs[i]? = some v) (hlt : ∀ u ∈ vs, ∀ k, nb u k → k < N) (hv : ∀ k, nb v' k → nb v k ∨ N ≤ k) : Sep (vs.set i v') := by
  intro a b x y hab ha hb k hx hy
  have hil := lt_of_get hi
  rw [List.getElem?_set] at ha hb
  by_cases h1 : i = a
  · subst h1
    rw [if_pos rfl, if_pos hil] at ha
    cases ha
    rw [if_neg hab] at hb
    rcases hv k hx with h2 | h2
    · exact h i b v y hab hi hb k h2 hy
    · have := hlt y (List.mem_of_getElem? hb) k hy
      omega
  · rw [if_neg h1] at ha
    by_cases h2 : i = b
    · subst h2
      rw [if_pos rfl, if_pos hil] at hb
      cases hb
      rcases hv k hy with h3 | h3
      · exact h a i x v hab ha hi k hx h3
      · have := hlt x (List.mem_of_getElem? ha) k hx
        omega
    · rw [if_neg h2] at hb
      exact h a b x y hab ha hb k hx hy
/-- a pointer's block, as a value's -/
def pv (p : Nat) : Value := .slice (some ⟨p, 0, none⟩) 0 0
theorem nb_pv {p k : Nat} : nb (pv p) k ↔ k = p := by simp [nb, pv, Value.ownBlock, eq_comm]
theorem nb_nil {k n c : Nat} : ¬ nb (.slice none n c) k := by simp [nb, Value.ownBlock]

/-- a mail with its two values -/
abbrev Tm := Pm × Value × Value
/-- the cells of mails -/
def pcs (ts : List Tm) : List Value := ts.flatMap fun t => [.string (bs t.1.frm), t.2.1, t.2.2]
theorem pcs_len (ts : List Tm) : (pcs ts).length = ts.length * 3 := by
  induction ts with
  | nil => rfl
  | cons t l ih =>
    simp only [pcs, List.flatMap_cons, List.length_append, List.length_cons, List.length_nil] at ih ⊢
    rw [ih]
    omega
theorem pcs_app (a b : List Tm) : pcs (a ++ b) = pcs a ++ pcs b := by simp [pcs]
/-- mails lie in memory, apart from these values -/
def TsOk (w : World) (base : Nat) (vs : List Value) (ts : List Tm) : Prop := ∀ t ∈ ts, OwnM w base 9 1 t.2.1 t.1.tos.length (t.1.tos.map sv) ∧ OwnM w base 5 1 t.2.2 t.1.body.length (t.1.body.map bv) ∧ ∀ k, nb t.2.1 k ∨ nb t.2.2 k → ∀ v ∈ vs, ¬ nb v k
theorem TsOk.next {w w' : World} {base : Nat} {vs vs' : List Value} {ts : List Tm} {S : Nat → Prop} (h : TsOk w base vs ts) (hx : Ext S w w') (hS : ∀ k, k < w.heap.size → S k → ∃ v ∈ vs, nb v k) (hv : ∀ k, k < w.heap.size → (∃ v ∈ vs', nb v k) → ∃ v ∈ vs, nb v k) : TsOk w' base vs' ts := by
  intro t ht
  obtain ⟨h1, h2, h3⟩ := h t ht
  have hno : ∀ k, nb t.2.1 k ∨ nb t.2.2 k → ¬ S k := fun k hk hs => by
    have hlt : k < w.heap.size := by
      rcases hk with hk | hk
      · exact (h1.lt k hk).2
      · exact (h2.lt k hk).2
    obtain ⟨v, hv1, hv2⟩ := hS k hlt hs
    exact h3 k hk v hv1 hv2
  refine ⟨hx.own h1 fun k hk => hno k (.inl hk), hx.own h2 fun k hk => hno k (.inr hk), fun k hk v hvm hvk => ?_⟩
  have hlt : k < w.heap.size := by
    rcases hk with hk | hk
    · exact (h1.lt k hk).2
    · exact (h2.lt k hk).2
  obtain ⟨u, hu1, hu2⟩ := hv k hlt ⟨v, hvm, hvk⟩
  exact h3 k hk u hu1 hu2

theorem infoPo : (Tryz.prog.info? 38).map (fun i => (i.zero, i.size, i.bytes)) = some (some (.agg #[.string ⟨#[]⟩, .slice none 0 0, .slice none 0 0]), 3, 64) := by kernel_rfl
theorem TPo : ElT Tryz.prog 31 38 3 64 := ElT.mk' (z := .agg #[.string ⟨#[]⟩, .slice none 0 0, .slice none 0 0]) Tryz.underlying31 (by omega) (by omega) rfl infoPo

/-- a Post, with all its values -/
structure PG (w : World) (base p : Nat) (s : Ps) (left : List UInt8) (ts : List Tm) (out : List UInt8) (lv tv kv ov xv : Value) (xo : List UInt8) : Prop where
  row : Row w p 52 [.int .i64 s.st, lv, .string (bs s.frm), tv, .slice none 0 0, kv]
  lo : OwnM w base 5 1 lv left.length (left.map bv)
  ro : OwnM w base 9 1 tv s.tos.length (s.tos.map sv)
  ko : OwnM w base 38 3 kv ts.length (pcs ts)
  oo : OwnM w base 5 1 ov out.length (out.map bv)
  xx : OwnM w base 5 1 xv xo.length (xo.map bv)
  hp : base ≤ p
  sep : Sep [pv p, lv, tv, kv, ov, xv]
  tso : TsOk w base [pv p, lv, tv, kv, ov, xv] ts
section
variable {w w' : World} {base p : Nat} {s : Ps} {left : List UInt8} {ts : List Tm} {out : List UInt8} {lv tv kv ov xv : Value} {xo : List UInt8}
theorem PG.lt (h : PG w base p s left ts out lv tv kv ov xv xo) : ∀ u ∈ [pv p, lv, tv, kv, ov, xv], ∀ k, nb u k → k < w.heap.size := by
  intro u hu k hk
  simp only [List.mem_cons, List.not_mem_nil, or_false] at hu
  rcases hu with rfl | rfl | rfl | rfl | rfl | rfl
  · rw [nb_pv] at hk; rw [hk]; exact h.row.lt
  · exact (h.lo.lt k hk).2
  · exact (h.ro.lt k hk).2
  · exact (h.ko.lt k hk).2
  · exact (h.oo.lt k hk).2
  · exact (h.xx.lt k hk).2
theorem PG.baseLe (h : PG w base p s left ts out lv tv kv ov xv xo) : ∀ u ∈ [pv p, lv, tv, kv, ov, xv], ∀ k, nb u k → base ≤ k := by
  intro u hu k hk
  simp only [List.mem_cons, List.not_mem_nil, or_false] at hu
  rcases hu with rfl | rfl | rfl | rfl | rfl | rfl
  · rw [nb_pv] at hk; rw [hk]; exact h.hp
  · exact (h.lo.lt k hk).1
  · exact (h.ro.lt k hk).1
  · exact (h.ko.lt k hk).1
  · exact (h.oo.lt k hk).1
  · exact (h.xx.lt k hk).1
theorem PG.below (h : PG w base p s left ts out lv tv kv ov xv xo) (hb : Below w.heap.size w w') : PG w' base p s left ts out lv tv kv ov xv xo :=
  ⟨h.row.below hb, h.lo.below hb, h.ro.below hb, h.ko.below hb, h.oo.below hb, h.xx.below hb, h.hp, h.sep, h.tso.next (S := fun _ => False) (Ext.of_below _ hb) (fun _ _ hs => hs.elim) fun _ _ hv => hv⟩
/-- values that only get fresh blocks -/
theorem mem_upd {vs : List Value} {i N : Nat} {v v' : Value} (hi : vs[i]? = some v) (hv : ∀ k, nb v' k → nb v k ∨ N ≤ k) : ∀ k, k < N → (∃ u ∈ vs.set i v', nb u k) → ∃ u ∈ vs, nb u k := by
  rintro k hk ⟨u, hu, hn⟩
  rcases List.mem_or_eq_of_mem_set hu with h | h
  · exact ⟨u, h, hn⟩
  · rw [h] at hn
    rcases hv k hn with h2 | h2
    · exact ⟨v, List.mem_of_getElem? hi, h2⟩
    · omega
/-- the answer's row is another -/
theorem PG.out' (h : PG w base p s left ts out lv tv kv ov xv xo) {out' : List UInt8} {ov' : Value} (hx : Ext (fun k => nb ov k) w w') (ho : OwnM w' base 5 1 ov' out'.length (out'.map bv)) (hv : ∀ k, nb ov' k → nb ov k ∨ w.heap.size ≤ k) : PG w' base p s left ts out' lv tv kv ov' xv xo := by
  have hno : ∀ (i : Nat) (u : Value), i ≠ 4 → [pv p, lv, tv, kv, ov, xv][i]? = some u → ∀ k, nb u k → ¬ nb ov k := fun i u hi hu k h1 h2 => h.sep i 4 u ov hi hu rfl k h1 h2
  refine ⟨hx.row h.row (fun e => hno 0 _ (by omega) rfl p (nb_pv.2 rfl) e), hx.own h.lo (hno 1 _ (by omega) rfl), hx.own h.ro (hno 2 _ (by omega) rfl), hx.own h.ko (hno 3 _ (by omega) rfl), ho, hx.own h.xx (hno 5 _ (by omega) rfl), h.hp, h.sep.upd (i := 4) rfl h.lt hv, ?_⟩
  exact h.tso.next hx (fun k _ hs => ⟨ov, by simp, hs⟩) (mem_upd (i := 4) (vs := [pv p, lv, tv, kv, ov, xv]) rfl hv)
/-- the other row, of who calls, is another -/
theorem PG.fr' (h : PG w base p s left ts out lv tv kv ov xv xo) {xo' : List UInt8} {xv' : Value} (hx : Ext (fun k => nb xv k) w w') (ho : OwnM w' base 5 1 xv' xo'.length (xo'.map bv)) (hv : ∀ k, nb xv' k → nb xv k ∨ w.heap.size ≤ k) : PG w' base p s left ts out lv tv kv ov xv' xo' := by
  have hno : ∀ (i : Nat) (u : Value), i ≠ 5 → [pv p, lv, tv, kv, ov, xv][i]? = some u → ∀ k, nb u k → ¬ nb xv k := fun i u hi hu k h1 h2 => h.sep i 5 u xv hi hu rfl k h1 h2
  refine ⟨hx.row h.row (fun e => hno 0 _ (by omega) rfl p (nb_pv.2 rfl) e), hx.own h.lo (hno 1 _ (by omega) rfl), hx.own h.ro (hno 2 _ (by omega) rfl), hx.own h.ko (hno 3 _ (by omega) rfl), hx.own h.oo (hno 4 _ (by omega) rfl), ho, h.hp, h.sep.upd (i := 5) rfl h.lt hv, ?_⟩
  exact h.tso.next hx (fun k _ hs => ⟨xv, by simp, hs⟩) (mem_upd (i := 5) (vs := [pv p, lv, tv, kv, ov, xv]) rfl hv)
/-- what has no end yet is another row, and is stored -/
theorem PG.left' (h : PG w base p s left ts out lv tv kv ov xv xo) {left' : List UInt8} {lv' : Value} (hx : Ext (fun k => nb lv k) w w') (ho : OwnM w' base 5 1 lv' left'.length (left'.map bv)) (hv : ∀ k, nb lv' k → nb lv k ∨ w.heap.size ≤ k) : PG (w'.setCell ⟨p, 1, none⟩ lv') base p s left' ts out lv' tv kv ov xv xo := by
  have hno : ∀ (i : Nat) (u : Value), i ≠ 1 → [pv p, lv, tv, kv, ov, xv][i]? = some u → ∀ k, nb u k → ¬ nb lv k := fun i u hi hu k h1 h2 => h.sep i 1 u lv hi hu rfl k h1 h2
  have hpl : p < w.heap.size := h.row.lt
  have hx2 : Ext (fun k => k = p) w' (w'.setCell ⟨p, 1, none⟩ lv') := (Ext.refl (fun k => k = p) w').set ⟨p, 1, none⟩ _ rfl
  have hnp : ∀ (i : Nat) (u : Value), i ≠ 0 → [pv p, lv, tv, kv, ov, xv][i]? = some u → ∀ k, nb u k → ¬ k = p := fun i u hi hu k h1 h2 => h.sep i 0 u (pv p) hi hu rfl k h1 (nb_pv.2 h2)
  have hlvp : ∀ k, nb lv' k → ¬ k = p := fun k hk e => by
    rcases hv k hk with h1 | h1
    · exact hnp 1 _ (by omega) rfl k h1 e
    · omega
  refine ⟨(hx.row h.row (fun e => hno 0 _ (by omega) rfl p (nb_pv.2 rfl) e)).set 1 lv', hx2.own ho hlvp, hx2.own (hx.own h.ro (hno 2 _ (by omega) rfl)) (hnp 2 _ (by omega) rfl), hx2.own (hx.own h.ko (hno 3 _ (by omega) rfl)) (hnp 3 _ (by omega) rfl), hx2.own (hx.own h.oo (hno 4 _ (by omega) rfl)) (hnp 4 _ (by omega) rfl), hx2.own (hx.own h.xx (hno 5 _ (by omega) rfl)) (hnp 5 _ (by omega) rfl), h.hp, h.sep.upd (i := 1) rfl h.lt hv, ?_⟩
  refine h.tso.next (S := fun k => nb lv k ∨ k = p) ((hx.mono fun _ e => .inl e).trans (hx2.mono (T := fun k => nb lv k ∨ k = p) fun _ e => .inr e) fun _ e => .inl e) (fun k _ hs => ?_) (mem_upd (i := 1) (vs := [pv p, lv, tv, kv, ov, xv]) rfl hv)
  rcases hs with hs | hs
  · exact ⟨lv, by simp, hs⟩
  · exact ⟨pv p, by simp, nb_pv.2 hs⟩
/-- a command was done -/
theorem PG.cmd' (h : PG w base p s left ts out lv tv kv ov xv xo) {a : List UInt8} {s' : Ps} {e : Ending} (hc : CmdOut p base (a, s') lv tv kv w e w') (hx : Ext (fun k => k = p ∨ tv.ownBlock = some k) w w') :
    ∃ lv' tv', PG w' base p s' (if s'.st = 5 then [] else left) ts out lv' tv' kv ov xv xo := by
  obtain ⟨_, tv', hrow, hto, hbk⟩ := hc
  simp only at hrow hto
  have hno : ∀ (i : Nat) (u : Value), i ≠ 0 → i ≠ 2 → [pv p, lv, tv, kv, ov, xv][i]? = some u → ∀ k, nb u k → ¬ (k = p ∨ tv.ownBlock = some k) := fun i u h0 h2 hu k h1 hs => by
    rcases hs with hs | hs
    · exact h.sep i 0 u (pv p) h0 hu rfl k h1 (nb_pv.2 hs)
    · exact h.sep i 2 u tv h2 hu rfl k h1 hs
  have hv : ∀ k, nb tv' k → nb tv k ∨ w.heap.size ≤ k := fun k hk => by
    unfold nb at hk
    rcases hbk with h1 | h1 | ⟨j, h1, h2⟩
    · rw [h1] at hk; cases hk
    · rw [h1] at hk; exact .inl hk
    · rw [h1] at hk; cases hk; exact .inr h2
  have hso := h.sep.upd (i := 2) rfl h.lt hv
  have hto2 := h.tso.next (vs' := [pv p, lv, tv', kv, ov, xv]) hx (fun k _ hs => by
    rcases hs with hs | hs
    · exact ⟨pv p, by simp, nb_pv.2 hs⟩
    · exact ⟨tv, by simp, hs⟩) (mem_upd (i := 2) (vs := [pv p, lv, tv, kv, ov, xv]) rfl hv)
  have hlt2 : ∀ u ∈ [pv p, lv, tv', kv, ov, xv], ∀ k, nb u k → k < w'.heap.size := fun u hu k hk => by
    have hs := hx.size
    simp only [List.mem_cons, List.not_mem_nil, or_false] at hu
    rcases hu with rfl | rfl | rfl | rfl | rfl | rfl
    · exact Nat.lt_of_lt_of_le (h.lt _ (by simp) k hk) hs
    · exact Nat.lt_of_lt_of_le (h.lt _ (by simp) k hk) hs
    · exact (hto.lt k hk).2
    · exact Nat.lt_of_lt_of_le (h.lt _ (by simp) k hk) hs
    · exact Nat.lt_of_lt_of_le (h.lt _ (by simp) k hk) hs
    · exact Nat.lt_of_lt_of_le (h.lt _ (by simp) k hk) hs
  by_cases h5 : s'.st = 5
  · rw [if_pos h5] at hrow ⊢
    refine ⟨.slice none 0 0, tv', hrow, OwnM.nil _ _ _ _, hto, hx.own h.ko (hno 3 _ (by omega) (by omega) rfl), hx.own h.oo (hno 4 _ (by omega) (by omega) rfl), hx.own h.xx (hno 5 _ (by omega) (by omega) rfl), h.hp, ?_, ?_⟩
    · exact Sep.upd (i := 1) (v := lv) (v' := .slice none 0 0) hso rfl hlt2 (fun k hk => (nb_nil hk).elim)
    · exact hto2.next (S := fun _ => False) (Ext.refl _ _) (fun _ _ hs => hs.elim) (mem_upd (i := 1) (v := lv) (v' := .slice none 0 0) (vs := [pv p, lv, tv', kv, ov, xv]) rfl (fun k hk => (nb_nil hk).elim))
  · rw [if_neg h5] at hrow ⊢
    exact ⟨lv, tv', hrow, hx.own h.lo (hno 1 _ (by omega) (by omega) rfl), hto, hx.own h.ko (hno 3 _ (by omega) (by omega) rfl), hx.own h.oo (hno 4 _ (by omega) (by omega) rfl), hx.own h.xx (hno 5 _ (by omega) (by omega) rfl), h.hp, hso, hto2⟩
/-- a mail was taken -/
theorem PG.take' (h : PG w base p s left ts out lv tv kv ov xv xo) {m : List UInt8} {mv kv' : Value} (hm : OwnM w base 5 1 mv m.length (m.map bv)) (hmv : ∀ k, nb mv k → ∀ v ∈ [pv p, lv, tv, kv, ov, xv], ¬ nb v k)
    (hrow : Row w' p 52 [.int .i64 ((1 : Nat) : Int), lv, .string (bs []), .slice none 0 0, .slice none 0 0, kv']) (hk : OwnM w' base 38 3 kv' (ts.length + 1) (pcs ts ++ [.string (bs s.frm), tv, mv])) (hv : ∀ k, nb kv' k → nb kv k ∨ w.heap.size ≤ k) (hx : Ext (fun k => k = p ∨ nb kv k) w w') :
    PG w' base p ⟨1, [], []⟩ left (ts ++ [(⟨s.frm, s.tos, m⟩, tv, mv)]) out lv (.slice none 0 0) kv' ov xv xo := by
  have hno : ∀ (i : Nat) (u : Value), i ≠ 0 → i ≠ 3 → [pv p, lv, tv, kv, ov, xv][i]? = some u → ∀ k, nb u k → ¬ (k = p ∨ nb kv k) := fun i u h0 h2 hu k h1 hs => by
    rcases hs with hs | hs
    · exact h.sep i 0 u (pv p) h0 hu rfl k h1 (nb_pv.2 hs)
    · exact h.sep i 3 u kv h2 hu rfl k h1 hs
  have hso := h.sep.upd (i := 3) rfl h.lt hv
  have hlt2 : ∀ u ∈ [pv p, lv, tv, kv', ov, xv], ∀ k, nb u k → k < w'.heap.size := fun u hu k hk' => by
    have hs := hx.size
    simp only [List.mem_cons, List.not_mem_nil, or_false] at hu
    rcases hu with rfl | rfl | rfl | rfl | rfl | rfl
    · exact Nat.lt_of_lt_of_le (h.lt _ (by simp) k hk') hs
    · exact Nat.lt_of_lt_of_le (h.lt _ (by simp) k hk') hs
    · exact Nat.lt_of_lt_of_le (h.lt _ (by simp) k hk') hs
    · exact (hk.lt k hk').2
    · exact Nat.lt_of_lt_of_le (h.lt _ (by simp) k hk') hs
    · exact Nat.lt_of_lt_of_le (h.lt _ (by simp) k hk') hs
  have hv2 : ∀ k, k < w.heap.size → (∃ u ∈ [pv p, lv, .slice none 0 0, kv', ov, xv], nb u k) → ∃ u ∈ [pv p, lv, tv, kv, ov, xv], nb u k := fun k hk1 hu =>
    mem_upd (i := 3) (vs := [pv p, lv, tv, kv, ov, xv]) rfl hv k hk1 (mem_upd (i := 2) (v := tv) (v' := .slice none 0 0) (N := w.heap.size) (vs := [pv p, lv, tv, kv', ov, xv]) rfl (fun k hk => (nb_nil hk).elim) k hk1 hu)
  have hall := h.tso.next (vs' := [pv p, lv, .slice none 0 0, kv', ov, xv]) hx (fun k _ hs => by
    rcases hs with hs | hs
    · exact ⟨pv p, by simp, nb_pv.2 hs⟩
    · exact ⟨kv, by simp, hs⟩) hv2
  refine ⟨hrow, hx.own h.lo (hno 1 _ (by omega) (by omega) rfl), OwnM.nil _ _ _ _, ?_, hx.own h.oo (hno 4 _ (by omega) (by omega) rfl), hx.own h.xx (hno 5 _ (by omega) (by omega) rfl), h.hp, ?_, ?_⟩
  · rw [List.length_append, pcs_app]
    exact hk
  · exact Sep.upd (i := 2) (v := tv) (v' := .slice none 0 0) hso rfl hlt2 (fun k hk => (nb_nil hk).elim)
  · intro t ht
    rcases List.mem_append.1 ht with ht | ht
    · exact hall t ht
    · simp only [List.mem_singleton] at ht
      subst ht
      refine ⟨hx.own h.ro (hno 2 _ (by omega) (by omega) rfl), hx.own hm (fun k hk' hs => ?_), fun k hk' v hvm hvk => ?_⟩
      · rcases hs with hs | hs
        · exact hmv k hk' (pv p) (by simp) (nb_pv.2 hs)
        · exact hmv k hk' kv (by simp) hs
      · have hkl : k < w.heap.size := by
          rcases hk' with hk' | hk'
          · exact (h.ro.lt k hk').2
          · exact (hm.lt k hk').2
        simp only [List.mem_cons, List.not_mem_nil, or_false] at hvm
        have hold : nb kv' k → nb kv k := fun hq => (hv k hq).elim id fun hq2 => by omega
        rcases hk' with hk' | hk'
        · rcases hvm with rfl | rfl | rfl | rfl | rfl | rfl
          · exact h.sep 2 0 _ _ (by omega) rfl rfl k hk' hvk
          · exact h.sep 2 1 _ _ (by omega) rfl rfl k hk' hvk
          · exact nb_nil hvk
          · exact h.sep 2 3 tv kv (by omega) rfl rfl k hk' (hold hvk)
          · exact h.sep 2 4 _ _ (by omega) rfl rfl k hk' hvk
          · exact h.sep 2 5 _ _ (by omega) rfl rfl k hk' hvk
        · rcases hvm with rfl | rfl | rfl | rfl | rfl | rfl
          · exact hmv k hk' _ (by simp) hvk
          · exact hmv k hk' _ (by simp) hvk
          · exact nb_nil hvk
          · exact hmv k hk' kv (by simp) (hold hvk)
          · exact hmv k hk' _ (by simp) hvk
          · exact hmv k hk' _ (by simp) hvk
end

set_option maxHeartbeats 400000 in
theorem closed2_any (w : World) (p : Nat) (st : Nat) (lv fv tv mv kv : Value) (h : Row w p 52 [.int .i64 st, lv, fv, tv, mv, kv]) :
    Calls Tryz.prog 11 #[.pointer (some ⟨p, 0, none⟩)] w fun e w' => e = .returned (.bool (decide (st = 5))) ∧ w' = w := by
  have c0 := h.cell (j := 0) rfl
  by_cases h5 : st = 5
  · have e : ((st : Int) == 5) = true := by rw [beq_iff_eq]; omega
    rw [decide_eq_true h5]
    clear h5 h
    go_enter Tryz.func11, Tryz.ntmps11
    go_wp2_with fail
    go_ret
    exact ⟨rfl, rfl⟩
  · have e : ((st : Int) == 5) = false := by rw [beq_eq_false_iff_ne]; omega
    rw [decide_eq_false h5]
    clear h5 h
    go_enter Tryz.func11, Tryz.ntmps11
    go_wp2_with fail
    go_ret
    exact ⟨rfl, rfl⟩
end Go.Proofs.YtddjabjloplhiaaGreatDoor
