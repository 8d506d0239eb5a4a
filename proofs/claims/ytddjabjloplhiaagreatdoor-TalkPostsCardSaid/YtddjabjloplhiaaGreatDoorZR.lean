/- The document's Run. -/
import Derived.Test.YtddjabjloplhiaaGreatDoorZC
import Derived.Test.YtddjabjloplhiaaGreatDoorZU
import Derived.Test.YtddjabjloplhiaaGreatDoorZT
namespace Go.Proofs.YtddjabjloplhiaaGreatDoor
set_option linter.unusedVariables false
set_option linter.unusedSimpArgs false
open Go.RowKit

theorem cmd_four {s : Ps} {l : List UInt8} (h : s.st < 4) (h4 : (cmd s l).2.st = 4) : (cmd s l).2 = ⟨4, s.frm, s.tos⟩ := by
  unfold cmd cmd2 at h4 ⊢
  repeat' split at h4
  all_goals (first | (simp_all; done) | (exfalso; simp at h4; omega) | (simp_all; rw [if_neg (by omega)]; done))
theorem cmd_le (s : Ps) (l : List UInt8) (h : s.st < 4) : (cmd s l).2.st ≤ 5 := by
  unfold cmd cmd2
  repeat' split
  all_goals (simp; try omega)
theorem Rb.ext {w w' : World} {A : Option Addr} {l : List UInt8} {S : Nat → Prop} (h : Rb w A l) (hx : Ext S w w') (hs : l ≠ [] → ∀ a, A = some a → ¬ S a.block) : Rb w' A l := fun hp => by
  obtain ⟨b, o, e, hc⟩ := h hp
  have hne : l ≠ [] := by rintro rfl; simp at hp
  refine ⟨b, o, e, fun j v hj => ?_⟩
  have := hc j v hj
  have hb : b < w.heap.size := cell_lt this
  unfold World.cell? at this ⊢
  simp only at this ⊢
  rw [hx.block b hb (hs hne _ e)]
  exact this

/-- the document's talk in memory, with all its values; u: the value in whose block the bytes lie that are still to come -/
structure RG (w : World) (base t : Nat) (s : Ps) (out : List UInt8) (ts : List Tm) (tv mv : Value) (cl : Bool) (u : Value) (buf : List UInt8) (B : Option Addr) : Prop where
  row : Row w t 33 [.int .i64 s.st, .string (bs s.frm), tv, .string (bs out), mv, .bool cl]
  ro : OwnM w base 9 1 tv s.tos.length (s.tos.map sv)
  mo : OwnM w base 38 3 mv ts.length (pcs ts)
  ht : base ≤ t
  sep : Sep [pv t, tv, mv, u]
  tso : TsOk w base [pv t, tv, mv] ts
  ult : ∀ k, nb u k → k < w.heap.size
  hb : Rb w B buf
  hu : buf ≠ [] → ∀ a, B = some a → nb u a.block
section
variable {w w' : World} {base t : Nat} {s : Ps} {out buf : List UInt8} {ts : List Tm} {tv mv u : Value} {cl : Bool} {B : Option Addr}
theorem RG.lt (h : RG w base t s out ts tv mv cl u buf B) : ∀ v ∈ [pv t, tv, mv, u], ∀ k, nb v k → k < w.heap.size := by
  intro v hv k hk
  simp only [List.mem_cons, List.not_mem_nil, or_false] at hv
  rcases hv with rfl | rfl | rfl | rfl
  · rw [nb_pv] at hk; rw [hk]; exact h.row.lt
  · exact (h.ro.lt k hk).2
  · exact (h.mo.lt k hk).2
  · exact h.ult k hk
theorem RG.noU (h : RG w base t s out ts tv mv cl u buf B) (hne : buf ≠ []) : ∀ a, B = some a → ∀ v ∈ [pv t, tv, mv], ¬ nb v a.block := fun a ha v hv hk => by
  have hu := h.hu hne a ha
  simp only [List.mem_cons, List.not_mem_nil, or_false] at hv
  rcases hv with rfl | rfl | rfl
  · exact h.sep 0 3 _ _ (by omega) rfl rfl _ hk hu
  · exact h.sep 1 3 _ _ (by omega) rfl rfl _ hk hu
  · exact h.sep 2 3 _ _ (by omega) rfl rfl _ hk hu
theorem RG.below (h : RG w base t s out ts tv mv cl u buf B) (hb : Below w.heap.size w w') : RG w' base t s out ts tv mv cl u buf B :=
  ⟨h.row.below hb, h.ro.below hb, h.mo.below hb, h.ht, h.sep, h.tso.next (S := fun _ => False) (Ext.of_below _ hb) (fun _ _ hs => hs.elim) fun _ _ hv => hv, fun k hk => Nat.lt_of_lt_of_le (h.ult k hk) hb.size, h.hb.below hb, h.hu⟩
/-- other bytes come next -/
theorem RG.next (h : RG w base t s out ts tv mv cl u buf B) {u' : Value} {buf' : List UInt8} {B' : Option Addr} {N : Nat} (hN : ∀ v ∈ [pv t, tv, mv, u], ∀ k, nb v k → k < N) (hv : ∀ k, nb u' k → nb u k ∨ N ≤ k) (hlt : ∀ k, nb u' k → k < w.heap.size) (hb : Rb w B' buf') (hu : buf' ≠ [] → ∀ a, B' = some a → nb u' a.block) : RG w base t s out ts tv mv cl u' buf' B' :=
  ⟨h.row, h.ro, h.mo, h.ht, h.sep.upd (i := 3) rfl hN hv, h.tso, hlt, hb, hu⟩
theorem RG.cmd' (h : RG w base t s out ts tv mv cl u buf B) {r : List UInt8 × Ps} {e : Ending} (hc : RcOut t base r s out tv mv w e w') :
    e = .returned (.bool (decide (r.2.st = 4))) ∧ ∃ (s' : Ps) (tv' : Value), RG w' base t s' (out ++ r.1 ++ [13, 10]) ts tv' mv (decide (r.2.st = 5)) u buf B ∧ (r.2.st < 4 → s' = r.2) ∧ (4 ≤ r.2.st → s' = s) ∧ Ext (fun k => k = t ∨ nb tv k) w w' := by
  obtain ⟨he, ⟨s', tv', hrow, hto, h1, h2, hv⟩, hx⟩ := hc
  refine ⟨he, s', tv', ⟨hrow, hto, hx.own h.mo fun k h1 hs => ?_, h.ht, h.sep.upd (i := 1) rfl h.lt hv, ?_, fun k hk => Nat.lt_of_lt_of_le (h.ult k hk) hx.size, h.hb.ext hx fun hne a ha hs => ?_, h.hu⟩, h1, h2, hx⟩
  · rcases hs with hs | hs
    · exact h.sep 2 0 mv (pv t) (by omega) rfl rfl k h1 (nb_pv.2 hs)
    · exact h.sep 2 1 mv tv (by omega) rfl rfl k h1 hs
  · exact h.tso.next hx (fun k _ hs => by
      rcases hs with hs | hs
      · exact ⟨pv t, by simp, nb_pv.2 hs⟩
      · exact ⟨tv, by simp, hs⟩) (mem_upd (i := 1) (vs := [pv t, tv, mv]) rfl hv)
  · rcases hs with hs | hs
    · exact h.noU hne a ha (pv t) (by simp) (nb_pv.2 hs)
    · exact h.noU hne a ha tv (by simp) hs
/-- the answer alone changes -/
theorem RG.say' (h : RG w base t s out ts tv mv cl u buf B) {out' : List UInt8} (hrow : Row w' t 33 [.int .i64 s.st, .string (bs s.frm), tv, .string (bs out'), mv, .bool cl]) (hx : Ext (fun k => k = t) w w') : RG w' base t s out' ts tv mv cl u buf B := by
  have hno : ∀ (i : Nat) (v : Value), i ≠ 0 → [pv t, tv, mv, u][i]? = some v → ∀ k, nb v k → ¬ k = t := fun i v hi hv k h1 h2 => h.sep i 0 v (pv t) hi hv rfl k h1 (nb_pv.2 h2)
  exact ⟨hrow, hx.own h.ro (hno 1 _ (by omega) rfl), hx.own h.mo (hno 2 _ (by omega) rfl), h.ht, h.sep, h.tso.next hx (fun k _ hs => ⟨pv t, by simp, nb_pv.2 hs⟩) fun _ _ hv => hv, fun k hk => Nat.lt_of_lt_of_le (h.ult k hk) hx.size, h.hb.ext hx fun hne a ha hs => h.noU hne a ha (pv t) (by simp) (nb_pv.2 hs), h.hu⟩
theorem RG.anew' (h : RG w base t s out ts tv mv cl u buf B) {st : Nat} {tv' : Value} (hrow : Row w' t 33 [.int .i64 st, .string (bs []), tv', .string (bs out), mv, .bool cl]) (ho : OwnM w' base 9 1 tv' 0 []) (hv : ∀ k, nb tv' k → w.heap.size ≤ k) (hx : Ext (fun k => k = t) w w') : RG w' base t ⟨st, [], []⟩ out ts tv' mv cl u buf B := by
  have hno : ∀ (i : Nat) (v : Value), i ≠ 0 → [pv t, tv, mv, u][i]? = some v → ∀ k, nb v k → ¬ k = t := fun i v hi hv k h1 h2 => h.sep i 0 v (pv t) hi hv rfl k h1 (nb_pv.2 h2)
  have hv2 : ∀ k, nb tv' k → nb tv k ∨ w.heap.size ≤ k := fun k hk => .inr (hv k hk)
  exact ⟨hrow, ho, hx.own h.mo (hno 2 _ (by omega) rfl), h.ht, h.sep.upd (i := 1) rfl h.lt hv2, h.tso.next hx (fun k _ hs => ⟨pv t, by simp, nb_pv.2 hs⟩) (mem_upd (i := 1) (vs := [pv t, tv, mv]) rfl hv2), fun k hk => Nat.lt_of_lt_of_le (h.ult k hk) hx.size, h.hb.ext hx fun hne a ha hs => h.noU hne a ha (pv t) (by simp) (nb_pv.2 hs), h.hu⟩
/-- a mail is taken, and the talk begins anew -/
theorem RG.taken (h : RG w base t s out ts tv mv cl u buf B) {m out' : List UInt8} {xv mv' tv' : Value} {N : Nat} (hm : OwnM w base 5 1 xv m.length (m.map bv)) (hxv : ∀ k, nb xv k → ∀ v ∈ [pv t, tv, mv], ¬ nb v k)
    (hrow : Row w' t 33 [.int .i64 ((1 : Nat) : Int), .string (bs []), tv', .string (bs out'), mv', .bool cl]) (hk : OwnM w' base 38 3 mv' (ts.length + 1) (pcs ts ++ [.string (bs s.frm), tv, xv])) (hv : ∀ k, nb mv' k → nb mv k ∨ w.heap.size ≤ k)
    (hN : w.heap.size ≤ N) (hmN : ∀ k, nb mv' k → k < N) (ho : OwnM w' base 9 1 tv' 0 []) (htN : ∀ k, nb tv' k → N ≤ k) (hx : Ext (fun k => k = t ∨ nb mv k) w w') :
    RG w' base t ⟨1, [], []⟩ out' (ts ++ [(⟨s.frm, s.tos, m⟩, tv, xv)]) tv' mv' cl u buf B := by
  have hno : ∀ (i : Nat) (v : Value), i ≠ 0 → i ≠ 2 → [pv t, tv, mv, u][i]? = some v → ∀ k, nb v k → ¬ (k = t ∨ nb mv k) := fun i v h0 h2 hv k h1 hs => by
    rcases hs with hs | hs
    · exact h.sep i 0 v (pv t) h0 hv rfl k h1 (nb_pv.2 hs)
    · exact h.sep i 2 v mv h2 hv rfl k h1 hs
  have hv3 : ∀ k, k < w.heap.size → (∃ v ∈ [pv t, tv', mv'], nb v k) → ∃ v ∈ [pv t, tv, mv], nb v k := by
    rintro k hk1 ⟨v, hvm, hvk⟩
    simp only [List.mem_cons, List.not_mem_nil, or_false] at hvm
    rcases hvm with rfl | rfl | rfl
    · exact ⟨pv t, by simp, hvk⟩
    · have := htN k hvk
      omega
    · rcases hv k hvk with h1 | h1
      · exact ⟨mv, by simp, h1⟩
      · omega
  have hall := h.tso.next (vs' := [pv t, tv', mv']) hx (fun k _ hs => by
    rcases hs with hs | hs
    · exact ⟨pv t, by simp, nb_pv.2 hs⟩
    · exact ⟨mv, by simp, hs⟩) hv3
  refine ⟨hrow, ho, by rw [List.length_append, pcs_app]; exact hk, h.ht, ?_, ?_, fun k hk => Nat.lt_of_lt_of_le (h.ult k hk) hx.size, h.hb.ext hx fun hne a ha hs => ?_, h.hu⟩
  · have hs1 := h.sep.upd (i := 2) rfl h.lt hv
    refine Sep.upd (i := 1) (v := tv) (v' := tv') (N := N) hs1 rfl ?_ fun k hk => .inr (htN k hk)
    intro v hvm k hk2
    simp only [List.set_cons_succ, List.set_cons_zero, List.mem_cons, List.not_mem_nil, or_false] at hvm
    rcases hvm with rfl | rfl | rfl | rfl
    · exact Nat.lt_of_lt_of_le (h.lt _ (by simp) k hk2) hN
    · exact Nat.lt_of_lt_of_le (h.lt _ (by simp) k hk2) hN
    · exact hmN k hk2
    · exact Nat.lt_of_lt_of_le (h.lt _ (by simp) k hk2) hN
  · intro x hxm
    rcases List.mem_append.1 hxm with hxm | hxm
    · exact hall x hxm
    · simp only [List.mem_singleton] at hxm
      subst hxm
      refine ⟨hx.own h.ro (hno 1 _ (by omega) (by omega) rfl), hx.own hm (fun k hk' hs => ?_), fun k hk' v hvm hvk => ?_⟩
      · rcases hs with hs | hs
        · exact hxv k hk' (pv t) (by simp) (nb_pv.2 hs)
        · exact hxv k hk' mv (by simp) hs
      · have hkl : k < w.heap.size := by
          rcases hk' with hk' | hk'
          · exact (h.ro.lt k hk').2
          · exact (hm.lt k hk').2
        obtain ⟨y, hy1, hy2⟩ := hv3 k hkl ⟨v, hvm, hvk⟩
        rcases hk' with hk' | hk'
        · simp only [List.mem_cons, List.not_mem_nil, or_false] at hvm
          rcases hvm with rfl | rfl | rfl
          · exact h.sep 1 0 _ _ (by omega) rfl rfl k hk' hvk
          · have := htN k hvk
            omega
          · rcases hv k hvk with h1 | h1
            · exact h.sep 1 2 tv mv (by omega) rfl rfl k hk' h1
            · omega
        · exact hxv k hk' y hy1 hy2
  · rcases hs with hs | hs
    · exact h.noU hne a ha (pv t) (by simp) (nb_pv.2 hs)
    · exact h.noU hne a ha mv (by simp) hs
end

/-- so far the bytes were looked through for the line's end -/
def ScAt (buf : List UInt8) (q : Nat) : Prop := cutE buf = (cutE (buf.drop q)).map fun p => (buf.take q ++ p.1, p.2)
theorem ScAt.start (buf : List UInt8) : ScAt buf 0 := by
  unfold ScAt
  rw [List.drop_zero]
  cases cutE buf <;> simp
theorem ScAt.miss {buf : List UInt8} {q : Nat} {c : UInt8} (h : ScAt buf q) (hc : buf[q]? = some c) (hm : c ≠ 13 ∨ (buf.drop (q + 1)).head? ≠ some 10) : ScAt buf (q + 1) := by
  unfold ScAt at *
  rw [h, drop_at hc, cutE_miss hm, take_succ_of hc]
  cases cutE (buf.drop (q + 1)) <;> simp
theorem ScAt.hit {buf : List UInt8} {q : Nat} (h : ScAt buf q) (hc : buf[q]? = some 13) (hd : buf[q + 1]? = some 10) : cutE buf = some (buf.take q, buf.drop (q + 2)) := by
  unfold ScAt at h
  rw [h, drop_at hc, drop_at hd, cutE_hit rfl rfl]
  simp
theorem ScAt.done {buf : List UInt8} {q : Nat} (h : ScAt buf q) (hq : buf.length ≤ q) : cutE buf = none := by
  unfold ScAt at h
  rw [h, List.drop_of_length_le hq]
  rfl
/-- what Run gives -/
def RunOut (b : List UInt8) (w : World) (e : Ending) (w' : World) : Prop := ∃ (t : Nat) (ts : List Tm) (a0 a1 a2 mv : Value), e = .returned (.pointer (some ⟨t, 0, none⟩)) ∧ Row w' t 33 [a0, a1, a2, .string (bs (feed ⟨0, [], []⟩ b).out), mv, .bool (decide ((feed ⟨0, [], []⟩ b).s.st = 5))] ∧
  OwnM w' w.heap.size 38 3 mv ts.length (pcs ts) ∧ TsOk w' w.heap.size [] ts ∧ ts.map (·.1) = (feed ⟨0, [], []⟩ b).ms
/-- so far it was run -/
def RunRel (b : List UInt8) (base t : Nat) (buf : List UInt8) (B : Option Addr) (wr : World) : Prop := ∃ (s : Ps) (out : List UInt8) (ts : List Tm) (tv mv u : Value) (cl : Bool), RG wr base t s out ts tv mv cl u buf B ∧ s.st < 4 ∧ s.tos.length ≤ 10 ∧
  (if cl then feed ⟨0, [], []⟩ b = ⟨out, ⟨5, [], []⟩, [], ts.map (·.1)⟩ else feed ⟨0, [], []⟩ b = (feed s buf).ahead out (ts.map (·.1))) ∧ out.length + 20 * buf.length ≤ 20 * b.length ∧ ts.length + buf.length ≤ b.length
theorem runOut_of {b buf : List UInt8} {t : Nat} {B : Option Addr} {w wr : World} {s : Ps} {out : List UInt8} {ts : List Tm} {tv mv u : Value} {cl : Bool} (h : RG wr w.heap.size t s out ts tv mv cl u buf B) (ho : (feed ⟨0, [], []⟩ b).out = out) (hm : (feed ⟨0, [], []⟩ b).ms = ts.map (·.1)) (hs : decide ((feed ⟨0, [], []⟩ b).s.st = 5) = cl) : RunOut b w (.returned (.pointer (some ⟨t, 0, none⟩))) wr := by
  refine ⟨t, ts, .int .i64 s.st, .string (bs s.frm), tv, mv, rfl, ?_, h.mo, fun x hx => ?_, hm.symm⟩
  · rw [ho, hs]
    exact h.row
  · obtain ⟨h1, h2, _⟩ := h.tso x hx
    exact ⟨h1, h2, fun k _ v hv => by simp at hv⟩
theorem cmd_five {s : Ps} {l : List UInt8} (h : s.st < 4) (h4 : (cmd s l).2.st = 5) : (cmd s l).2 = ⟨5, [], []⟩ := by
  unfold cmd cmd2 at h4 ⊢
  repeat' split at h4
  all_goals (first | (simp_all; done) | (exfalso; simp at h4; omega) | (simp_all; rw [if_neg (by omega)]; done))
end Go.Proofs.YtddjabjloplhiaaGreatDoor
