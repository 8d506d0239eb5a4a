/- The program's split: a row of lines, each with its end, each where it lies in the bytes. -/
import Derived.Test.YtcagkoakbdbbaaaGreatDoorJ08
import Derived.Test.YtcagkoakbdbbaaaGreatDoorJ10
import Derived.Test.YtcagkoakbdbbaaaGreatDoorJ07
namespace Go.Proofs.YtcagkoakbdbbaaaGreatDoor
set_option linter.unusedVariables false
set_option linter.unusedSimpArgs false
open Go.RowKit Go.Shelf

attribute [local go_sem] Oper.semAt_some

theorem lines_row (f Bs n c : Nat) (A : Option Addr) (b : List UInt8) (hn : b.length = n) (hnc : n ≤ c) (hb : n ≤ 1000000000) (w : World)
    (hA : Rb w A b) (hBs : Boxed w Bs 22 (.slice A n c)) :
    SeqRow Fence.wide f Tryz.prog 81 #[.pointer (some ⟨Bs, 0, none⟩)] (fun x => #[lnV A x]) (LnK Bs A b) (some Bs) (fun ys => lnEnd ys = b.length) (fun _ => True) (fun pre x => LnOk b (lnEnd pre) x) w :=
  fun l J Jx W hW hJ _ hY h0 => lines1_in f l Bs n c A b hn hnc hb J Jx hJ hY W (box_below hBs hW) (hA.below hW) h0

theorem keepsH {W W' : World} {base e size n : Nat} {v : Value} {xs : List Value} (hrow : W.ownsRow base e size v n xs) (hg : W.grownBy W' v.ownBlock) : KeepsOthers W W' :=
  KeepsOthers.of_grownBy hg fun j o ej hj => by
    rcases hrow.2 with ⟨rfl, _⟩ | ⟨g, cap, cur, rfl, _, hgb, _⟩
    · simp [Value.ownBlock] at ej
    · obtain rfl : g = j := by simpa [Value.ownBlock] using ej
      rw [hgb] at hj; cases hj; rfl
/-- the program's memory while the lines are taken -/
structure LsI (w : World) (A : Option Addr) (b : List UInt8) (W : World) (ov : Value) (ps : List (Nat × Nat)) : Prop where
  bO : Boxed W w.heap.size 47 ov
  ow : W.ownsRow (w.heap.size + 2) 22 1 ov ps.length (ps.map (lnV A))
  be : Below w.heap.size w W
  sz : w.heap.size + 2 ≤ W.heap.size
theorem own_ext {S : Nat → Prop} {W W' : World} {base e size n : Nat} {v : Value} {xs : List Value} (h : W.ownsRow base e size v n xs) (hx : Ext S W W') (hS : ∀ k cs t fr, base ≤ k → W.heap[k]? = some (.cells cs t fr) → ¬ S k) : W'.ownsRow base e size v n xs := by
  refine ⟨h.1, ?_⟩
  rcases h.2 with hn | ⟨g, cap, cur, hv, hb, hg, rest⟩
  · exact .inl hn
  · exact .inr ⟨g, cap, cur, hv, hb, (hx.block g (Array.getElem?_eq_some_iff.1 hg).1 (hS g _ _ _ hb hg)).trans hg, rest⟩
theorem LsI.next {w : World} {A : Option Addr} {b : List UInt8} {W W' : World} {ov : Value} {ps : List (Nat × Nat)} {S : Nat → Prop} (h : LsI w A b W ov ps) (hx : Ext S W W')
    (h1 : ¬ S w.heap.size) (h2 : ∀ k cs t fr, w.heap.size + 2 ≤ k → W.heap[k]? = some (.cells cs t fr) → ¬ S k) (h3 : ∀ k, S k → w.heap.size ≤ k) : LsI w A b W' ov ps :=
  ⟨box_ext2 h.bO hx h1, own_ext h.ow hx h2, hx.below h.be h.be.size h3, Nat.le_trans h.sz hx.size⟩
theorem LsI.putObj {w : World} {A : Option Addr} {b : List UInt8} {W : World} {ov : Value} {ps : List (Nat × Nat)} (h : LsI w A b W ov ps) {l : Nat} {o : Obj} (hl : w.heap.size + 2 ≤ l) (ho : W.heap[l]? = some o) (hc : o.isCells = false) (o' : Obj) : LsI w A b (W.putObj l o') ov ps :=
  h.next (ext_putObj W l o') (by omega) (fun k cs t fr _ hk => not_cells ho hc k cs t fr hk) (fun k e => by subst e; omega)
theorem LsI.box {w : World} {A : Option Addr} {b : List UInt8} {W W' : World} {ov : Value} {ps : List (Nat × Nat)} (h : LsI w A b W ov ps) (hg : W.grownBy W' (some (w.heap.size + 1))) : LsI w A b W' ov ps :=
  h.next (S := fun k => k = w.heap.size + 1) (Ext.of_grown hg fun k e => (Option.some.inj e).symm) (by omega) (fun k _ _ _ hk _ => by omega) (fun k e => by omega)

set_option maxRecDepth 100000 in
set_option maxHeartbeats 2000000 in
theorem lsplit_in (f : Nat) (hf : 5 ≤ f) (A : Option Addr) (b : List UInt8) (n c : Nat) (w : World) (hn : b.length = n) (hA : Rb w A b) (hnc : n ≤ c) (hb : n ≤ 1000000000) :
    CallsIn Fence.wide f Tryz.prog 30 #[.slice A n c] w fun e w' => (∃ v ps, e = .returned v ∧ LnRow b ps ∧ lnEnd ps = b.length ∧ w'.ownsRow (w.heap.size + 2) 22 1 v ps.length (ps.map (lnV A))) ∧ Below w.heap.size w w' := by
  have HN := Lib.hid hn
  clear hn
  refine callsIn_of_wp_marks Tryz.func30 rfl trivial ?_ rfl
  simp only [Tryz.ntmps30, List.size_toArray, List.length_cons, List.length_nil, Nat.reduceAdd, Nat.reduceSub, Array.replicate_succ, Array.replicate_zero, List.push_toArray, List.append_toArray, List.nil_append, List.cons_append]
  gi_wp2
  refine ⟨trivial, fun h => by simp [Fence.wide] at h, ?_⟩
  refine (lines_in (f - 1) _ _ _ _).mono ?_
  rintro e w2 ⟨rfl, rfl⟩
  gi_wp2
  have k1 := (Boxed.new w 47 (.slice none 0 0)).alloc (.cells #[.slice A n c] 22)
  have k2 := Boxed.new (w.alloc (.cells #[.slice none 0 0] 47)) 22 (.slice A n c)
  rw [World.size_alloc] at k2
  have hB0 : Below w.heap.size w ((w.alloc (.cells #[.slice none 0 0] 47)).alloc (.cells #[.slice A n c] 22)) := ((Below.refl _ w).alloc (Nat.le_refl _) _).alloc (by simp) _
  obtain ⟨W0, hW0⟩ : ∃ W0, (w.alloc (.cells #[.slice none 0 0] 47)).alloc (.cells #[.slice A n c] 22) = W0 := ⟨_, rfl⟩
  have hsz : W0.heap.size = w.heap.size + 2 := by rw [← hW0]; simp
  rw [hW0] at k1 k2 hB0
  have hI0 : LsI w A b W0 (.slice none 0 0) [] := ⟨k1, World.ownsRow_nil _ _ _ _, hB0, by omega⟩
  rw [hW0]
  clear hW0
  have hA0 : Rb W0 A b := hA.below hB0
  refine wpIn_rangeFunc_row (α := Nat × Nat) rfl (by omega) (gf := 81) (lb := #[.pointer (some ⟨w.heap.size + 1, 0, none⟩)]) rfl trivial (enters_of Tryz.func81 (by kernel_rfl) rfl)
    (lines_row (f - 1) (w.heap.size + 1) n c A b HN.out hnc hb W0 hA0 k2) (fun r h => by cases h; omega) (fun h k => h.trans k) ?kb (Below.refl _ _) (fun _ => rfl)
    (fun pre W => ∃ ov, LsI w A b W ov pre ∧ Hid (LnRow b pre))
    (fun _ _ _ => False)
    ?hi (fun _ _ _ _ h _ => h) ?hit (fun _ _ _ _ _ _ h _ _ _ => h) ⟨_, hI0, Lib.hid (LnRow.nil b)⟩
    (fun x a' W => a' = { tmps := #[.slice A n c, undef, .pointer (some ⟨w.heap.size, 0, none⟩), lnV A x, .slice A n c, .func (.func 81) #[] #[.pointer (some ⟨w.heap.size + 1, 0, none⟩)], lnV A x, undef, undef, undef, undef, undef], defers := [] })
    ?hax ?assign ?body ?done ?stop
  case kb =>
    intro W l o o' hl ho hc
    exact ⟨World.putObj_heap_other (by omega), fun h => h.ext (ext_putObj W l o') (not_cells ho hc)⟩
  case hi =>
    rintro s X Y ⟨ov, h, hs⟩ hg
    exact ⟨ov, h.box hg, hs⟩
  case hit =>
    rintro s W l o o' ⟨ov, h, hs⟩ hl ho hc
    exact ⟨ov, h.putObj (by omega) ho hc o', hs⟩
  case hax =>
    rintro x a' ⟨⟩ W l o o' h hl ho hc
    exact h
  case assign =>
    rintro l pre x W K hI hpr hK
    simp only [lnV]
    gi_wp2
    exact hK _ _ ((KeepsOthers.refl W).from _) ⟨rfl, fun h => h⟩ hI rfl
  case body =>
    rintro l pre x a' W hl ⟨ov, h, hs⟩ rfl hpr
    have hlen := hs.out
    have hk1 : pre.length ≤ n := by
      have := hlen.1
      have := hlen.2.2.2
      have := HN.out
      omega
    have HS := Lib.hid (hlen.snoc hpr)
    clear hlen
    obtain ⟨Ao, co, hov, hnco, _, _, _⟩ := own_form h.ow
    subst hov
    have hsz2 := h.sz
    have hx1 : x.1 = lnEnd pre := hpr.1
    obtain ⟨A2, m2, hx2⟩ : ∃ A2 m2, lnV A x = .slice A2 m2 m2 := ⟨_, _, rfl⟩
    rw [hx2]
    have hbO1 := h.bO.alloc (.cells #[.slice A2 m2 m2] 22)
    have hc0 := h.bO.cell
    have hO := h.ow.alloc (.cells #[.slice A2 m2 m2] 22)
    gi_wp2_with (gi_at_builtin; refine wpListIn_app rfl _ _ _ _ rfl TBs hO rfl (Src_rv (news := [.slice A2 m2 m2]) Tryz.underlying47 rfl (Rv_new W _ _ _ rfl) (by simp [Value.oneCell']) (by omega)) rfl (by omega) (by simp; omega) ?_; intro v3 w3 hown3 hgr3 hat3; obtain ⟨A3, c3, hv3, hn3, _, _, _⟩ := own_form hown3; subst hv3; have hbO3 := hbO1.kept hgr3 (fun e => by have := hO.lt _ e.symm; omega); have hc3 := hbO3.cell; have hf3 := hbO3.frozen)
    have hx0 : Ext (fun k => k = w.heap.size ∨ nb (.slice Ao pre.length co) k) W (w3.setCell ⟨w.heap.size, 0, none⟩ (.slice A3 (pre.length + 1) c3)) :=
      (((Ext.refl _ W).alloc _).trans (Ext.of_grown hgr3 fun k hk => .inr hk) fun _ hb => .inl hb).set ⟨w.heap.size, 0, none⟩ _ (.inl rfl)
    have hbe : Below w.heap.size w (w3.setCell ⟨w.heap.size, 0, none⟩ (.slice A3 (pre.length + 1) c3)) := hx0.below h.be h.be.size (by
      rintro k (rfl | hk)
      · exact Nat.le_refl _
      · have := h.ow.lt _ hk
        omega)
    refine ⟨(((KeepsOthers.alloc W _).trans (keepsH hO hgr3)).trans (KeepsOthers.setCell _ _ _)).from _, ⟨hx0.block _ (by omega) ?_, fun _ => hA.below hbe⟩, _, ⟨hbO3.set _, ?_, hbe, Nat.le_trans h.sz hx0.size⟩, HS⟩
    · rintro (hk | hk)
      · omega
      · have := h.ow.lt _ hk
        omega
    · have h9 := ownsRow_setCell_below hown3 (a := ⟨w.heap.size, 0, none⟩) (by simp) (.slice A3 (pre.length + 1) c3)
      rw [List.length_append, List.map_append]
      simpa [hx2] using h9
  case done =>
    rintro D ys W hD hS ⟨ov, h, hs⟩ hK
    obtain ⟨Ao, co, hov, hnco, _, _, _⟩ := own_form h.ow
    subst hov
    have hc0 := h.bO.cell
    have hf0 := h.bO.frozen
    have hv2 := h.bO.set (.slice Ao ys.length co)
    have hrow2 := ownsRow_setCell_below h.ow (a := ⟨w.heap.size, 0, none⟩) (by simp) (.slice Ao ys.length co)
    have hK2 := (KeepsOthers.setCell W ⟨w.heap.size, 0, none⟩ (.slice Ao ys.length co)).same D _ hK rfl
    have hbe := h.be.setCell (p := ⟨w.heap.size, 0, none⟩) (by simp) (.slice Ao ys.length co)
    gi_wp2
    obtain ⟨W9, hW9⟩ : ∃ W9, W.setCell ⟨w.heap.size, 0, none⟩ (.slice Ao ys.length co) = W9 := ⟨_, rfl⟩
    rw [hW9] at hv2 hrow2 hK2 hbe ⊢
    have hx9 := ext_putObj W9 D (.deferred none)
    have g2 := (box_ext hv2 hx9 (not_cells hK2 rfl)).cell
    refine ⟨by simp, .inl ⟨_, _, rfl, run_takeDeferred hK2, ?_⟩⟩
    refine ⟨.slice Ao ys.length co, by simp [results, Tryz.f30, go_sem, g2], ⟨_, ys, rfl, hs.out, hS, own_ext hrow2 hx9 (fun k cs t fr _ hk => not_cells hK2 rfl k cs t fr hk)⟩, hx9.below hbe hbe.size (fun k e => by subst e; omega)⟩
  case stop =>
    rintro D c pre W _ _ h _
    exact h.elim
end Go.Proofs.YtcagkoakbdbbaaaGreatDoor
