/- (*strings.Replacer).build at the four texts. -/
import Derived.Test.YtnmkapaphbaomaaGreatDoorW1
import Derived.Deep.WholeRow
import Derived.Lib.SliceRun
namespace Go.Proofs.YtnmkapaphbaomaaGreatDoor
set_option linter.unusedVariables false
set_option linter.unusedSimpArgs false
open Go.RowKit

theorem grown_set (w : World) (a : Addr) (v : Value) : w.grownBy (w.setCell a v) (some a.block) :=
  ⟨rfl, rfl, rfl, by simp, fun j _ hne => Below.heap_setCell w a v j (fun e => hne (by rw [e]))⟩
theorem own_sc {w : World} {b e size n g : Nat} {v : Value} {xs : List Value} (h : w.ownsRow b e size v n xs) (hne : v.ownBlock ≠ some g) (j : Nat) (x : Value) : (w.setCell ⟨g, j, none⟩ x).ownsRow b e size v n xs := h.kept (grown_set w ⟨g, j, none⟩ x) (.inr hne)
theorem rb_sc {w : World} {x g : Nat} {l : List UInt8} (h : Rb w (some ⟨x, 0, none⟩) l) (hne : x ≠ g) (j : Nat) (v : Value) : Rb (w.setCell ⟨g, j, none⟩ v) (some ⟨x, 0, none⟩) l := fun hp => by
  obtain ⟨b, o, e, hc⟩ := h hp
  cases e
  exact ⟨x, 0, rfl, fun i u hi => (World.cell?_setCell_other _ _ _ _ (by intro e; exact hne (congrArg Addr.block e).symm)).trans (hc i u hi)⟩
theorem rb_grown {w w' : World} {x : Nat} {l : List UInt8} {row : Option Nat} (h : Rb w (some ⟨x, 0, none⟩) l) (hg : w.grownBy w' row) (hx : x < w.heap.size) (hne : some x ≠ row) : Rb w' (some ⟨x, 0, none⟩) l := fun hp => by
  obtain ⟨b, o, e, hc⟩ := h hp
  cases e
  exact ⟨x, 0, rfl, fun i u hi => (World.cell?_of_block (w := w) (hg.block x hx hne)).trans (hc i u hi)⟩
theorem row_grown {w w' : World} {g e : Nat} {cs : List Value} {row : Option Nat} (h : Row w g e cs) (hg : w.grownBy w' row) (hne : some g ≠ row) : Row w' g e cs := h.block (hg.block g h.lt hne)
/-- the table: what stands for " and for \ -/
def TabIs (L : List Value) (a b : Value) : Prop := L.length = 256 ∧ L[34]? = some a ∧ L[92]? = some b ∧ ∀ j, j < 256 → j ≠ 34 → j ≠ 92 → L[j]? = some (.slice none 0 0)
theorem TabIs.rep : TabIs (List.replicate 256 (Value.slice none 0 0)) (.slice none 0 0) (.slice none 0 0) :=
  ⟨List.length_replicate, by rw [List.getElem?_replicate, if_pos (by omega)], by rw [List.getElem?_replicate, if_pos (by omega)], fun j hj _ _ => by rw [List.getElem?_replicate, if_pos hj]⟩
theorem TabIs.set34 {L : List Value} {a b : Value} (h : TabIs L a b) (x : Value) : TabIs (L.set 34 x) x b := by
  obtain ⟨h1, h2, h3, h4⟩ := h
  refine ⟨by rw [List.length_set]; exact h1, ?_, ?_, fun j hj n1 n2 => ?_⟩
  · rw [List.getElem?_set_self (by omega)]
  · rw [List.getElem?_set_ne (by omega)]
    exact h3
  · rw [List.getElem?_set_ne (Ne.symm n1)]
    exact h4 j hj n1 n2
theorem TabIs.set92 {L : List Value} {a b : Value} (h : TabIs L a b) (x : Value) : TabIs (L.set 92 x) a x := by
  obtain ⟨h1, h2, h3, h4⟩ := h
  refine ⟨by rw [List.length_set]; exact h1, ?_, ?_, fun j hj n1 n2 => ?_⟩
  · rw [List.getElem?_set_ne (by omega)]
    exact h2
  · rw [List.getElem?_set_self (by omega)]
  · rw [List.getElem?_set_ne (Ne.symm n2)]
    exact h4 j hj n1 n2
theorem app_at {L : List Value} {v u : Value} {j : Nat} (hL : L.length = 256) (h : L[j]? = some u) : (L ++ [v])[j]? = some u := by
  rw [List.getElem?_append_left (lt_of_get h)]
  exact h
theorem app_last {L : List Value} {v : Value} (hL : L.length = 256) : (L ++ [v])[256]? = some v := by
  rw [List.getElem?_append_right (by omega), hL]
  rfl
theorem set_last {L : List Value} {v u : Value} (hL : L.length = 256) : (L ++ [v]).set 256 u = L ++ [u] := by
  rw [List.set_append_right _ _ (by omega), hL]
  rfl
theorem set_in {L : List Value} {v u : Value} {j : Nat} (hL : L.length = 256) (hj : j < 256) : (L ++ [v]).set j u = L.set j u ++ [v] := by
  rw [List.set_append_left _ _ (by omega)]
/-- the table, as it is laid -/
def RepSt (N : Nat) (i : Value) (w : World) : Prop := ∃ (L : List Value) (A : Option Addr) (k c : Nat) (d : List (List UInt8)) (a b : Value), TabIs L a b ∧ Row w (N + 1) 126 (L ++ [.slice A k c]) ∧ w.ownsRow N 9 1 (.slice A k c) k (d.map sv) ∧ (Value.slice A k c).ownBlock ≠ some (N + 1) ∧
  ((i = .int .i64 2 ∧ k = 0 ∧ d = [] ∧ a = .slice none 0 0 ∧ b = .slice none 0 0) ∨
   (i = .int .i64 0 ∧ k = 1 ∧ d = [[34]] ∧ b = .slice none 0 0 ∧ ∃ x c1, a = .slice (some ⟨x, 0, none⟩) 2 c1 ∧ Rb w (some ⟨x, 0, none⟩) [92, 34] ∧ N + 1 < x ∧ (Value.slice A k c).ownBlock ≠ some x ∧ x < w.heap.size) ∨
   (i = .int .i64 (-2) ∧ k = 2 ∧ d = [[34], [92]] ∧ ∃ x c1 y c2, a = .slice (some ⟨x, 0, none⟩) 2 c1 ∧ b = .slice (some ⟨y, 0, none⟩) 2 c2 ∧ Rb w (some ⟨x, 0, none⟩) [92, 34] ∧ Rb w (some ⟨y, 0, none⟩) [92, 92] ∧ N + 1 < x ∧ N + 1 < y))
/-- a table of replacements, and the texts to be replaced -/
def Built (N : Nat) (w : World) (b : Nat) : Prop := ∃ L x c1 y c2 z c3, TabIs L (.slice (some ⟨x, 0, none⟩) 2 c1) (.slice (some ⟨y, 0, none⟩) 2 c2) ∧ Row w b 126 (L ++ [.slice (some ⟨z, 0, none⟩) 2 c3]) ∧
  Rb w (some ⟨x, 0, none⟩) [92, 34] ∧ Rb w (some ⟨y, 0, none⟩) [92, 92] ∧ Rv w (some ⟨z, 0, none⟩) [sv [34], sv [92]] ∧ N ≤ b ∧ N ≤ x ∧ N ≤ y ∧ N ≤ z
theorem Rv.farN {w : World} {z g : Nat} {xs : List Value} (h : Rv w (some ⟨z, 0, none⟩) xs) (hne : z ≠ g) (j : Nat) (v : Value) : Rv (w.setCell ⟨g, j, none⟩ v) (some ⟨z, 0, none⟩) xs := fun hp => by
  obtain ⟨b, o, e, hc⟩ := h hp
  cases e
  exact ⟨z, 0, rfl, fun i u hi => (World.cell?_setCell_other _ _ _ _ (by intro e; exact hne (congrArg Addr.block e).symm)).trans (hc i u hi)⟩
theorem Built.far {N b g : Nat} {w : World} (h : Built N w b) (hg : g < N) (j : Nat) (v : Value) : Built N (w.setCell ⟨g, j, none⟩ v) b := by
  obtain ⟨L, x, c1, y, c2, z, c3, ht, hr, hx, hy, hz, b1, b2, b3, b4⟩ := h
  exact ⟨L, x, c1, y, c2, z, c3, ht, hr.far (show g ≠ b by omega) v, rb_sc hx (by omega) j v, rb_sc hy (by omega) j v, Rv.farN hz (by omega) j v, b1, b2, b3, b4⟩
theorem Built.below {N b : Nat} {w w' : World} (h : Built N w b) (hb : Below w.heap.size w w') : Built N w' b := by
  obtain ⟨L, x, c1, y, c2, z, c3, ht, hr, hx, hy, hz, r⟩ := h
  exact ⟨L, x, c1, y, c2, z, c3, ht, hr.below hb, Rb.below hx hb, Rb.below hy hb, Rv.below hz hb, r⟩
theorem Built.lt {N b : Nat} {w : World} (h : Built N w b) : b < w.heap.size := by
  obtain ⟨L, x, c1, y, c2, z, c3, ht, hr, _⟩ := h
  exact hr.lt
set_option maxRecDepth 100000 in
set_option maxHeartbeats 4000000 in
theorem build_any (R : Nat) (A : Option Addr) (c : Nat) (w : World) (hR : Row w R 88 [.int .u32 0, .int .i32 1, .int .u32 0, .nilIface, .slice A 4 c]) (hA : Rv w A (rep4.map sv)) (hc4 : 4 ≤ c) :
    Calls Tryz.prog 72 #[.pointer (some ⟨R, 0, none⟩)] w fun e w' => (∃ b, e = .returned (.iface 127 (.pointer (some ⟨b, 0, none⟩))) ∧ Built w.heap.size w' b) ∧ Below w.heap.size w w' := by
  have k4 := hR.cell (j := 4) rfl
  obtain ⟨b, o, rfl, hcl⟩ := hA (by simp [rep4])
  have c0 : w.cell? ⟨b, o, none⟩ = some (.string ⟨#[92]⟩) := hcl 0 _ rfl
  have c1 : w.cell? ⟨b, o + 1, none⟩ = some (.string ⟨#[92, 92]⟩) := hcl 1 _ rfl
  have c2 : w.cell? ⟨b, o + 2, none⟩ = some (.string ⟨#[34]⟩) := hcl 2 _ rfl
  have c3 : w.cell? ⟨b, o + 3, none⟩ = some (.string ⟨#[92, 34]⟩) := hcl 3 _ rfl
  clear hcl hA
  go_enter Tryz.func72, Tryz.ntmps72
  go_wp2_with fail
  go_loopw [4, 5] (fun s4 i wr => ((s4 = .bool true ∧ i = .int .i64 0) ∨ (s4 = .bool false ∧ i = .int .i64 2) ∨ (s4 = .bool false ∧ i = .int .i64 4)) ∧ wr = w) (fun _ i _ => 4 - (intOf i).toNat)
  case atStart => exact ⟨.inl ⟨rfl, rfl⟩, rfl⟩
  case round =>
    obtain ⟨⟨rfl, rfl⟩ | ⟨rfl, rfl⟩ | ⟨rfl, rfl⟩, rfl⟩ := hrel
    · go_wp2_with fail
      go_roundw
      case rel => exact ⟨.inr (.inl ⟨rfl, rfl⟩), by first | rfl | trivial⟩
      case measure => simp [intOf]
    · go_wp2_with fail
      go_roundw
      case rel => exact ⟨.inr (.inr ⟨rfl, rfl⟩), by first | rfl | trivial⟩
      case measure => simp [intOf]
    · obtain ⟨w0, rfl⟩ : ∃ w0 : World, w0 = wr := ⟨_, rfl⟩
      obtain ⟨X, hX, hmk⟩ := make0 (P := Tryz.prog) (t := 37) (e := 9) (size := 1) (bytes := 16) Tryz.underlying37 (info_parts infoStr).choose_spec.1 (info_parts infoStr).choose_spec.2.1 (info_parts infoStr).choose_spec.2.2.1 (info_parts infoStr).choose_spec.2.2.2 rfl .i64 .i64 2 2 rfl (by omega) (by omega)
      have hZl : Tryz.zeroCells126.toList = List.replicate 256 (Value.slice none 0 0) ++ [.slice none 0 0] := by kernel_rfl
      have hZs : Tryz.zeroCells126.size = 257 := by kernel_rfl
      obtain ⟨N, hN⟩ : ∃ N, w0.heap.size = N := ⟨_, rfl⟩
      have hset : (Tryz.zeroCells126.setIfInBounds 256 (.slice (some ⟨N, 0, none⟩) 0 2)).toList = List.replicate 256 (Value.slice none 0 0) ++ [.slice (some ⟨N, 0, none⟩) 0 2] := by
        rw [Array.toList_setIfInBounds, hZl]
        rfl
      have hsc : (storeCells ⟨N + 1, 0, none⟩ (Tryz.zeroCells126.toList.set 256 (.slice (some ⟨N, 0, none⟩) 0 2)) 0).run Tryz.prog ((w0.alloc (.cells X 9)).alloc (.cells Tryz.zeroCells126 126)) = .ok () ((w0.alloc (.cells X 9)).alloc (.cells (Tryz.zeroCells126.setIfInBounds 256 (.slice (some ⟨N, 0, none⟩) 0 2)) 126)) := by
        have h := Go.run_storeCells_new (P := Tryz.prog) (w0.alloc (.cells X 9)) 126 Tryz.zeroCells126 (Tryz.zeroCells126.setIfInBounds 256 (.slice (some ⟨N, 0, none⟩) 0 2)) (by rw [Array.size_setIfInBounds, hZs]; kernel_rfl) (by rw [Array.size_setIfInBounds]) (by rw [← Array.all_toList, hset]; rfl)
        rw [show (w0.alloc (.cells X 9)).heap.size = N + 1 by simp [hN], Array.toList_setIfInBounds] at h
        exact h
      have hown0 := World.ownsRow_made (base := N) (e := 9) (size := 1) w0 X 2 (by omega) (by unfold maxLen; omega) hX
      have hrow0 := Row.new (w0.alloc (.cells X 9)) (Tryz.zeroCells126.setIfInBounds 256 (.slice (some ⟨N, 0, none⟩) 0 2)) 126
      rw [hset, show (w0.alloc (.cells X 9)).heap.size = N + 1 by simp [hN]] at hrow0
      have hB0 : Below N w0 ((w0.alloc (.cells X 9)).alloc (.cells (Tryz.zeroCells126.setIfInBounds 256 (.slice (some ⟨N, 0, none⟩) 0 2)) 126)) := ((Below.refl N w0).alloc (by omega) _).alloc (by simp; omega) _
      have hown1 := hown0.alloc (.cells (Tryz.zeroCells126.setIfInBounds 256 (.slice (some ⟨N, 0, none⟩) 0 2)) 126)
      clear hown0 hset hZs hZl hX
      go_wp2_with fail
      generalize (w0.alloc (.cells X 9)).alloc (.cells (Tryz.zeroCells126.setIfInBounds 256 (.slice (some ⟨N, 0, none⟩) 0 2)) 126) = w1 at *
      -- LOOP4
      have hst0 : RepSt N (.int .i64 2) w1 := ⟨_, _, 0, 2, [], _, _, TabIs.rep, hrow0, by first | exact hown1 | (rw [hN] at hown1; exact hown1), by simp [Value.ownBlock], .inl ⟨rfl, rfl, rfl, rfl, rfl⟩⟩
      have hbN : ∀ (q j : Nat) (v : Value), w0.cell? ⟨q, j, none⟩ = some v → q < N := fun q j v h => by rw [← hN]; exact cell_lt h
      have hb0 := hbN _ _ _ c0
      have HST0 := Lib.hid hst0
      have HHN := Lib.hid hN
      clear hst0 hrow0 hown1 hsc hmk hR k4 hbN hN
      go_loopw [12] (fun i wq => Hid (RepSt N i wq) ∧ Below N w0 wq) (fun i _ => (intOf i + 2).toNat)
      case atStart => exact ⟨HST0, hB0⟩
      case round =>
        clear HST0 hB0
        obtain ⟨hst, hBq⟩ := hrel
        have hNq : N ≤ wr.heap.size := by have := hBq.size; rw [← HHN.out]; exact this
        have d0 := (hBq.cell (p := ⟨b, o, none⟩) hb0).trans c0
        have d1 := (hBq.cell (p := ⟨b, o + 1, none⟩) hb0).trans c1
        have d2 := (hBq.cell (p := ⟨b, o + 2, none⟩) hb0).trans c2
        have d3 := (hBq.cell (p := ⟨b, o + 3, none⟩) hb0).trans c3
        obtain ⟨L, A3, k, cc3, d, a, bb, htab, hrow, hown, hne, hcase⟩ := hst.out
        clear hst
        have hL := htab.1
        have hNs : N + 1 < wr.heap.size := hrow.lt
        rcases hcase with ⟨rfl, rfl, rfl, rfl, rfl⟩ | ⟨rfl, rfl, rfl, rfl, x, c1', rfl, hx1, hx2, hx3, hx4⟩ | ⟨rfl, rfl, rfl, x, c1', y, c2', rfl, rfl, hx1, hy1, hx2, hy2⟩
        · have hix : ∀ W, (Instr.index 9 (.string ⟨#[34]⟩) (.int .i64 0)).run Tryz.prog W = .ok (.int .u8 34) W := fun W => str_index (P := Tryz.prog) Tryz.underlying9 (l := [34]) (k := 0) (x := 34) rfl .i64 W
          have hnil : ∀ W, (binOp .eql 58 (.slice none 0 0) (.slice none 0 0)).run Tryz.prog W = .ok (.bool true) W := fun W => Lib.run_eql_slice_nil W _ _ none 0 0 0 0 Tryz.underlying58
          have hL2 := Lib.hid htab
          have kq : wr.cell? ⟨N + 1, 34, none⟩ = some (.slice none 0 0) := hrow.cell (app_at hL htab.2.1)
          have kt : wr.cell? ⟨N + 1, 256, none⟩ = some (.slice A3 0 cc3) := hrow.cell (app_last hL)
          have hBa : Below N w0 ((wr.alloc (.cells #[.int .u8 34] 5)).alloc (.cells #[sv [34]] 9)) := (hBq.alloc hNq _).alloc (by simp; omega) _
          have hrA := (hrow.alloc (.cells #[.int .u8 34] 5)).alloc (.cells #[sv [34]] 9)
          have hoA := (hown.alloc (.cells #[.int .u8 34] 5)).alloc (.cells #[sv [34]] 9)
          have kt2 : ((wr.alloc (.cells #[.int .u8 34] 5)).alloc (.cells #[sv [34]] 9)).cell? ⟨N + 1, 256, none⟩ = some (.slice A3 0 cc3) := hrA.cell (app_last hL)
          have hrb0 : Rb (wr.alloc (.cells #[.int .u8 34] 5)) (some ⟨wr.heap.size, 0, none⟩) [34] := Rb_new wr [34] 5 _ rfl 1
          have hcv0 := conv_str (P := Tryz.prog) (src := 58) (dst := 9) (c := 1) (n := 1) Tryz.underlying58 Tryz.underlying5 Tryz.underlying9 hrb0 rfl
          have hRvN : Rv ((wr.alloc (.cells #[.int .u8 34] 5)).alloc (.cells #[sv [34]] 9)) (some ⟨wr.heap.size + 1, 0, none⟩) [sv [34]] := by
            have h := Rv_new (wr.alloc (.cells #[.int .u8 34] 5)) #[sv [34]] [sv [34]] 9 rfl
            rwa [show (wr.alloc (.cells #[.int .u8 34] 5)).heap.size = wr.heap.size + 1 by simp] at h
          have HRVN := Lib.hid hRvN
          have HBA := Lib.hid hBa
          have HRA := Lib.hid hrA
          clear hBa hrA htab hL hRvN
          go_upto_region 34 with (first | (at_builtin; refine wpList_app rfl (.tmp 119) (.tmp 123) _ _ rfl TStr hoA rfl (Src_rv (news := [sv [34]]) Tryz.underlying37 rfl HRVN.out (by simp [Value.oneCell', sv]) (by omega)) rfl (by omega) (by simp; omega) ?_; intro v2 w2 hown2 hgr2 hat2; have hB2 := below_app HBA.out hoA hgr2 (by simp; omega) (Nat.le_refl _); have hr2 := row_grown HRA.out hgr2 (fun e => hne e.symm); have kt3 := hr2.cell (app_last hL2.out.1); have kf3 := hr2.frozen 256; have hown3 := hown2; obtain ⟨A4, cc4, rfl, _, _, _, _⟩ := own_form hown2))
          have hne4 : (Value.slice A4 1 cc4).ownBlock ≠ some (N + 1) := by
            rcases hat2 with h | h
            · rw [h]; exact hne
            · rw [h]
              intro e
              have e1 := Option.some.inj e
              simp at e1
              omega
          have hzs : (w2.setCell ⟨N + 1, 256, none⟩ (.slice A4 1 cc4)).heap.size = w2.heap.size := by simp
          have hoz := own_sc hown3 hne4 256 (.slice A4 1 cc4)
          have hrz := hr2.set 256 (.slice A4 1 cc4)
          rw [set_last hL2.out.1] at hrz
          have hBz := hB2.setCell (p := ⟨N + 1, 256, none⟩) (show N ≤ N + 1 by omega) (.slice A4 1 cc4)
          obtain ⟨cc, Wc, hcv, hownc, hBc, hszc⟩ := conv_bs (P := Tryz.prog) (src := 9) (dst := 58) Tryz.underlying9 Tryz.underlying58 Tryz.underlying5 (w2.setCell ⟨N + 1, 256, none⟩ (.slice A4 1 cc4)) [92, 34] (by decide)
          have hcv2 : (convert 9 58 (.string ⟨#[92, 34]⟩)).run Tryz.prog (w2.setCell ⟨N + 1, 256, none⟩ (.slice A4 1 cc4)) = .ok (.slice (some ⟨w2.heap.size, 0, none⟩) 2 cc) Wc := by rw [hzs] at hcv; exact hcv
          obtain ⟨_, _, hAe, _, _, hRbc, _⟩ := hownc.form
          cases hAe
          rw [hzs] at hRbc hszc
          have hrc := hrz.below hBc
          have hoc := own_below hoz hBc
          have kqc := hrc.cell (app_at (v := .slice A4 1 cc4) hL2.out.1 hL2.out.2.1)
          have kfc := hrc.frozen 34
          have hBw : Below N w0 Wc := hBz.trans (hBc.mono (by rw [hzs]; have := hB2.size; have := HHN.out; omega))
          have hs2 : N + 1 < w2.heap.size := hr2.lt
          have hlt4 := hown3.lt
          have hrf := hrc.set 34 (.slice (some ⟨w2.heap.size, 0, none⟩) 2 cc)
          rw [set_in hL2.out.1 (by omega)] at hrf
          have hof := own_sc hoc hne4 34 (.slice (some ⟨w2.heap.size, 0, none⟩) 2 cc)
          have hBf := hBw.setCell (p := ⟨N + 1, 34, none⟩) (show N ≤ N + 1 by omega) (.slice (some ⟨w2.heap.size, 0, none⟩) 2 cc)
          have hRf := rb_sc (l := [92, 34]) hRbc (show w2.heap.size ≠ N + 1 by omega) 34 (.slice (some ⟨w2.heap.size, 0, none⟩) 2 cc)
          have htf := hL2.out.set34 (.slice (some ⟨w2.heap.size, 0, none⟩) 2 cc)
          have hn4 : (Value.slice A4 1 cc4).ownBlock ≠ some w2.heap.size := fun e => by have := (hlt4 _ e).2; omega
          have hsz4 : w2.heap.size < (Wc.setCell ⟨N + 1, 34, none⟩ (.slice (some ⟨w2.heap.size, 0, none⟩) 2 cc)).heap.size := by simp; omega
          have HF := Lib.hid (show RepSt N (.int .i64 0) (Wc.setCell ⟨N + 1, 34, none⟩ (.slice (some ⟨w2.heap.size, 0, none⟩) 2 cc)) from ⟨_, _, 1, _, [[34]], _, _, htf, hrf, hof, hne4, .inr (.inl ⟨rfl, rfl, rfl, rfl, _, _, rfl, hRf, by omega, hn4, hsz4⟩)⟩)
          have HBF := Lib.hid hBf
          clear hoz hrz hBz hownc hRbc hszc hrc hoc hBw hrf hof hBf hRf htf hn4 hsz4 hown2 hown3 hr2 hB2 hgr2 hat2 hcv hBc hne4 hlt4 
          go_wp2_with fail
          go_roundw
          case rel => exact ⟨by first | exact HF | (simpa using HF), HBF.out⟩
          case measure => simp [intOf]
        · have hix : ∀ W, (Instr.index 9 (.string ⟨#[92]⟩) (.int .i64 0)).run Tryz.prog W = .ok (.int .u8 92) W := fun W => str_index (P := Tryz.prog) Tryz.underlying9 (l := [92]) (k := 0) (x := 92) rfl .i64 W
          have hnil : ∀ W, (binOp .eql 58 (.slice none 0 0) (.slice none 0 0)).run Tryz.prog W = .ok (.bool true) W := fun W => Lib.run_eql_slice_nil W _ _ none 0 0 0 0 Tryz.underlying58
          have hL2 := Lib.hid htab
          have kq : wr.cell? ⟨N + 1, 92, none⟩ = some (.slice none 0 0) := hrow.cell (app_at hL htab.2.2.1)
          have kt : wr.cell? ⟨N + 1, 256, none⟩ = some (.slice A3 1 cc3) := hrow.cell (app_last hL)
          have hBa : Below N w0 ((wr.alloc (.cells #[.int .u8 92] 5)).alloc (.cells #[sv [92]] 9)) := (hBq.alloc hNq _).alloc (by simp; omega) _
          have hrA := (hrow.alloc (.cells #[.int .u8 92] 5)).alloc (.cells #[sv [92]] 9)
          have hoA := (hown.alloc (.cells #[.int .u8 92] 5)).alloc (.cells #[sv [92]] 9)
          have kt2 : ((wr.alloc (.cells #[.int .u8 92] 5)).alloc (.cells #[sv [92]] 9)).cell? ⟨N + 1, 256, none⟩ = some (.slice A3 1 cc3) := hrA.cell (app_last hL)
          have hrb0 : Rb (wr.alloc (.cells #[.int .u8 92] 5)) (some ⟨wr.heap.size, 0, none⟩) [92] := Rb_new wr [92] 5 _ rfl 1
          have hcv0 := conv_str (P := Tryz.prog) (src := 58) (dst := 9) (c := 1) (n := 1) Tryz.underlying58 Tryz.underlying5 Tryz.underlying9 hrb0 rfl
          have hRvN : Rv ((wr.alloc (.cells #[.int .u8 92] 5)).alloc (.cells #[sv [92]] 9)) (some ⟨wr.heap.size + 1, 0, none⟩) [sv [92]] := by
            have h := Rv_new (wr.alloc (.cells #[.int .u8 92] 5)) #[sv [92]] [sv [92]] 9 rfl
            rwa [show (wr.alloc (.cells #[.int .u8 92] 5)).heap.size = wr.heap.size + 1 by simp] at h
          have HRVN := Lib.hid hRvN
          have HBA := Lib.hid hBa
          have HRA := Lib.hid hrA
          clear hBa hrA htab hL hRvN
          go_upto_region 34 with (first | (at_builtin; refine wpList_app rfl (.tmp 119) (.tmp 123) _ _ rfl TStr hoA rfl (Src_rv (news := [sv [92]]) Tryz.underlying37 rfl HRVN.out (by simp [Value.oneCell', sv]) (by omega)) rfl (by omega) (by simp; omega) ?_; intro v2 w2 hown2 hgr2 hat2; have hB2 := below_app HBA.out hoA hgr2 (by simp; omega) (Nat.le_refl _); have hr2 := row_grown HRA.out hgr2 (fun e => hne e.symm); have kt3 := hr2.cell (app_last hL2.out.1); have kf3 := hr2.frozen 256; have hown3 := hown2; obtain ⟨A4, cc4, rfl, _, _, _, _⟩ := own_form hown2))
          have hne4 : (Value.slice A4 2 cc4).ownBlock ≠ some (N + 1) := by
            rcases hat2 with h | h
            · rw [h]; exact hne
            · rw [h]
              intro e
              have e1 := Option.some.inj e
              simp at e1
              omega
          have hzs : (w2.setCell ⟨N + 1, 256, none⟩ (.slice A4 2 cc4)).heap.size = w2.heap.size := by simp
          have hoz := own_sc hown3 hne4 256 (.slice A4 2 cc4)
          have hrz := hr2.set 256 (.slice A4 2 cc4)
          rw [set_last hL2.out.1] at hrz
          have hBz := hB2.setCell (p := ⟨N + 1, 256, none⟩) (show N ≤ N + 1 by omega) (.slice A4 2 cc4)
          obtain ⟨cc, Wc, hcv, hownc, hBc, hszc⟩ := conv_bs (P := Tryz.prog) (src := 9) (dst := 58) Tryz.underlying9 Tryz.underlying58 Tryz.underlying5 (w2.setCell ⟨N + 1, 256, none⟩ (.slice A4 2 cc4)) [92, 92] (by decide)
          have hcv2 : (convert 9 58 (.string ⟨#[92, 92]⟩)).run Tryz.prog (w2.setCell ⟨N + 1, 256, none⟩ (.slice A4 2 cc4)) = .ok (.slice (some ⟨w2.heap.size, 0, none⟩) 2 cc) Wc := by rw [hzs] at hcv; exact hcv
          obtain ⟨_, _, hAe, _, _, hRbc, _⟩ := hownc.form
          cases hAe
          rw [hzs] at hRbc hszc
          have hrc := hrz.below hBc
          have hoc := own_below hoz hBc
          have kqc := hrc.cell (app_at (v := .slice A4 2 cc4) hL2.out.1 hL2.out.2.2.1)
          have kfc := hrc.frozen 92
          have hBw : Below N w0 Wc := hBz.trans (hBc.mono (by rw [hzs]; have := hB2.size; have := HHN.out; omega))
          have hs2 : N + 1 < w2.heap.size := hr2.lt
          have hlt4 := hown3.lt
          have hrf := hrc.set 92 (.slice (some ⟨w2.heap.size, 0, none⟩) 2 cc)
          rw [set_in hL2.out.1 (by omega)] at hrf
          have hof := own_sc hoc hne4 92 (.slice (some ⟨w2.heap.size, 0, none⟩) 2 cc)
          have hBf := hBw.setCell (p := ⟨N + 1, 92, none⟩) (show N ≤ N + 1 by omega) (.slice (some ⟨w2.heap.size, 0, none⟩) 2 cc)
          have hRf := rb_sc (l := [92, 92]) hRbc (show w2.heap.size ≠ N + 1 by omega) 92 (.slice (some ⟨w2.heap.size, 0, none⟩) 2 cc)
          have htf := hL2.out.set92 (.slice (some ⟨w2.heap.size, 0, none⟩) 2 cc)
          have hn4 : (Value.slice A4 2 cc4).ownBlock ≠ some w2.heap.size := fun e => by have := (hlt4 _ e).2; omega
          have hsz4 : w2.heap.size < (Wc.setCell ⟨N + 1, 92, none⟩ (.slice (some ⟨w2.heap.size, 0, none⟩) 2 cc)).heap.size := by simp; omega
          have rx1 := hx1.below (((Below.refl wr.heap.size wr).alloc (Nat.le_refl _) (.cells #[.int .u8 92] 5)).alloc (by simp) (.cells #[sv [92]] 9))
          have rx2 := rb_grown rx1 hgr2 (by simp; omega) (fun e => hx3 e.symm)
          have rx3 := rb_sc rx2 (show x ≠ N + 1 by omega) 256 (.slice A4 2 cc4)
          have rx4 := rx3.below hBc
          have rx5 := rb_sc rx4 (show x ≠ N + 1 by omega) 92 (.slice (some ⟨w2.heap.size, 0, none⟩) 2 cc)
          have HF := Lib.hid (show RepSt N (.int .i64 (-2)) (Wc.setCell ⟨N + 1, 92, none⟩ (.slice (some ⟨w2.heap.size, 0, none⟩) 2 cc)) from ⟨_, _, 2, _, [[34], [92]], _, _, htf, hrf, hof, hne4, .inr (.inr ⟨rfl, rfl, rfl, _, _, _, _, rfl, rfl, rx5, hRf, hx2, by omega⟩)⟩)
          have HBF := Lib.hid hBf
          clear hoz hrz hBz hownc hRbc hszc hrc hoc hBw hrf hof hBf hRf htf hn4 hsz4 hown2 hown3 hr2 hB2 hgr2 hat2 hcv hBc hne4 hlt4 hx1 hx2 hx3 hx4 rx1 rx2 rx3 rx4 rx5
          go_wp2_with fail
          go_roundw
          case rel => exact ⟨by first | exact HF | (simpa using HF), HBF.out⟩
          case measure => simp [intOf]
        · go_wp2_with fail
          rcases hown.2 with ⟨he5, _⟩ | ⟨z, c5, cur, he5, hz5, _, _, _, _, _⟩
          · cases he5
          · cases he5
            obtain ⟨A6, c6, he6, _, _, hRv5, _⟩ := own_form hown
            cases he6
            go_ret
            exact ⟨⟨N + 1, rfl, L, x, c1', y, c2', z, _, htab, hrow, hx1, hy1, hRv5, by rw [HHN.out]; omega, by rw [HHN.out]; omega, by rw [HHN.out]; omega, by rw [HHN.out]; exact hz5⟩, by rw [HHN.out]; exact hBq⟩
end Go.Proofs.YtnmkapaphbaomaaGreatDoor
