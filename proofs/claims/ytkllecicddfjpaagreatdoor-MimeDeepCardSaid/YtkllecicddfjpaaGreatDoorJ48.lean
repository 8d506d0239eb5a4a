/- The document's Same at two parts in as many multiparts that read as one. · The document's Same at two parts in as many multiparts that read as one: it tells true. -/
import Derived.Test.YtkllecicddfjpaaGreatDoorJ47
import Derived.Test.YtkllecicddfjpaaGreatDoorJ23
import Derived.BigQuiet
namespace Go.Proofs.YtkllecicddfjpaaGreatDoor
set_option linter.unusedVariables false
set_option linter.unusedSimpArgs false
open Go.RowKit
namespace Tk
theorem Rp_one {w : World} {A : Option Addr} {fs : List (List UInt8 × List UInt8)} (h : Rv w A (pcells fs)) {k : Nat} (hk : k < fs.length) :
    ∃ b o p, A = some ⟨b, o, none⟩ ∧ Hid (fs[k]? = some p) ∧ w.cell? ⟨b, o + k * 2, none⟩ = some (.string (bs p.1)) ∧ w.cell? ⟨b, o + k * 2 + 1, none⟩ = some (.string (bs p.2)) := by
  obtain ⟨b, o, rfl, hc⟩ := h (by rw [pcells_len]; omega)
  obtain ⟨p, hp⟩ : ∃ p, fs[k]? = some p := ⟨_, List.getElem?_eq_getElem hk⟩
  obtain ⟨h1, h2⟩ := pcells_get hp
  refine ⟨b, o, p, rfl, Lib.hid hp, ?_, ?_⟩
  · have := hc _ _ h1
    rwa [show o + 2 * k = o + k * 2 by omega] at this
  · have := hc _ _ h2
    rwa [show o + (2 * k + 1) = o + k * 2 + 1 by omega] at this

set_option maxRecDepth 100000 in
set_option maxHeartbeats 2000000 in
theorem samep_any (A B : Option Addr) (fs : List (List UInt8 × List UInt8)) (n c d : Nat) (w : World) (hn : fs.length = n) (hA : Rv w A (pcells fs)) (hB : Rv w B (pcells fs)) (hb : n ≤ 1000000) :
    Calls Tryz.prog 33 #[.slice A n c, .slice B n d] w fun e w' => e = .returned (.bool true) ∧ Dn w w' := by
  have HN := Lib.hid hn
  clear hn
  go_enter Tryz.func33, Tryz.ntmps33
  go_wp2_with fail
  go_loopw [5] (fun i wr => ∃ k : Nat, i = .int .i64 k ∧ k ≤ n ∧ Dn w wr) (fun i _ => n - (intOf i).toNat)
  case atStart => exact ⟨0, rfl, by omega, Dn.refl _⟩
  case round =>
    obtain ⟨k, rfl, hk, hd⟩ := hrel
    by_cases hlt : k < n
    · obtain ⟨b, o, p, rfl, hp, h0, h1⟩ := Rp_one (hA.below (hd.below _)) (k := k) (by rw [HN.out]; exact hlt)
      obtain ⟨b', o', p', rfl, hp', h0', h1'⟩ := Rp_one (hB.below (hd.below _)) (k := k) (by rw [HN.out]; exact hlt)
      obtain rfl : p' = p := Option.some.inj (hp'.out.symm.trans hp.out)
      go_wp2_with fail
      go_quiet (fail)
      go_wp2_with fail
      go_roundw
      case rel => exact ⟨k + 1, by go_num, by omega, by first | exact hd.drewN _ | exact hd.drew | exact hd⟩
      case measure => simp [intOf]; omega
    · go_wp2_with fail
      go_ret
      exact ⟨rfl, hd⟩
end Tk

/-- what was read is such a part -/
theorem RL_PtL (b : List UInt8) : ∀ (i : Nat) (w : World) (p : Pv) (F : Nat → Prop), RL b i w p F → PtL w b i p
  | 0, w, p, F, h => by
    obtain ⟨h1, h2, h3, h4, h5, h6, h7, h8⟩ := h
    exact ⟨h1, h2, h3, h7.1, h4, h5, h8⟩
  | i + 1, w, p, F, h => by
    obtain ⟨h1, h2, h3, h4, h5, h6, qs, h7, h8, h9⟩ := h
    match qs, h7 with
    | [x], _ => exact ⟨h1, h2, h3, h4, h6, h5.1, x.1, h8.1, RL_PtL b i w x.1 x.2 (h9 0 _ x rfl rfl).1⟩
theorem samep2 (A B : Option Addr) (fs : List (List UInt8 × List UInt8)) (n c d : Nat) (w : World) (hn : fs.length = n) (hA : Rv w A (Tk.pcells fs)) (hB : Rv w B (Tk.pcells fs)) (hb : n ≤ 1000000) :
    Calls Tryz.prog 33 #[.slice A n c, .slice B n d] w fun e w' => e = .returned (.bool true) ∧ Below w.heap.size w w' :=
  (Tk.samep_any A B fs n c d w hn hA hB hb).mono fun e w' h => ⟨h.1, Dn.below h.2 _⟩
theorem sameb2 (A B : Option Addr) (l : List UInt8) (n c d : Nat) (w : World) (hn : l.length = n) (hA : Rb w A l) (hB : Rb w B l) (hb : n ≤ 1000000) :
    Calls Tryz.prog 11 #[.slice A n c, .slice B n d] w fun e w' => e = .returned (.bool true) ∧ Below w.heap.size w w' :=
  (same_any A B l l n n c d w hn hn hA hB (by omega)).mono fun e w' h => ⟨by rw [h.1]; simp, Dn.below h.2 _⟩
end Go.Proofs.YtkllecicddfjpaaGreatDoor

namespace Go.Proofs.YtkllecicddfjpaaGreatDoor
set_option linter.unusedVariables false
set_option linter.unusedSimpArgs false
open Go.RowKit

set_option maxRecDepth 100000 in
set_option maxHeartbeats 4000000 in
theorem same12_zero (b : List UInt8) (hb : b.length ≤ 300) (p q : Pv) (w : World) (hp : PtL w b 0 p) (hq : PtL w b 0 q) :
    Calls Tryz.prog 16 #[p.val, q.val] w fun e w' => e = .returned (.bool true) ∧ Below w.heap.size w w' := by
  obtain ⟨k, A, n, c, code, B, nb, cb, C, nq, cc⟩ := p
  obtain ⟨k', A', n', c', code', B', nb', cb', C', nq', cc'⟩ := q
  obtain ⟨h1, h2, h3, h4, h5, h6, h7⟩ := hp
  obtain ⟨g1, g2, g3, g4, g5, g6, g7⟩ := hq
  simp only at h1 h2 h3 h4 h5 h6 h7 g1 g2 g3 g4 g5 g6 g7
  subst h2 h3 h5 h7 g2 g3 g5 g7
  rw [← h1] at g1
  subst g1
  clear h1
  simp only [Pv.val]
  obtain ⟨nb, hnb⟩ : ∃ x, b.length = x := ⟨_, rfl⟩
  have HNB := Lib.hid hnb
  simp only [hnb] at hb h6 g6 ⊢
  clear hnb
  have hB00 : Below w.heap.size w (w.alloc (.cells #[.string (bs k'), .slice A 0 c, .int .i64 1, .slice B nb cb, .slice C 0 cc] 34)) := (Below.refl _ _).alloc (Nat.le_refl _) _
  have hBa : Below w.heap.size w ((w.alloc (.cells #[.string (bs k'), .slice A 0 c, .int .i64 1, .slice B nb cb, .slice C 0 cc] 34)).alloc (.cells #[.string (bs k'), .slice A' 0 c', .int .i64 1, .slice B' nb cb', .slice C' 0 cc'] 34)) := hB00.alloc hB00.size _
  have rX := (Row.new w #[.string (bs k'), .slice A 0 c, .int .i64 1, .slice B nb cb, .slice C 0 cc] 34).below ((Below.refl _ (w.alloc (.cells #[.string (bs k'), .slice A 0 c, .int .i64 1, .slice B nb cb, .slice C 0 cc] 34))).alloc (Nat.le_refl _) (.cells #[.string (bs k'), .slice A' 0 c', .int .i64 1, .slice B' nb cb', .slice C' 0 cc'] 34))
  have rY := Row.new (w.alloc (.cells #[.string (bs k'), .slice A 0 c, .int .i64 1, .slice B nb cb, .slice C 0 cc] 34)) #[.string (bs k'), .slice A' 0 c', .int .i64 1, .slice B' nb cb', .slice C' 0 cc'] 34
  rw [World.size_alloc] at rY
  go_enter Tryz.func16, Tryz.ntmps16
  go_wp2_with fail
  generalize ((w.alloc (.cells #[.string (bs k'), .slice A 0 c, .int .i64 1, .slice B nb cb, .slice C 0 cc] 34)).alloc (.cells #[.string (bs k'), .slice A' 0 c', .int .i64 1, .slice B' nb cb', .slice C' 0 cc'] 34)) = W0 at *
  refine (samep2 A A' [] 0 c c' W0 rfl (Rv.nil _ _) (Rv.nil _ _) (by omega)).mono ?_
  rintro e w1 ⟨rfl, hb1⟩
  have hB1 := hBa.trans (hb1.mono hBa.size)
  have rX1 := rX.below hb1
  have rY1 := rY.below hb1
  have x3 := rX1.cell (j := 3) rfl
  have y3 := rY1.cell (j := 3) rfl
  clear rX rY hb1 hB00
  go_wp2_with fail
  refine (sameb2 B B' b nb cb cb' w1 HNB.out (h4.below hB1) (g4.below hB1) (by omega)).mono ?_
  rintro e w2 ⟨rfl, hb2⟩
  have hB2 := hB1.trans (hb2.mono hB1.size)
  have rX2 := rX1.below hb2
  have rY2 := rY1.below hb2
  have x4 := rX2.cell (j := 4) rfl
  have y4 := rY2.cell (j := 4) rfl
  clear rX1 rY1 hb2 x3 y3
  go_wp2_with fail
  go_loopw [5] (fun s5 wr => s5 = .int .i64 0 ∧ wr = w2) (fun _ _ => 0)
  case atStart => exact ⟨rfl, rfl⟩
  case round =>
    obtain ⟨rfl, rfl⟩ := hrel
    go_wp2_with fail
    go_ret
    exact ⟨rfl, hB2⟩
set_option maxRecDepth 100000 in
set_option maxHeartbeats 4000000 in
theorem same12_step (b : List UInt8) (i : Nat) (ih : ∀ (p q : Pv) (w : World), PtL w b i p → PtL w b i q → Calls Tryz.prog 16 #[p.val, q.val] w fun e w' => e = .returned (.bool true) ∧ Below w.heap.size w w') (p q : Pv) (w : World) (hp : PtL w b (i + 1) p) (hq : PtL w b (i + 1) q) :
    Calls Tryz.prog 16 #[p.val, q.val] w fun e w' => e = .returned (.bool true) ∧ Below w.heap.size w w' := by
  obtain ⟨k, A, n, c, code, B, nb, cb, C, nq, cc⟩ := p
  obtain ⟨k', A', n', c', code', B', nb', cb', C', nq', cc'⟩ := q
  obtain ⟨h1, h2, h3, h4, h5, h6, x, hx, hX⟩ := hp
  obtain ⟨g1, g2, g3, g4, g5, g6, y, hy, hY⟩ := hq
  simp only at h1 h2 h3 h4 h5 h6 hx g1 g2 g3 g4 g5 g6 hy
  subst h2 h3 h4 h5 g2 g3 g4 g5
  rw [← h1] at g1
  subst g1
  clear h1
  simp only [Pv.val]
  obtain ⟨fs, hfs⟩ : ∃ fs, [(bdN, bn i)] = fs := ⟨_, rfl⟩
  have hfl : fs.length = 1 := by rw [← hfs]; rfl
  rw [hfs] at h6 g6
  clear hfs
  have hB00 : Below w.heap.size w (w.alloc (.cells #[.string (bs k'), .slice A 1 c, .int .i64 0, .slice B 0 cb, .slice C 1 cc] 34)) := (Below.refl _ _).alloc (Nat.le_refl _) _
  have hBa : Below w.heap.size w ((w.alloc (.cells #[.string (bs k'), .slice A 1 c, .int .i64 0, .slice B 0 cb, .slice C 1 cc] 34)).alloc (.cells #[.string (bs k'), .slice A' 1 c', .int .i64 0, .slice B' 0 cb', .slice C' 1 cc'] 34)) := hB00.alloc hB00.size _
  have rX := (Row.new w #[.string (bs k'), .slice A 1 c, .int .i64 0, .slice B 0 cb, .slice C 1 cc] 34).below ((Below.refl _ (w.alloc (.cells #[.string (bs k'), .slice A 1 c, .int .i64 0, .slice B 0 cb, .slice C 1 cc] 34))).alloc (Nat.le_refl _) (.cells #[.string (bs k'), .slice A' 1 c', .int .i64 0, .slice B' 0 cb', .slice C' 1 cc'] 34))
  have rY := Row.new (w.alloc (.cells #[.string (bs k'), .slice A 1 c, .int .i64 0, .slice B 0 cb, .slice C 1 cc] 34)) #[.string (bs k'), .slice A' 1 c', .int .i64 0, .slice B' 0 cb', .slice C' 1 cc'] 34
  rw [World.size_alloc] at rY
  go_enter Tryz.func16, Tryz.ntmps16
  go_wp2_with fail
  generalize ((w.alloc (.cells #[.string (bs k'), .slice A 1 c, .int .i64 0, .slice B 0 cb, .slice C 1 cc] 34)).alloc (.cells #[.string (bs k'), .slice A' 1 c', .int .i64 0, .slice B' 0 cb', .slice C' 1 cc'] 34)) = W0 at *
  refine (samep2 A A' fs 1 c c' W0 hfl (h6.below hBa) (g6.below hBa) (by omega)).mono ?_
  rintro e w1 ⟨rfl, hb1⟩
  have hB1 := hBa.trans (hb1.mono hBa.size)
  have rX1 := rX.below hb1
  have rY1 := rY.below hb1
  have x3 := rX1.cell (j := 3) rfl
  have y3 := rY1.cell (j := 3) rfl
  clear rX rY hb1 hB00
  go_wp2_with fail
  refine (sameb2 B B' [] 0 cb cb' w1 rfl (Rb.nil _ _) (Rb.nil _ _) (by omega)).mono ?_
  rintro e w2 ⟨rfl, hb2⟩
  have hB2 := hB1.trans (hb2.mono hB1.size)
  have rX2 := rX1.below hb2
  have rY2 := rY1.below hb2
  have x4 := rX2.cell (j := 4) rfl
  have y4 := rY2.cell (j := 4) rfl
  clear rX1 rY1 hb2 x3 y3
  go_wp2_with fail
  go_loopw [5] (fun s5 wr => ∃ k : Nat, s5 = .int .i64 k ∧ k ≤ 1 ∧ Below w2.heap.size w2 wr) (fun s _ => 1 - (intOf s).toNat)
  case atStart => exact ⟨0, rfl, by omega, Below.refl _ _⟩
  case round =>
    obtain ⟨k, rfl, hk, hr⟩ := hrel
    have hB3 := hB2.trans (hr.mono hB2.size)
    have rX3 := rX2.below hr
    have rY3 := rY2.below hr
    have u4 := rX3.cell (j := 4) rfl
    have v4 := rY3.cell (j := 4) rfl
    by_cases hlt : k < 1
    · obtain rfl : k = 0 := by omega
      have hD : Below wr.heap.size wr wr.drew := (Below.refl _ _).drew
      obtain ⟨bx, ox, rfl, hxc⟩ := (hx.below hB3) (by rw [pvs_len]; exact Nat.succ_pos 4)
      obtain ⟨by', oy, rfl, hyc⟩ := (hy.below hB3) (by rw [pvs_len]; exact Nat.succ_pos 4)
      have a0 := hxc 0 _ rfl
      have a1 := hxc 1 _ rfl
      have a2 := hxc 2 _ rfl
      have a3 := hxc 3 _ rfl
      have a4 := hxc 4 _ rfl
      have b0 := hyc 0 _ rfl
      have b1 := hyc 1 _ rfl
      have b2 := hyc 2 _ rfl
      have b3 := hyc 3 _ rfl
      have b4 := hyc 4 _ rfl
      have HC := Lib.hid (show ∀ W, Below wr.heap.size wr W → (W.cell? ⟨w.heap.size, 4, none⟩ = some (.slice (some ⟨bx, ox, none⟩) 1 cc) ∧ W.cell? ⟨w.heap.size + 1, 4, none⟩ = some (.slice (some ⟨by', oy, none⟩) 1 cc') ∧ W.cell? ⟨bx, ox, none⟩ = some (.string (bs x.k)) ∧ W.cell? ⟨bx, ox + 1, none⟩ = some (.slice x.A x.n x.c) ∧ W.cell? ⟨bx, ox + 2, none⟩ = some (.int .i64 x.code) ∧ W.cell? ⟨bx, ox + 3, none⟩ = some (.slice x.B x.nb x.cb) ∧ W.cell? ⟨bx, ox + 4, none⟩ = some (.slice x.C x.nq x.cc) ∧ W.cell? ⟨by', oy, none⟩ = some (.string (bs y.k)) ∧ W.cell? ⟨by', oy + 1, none⟩ = some (.slice y.A y.n y.c) ∧ W.cell? ⟨by', oy + 2, none⟩ = some (.int .i64 y.code) ∧ W.cell? ⟨by', oy + 3, none⟩ = some (.slice y.B y.nb y.cb) ∧ W.cell? ⟨by', oy + 4, none⟩ = some (.slice y.C y.nq y.cc)) from fun W h => by
        have r1 := rX3.below h
        have r2 := rY3.below h
        have hB4 := hB3.trans (h.mono hB3.size)
        obtain ⟨_, _, e1, q1⟩ := (hx.below hB4) (by rw [pvs_len]; exact Nat.succ_pos 4)
        cases e1
        obtain ⟨_, _, e2, q2⟩ := (hy.below hB4) (by rw [pvs_len]; exact Nat.succ_pos 4)
        cases e2
        exact ⟨r1.cell (j := 4) rfl, r2.cell (j := 4) rfl, q1 0 _ rfl, q1 1 _ rfl, q1 2 _ rfl, q1 3 _ rfl, q1 4 _ rfl, q2 0 _ rfl, q2 1 _ rfl, q2 2 _ rfl, q2 3 _ rfl, q2 4 _ rfl⟩)
      have hc := ih x y wr.drew ((hX.below hB3).below hD) ((hY.below hB3).below hD)
      go_wp2_with fail
      refine wp_region_held_drew (S := (fun W => W.cell? ⟨w.heap.size, 4, none⟩ = some (.slice (some ⟨bx, ox, none⟩) 1 cc) ∧ W.cell? ⟨w.heap.size + 1, 4, none⟩ = some (.slice (some ⟨by', oy, none⟩) 1 cc') ∧ W.cell? ⟨bx, ox, none⟩ = some (.string (bs x.k)) ∧ W.cell? ⟨bx, ox + 1, none⟩ = some (.slice x.A x.n x.c) ∧ W.cell? ⟨bx, ox + 2, none⟩ = some (.int .i64 x.code) ∧ W.cell? ⟨bx, ox + 3, none⟩ = some (.slice x.B x.nb x.cb) ∧ W.cell? ⟨bx, ox + 4, none⟩ = some (.slice x.C x.nq x.cc) ∧ W.cell? ⟨by', oy, none⟩ = some (.string (bs y.k)) ∧ W.cell? ⟨by', oy + 1, none⟩ = some (.slice y.A y.n y.c) ∧ W.cell? ⟨by', oy + 2, none⟩ = some (.int .i64 y.code) ∧ W.cell? ⟨by', oy + 3, none⟩ = some (.slice y.B y.nb y.cb) ∧ W.cell? ⟨by', oy + 4, none⟩ = some (.slice y.C y.nq y.cc))) (by kernel_rfl) (by first | exact ⟨u4, v4, a0, a1, a2, a3, a4, b0, b1, b2, b3, b4⟩ | exact HC.out _ hT) (fun hHeld => ?_)
      first
      | (refine wpAnyH_take (i := 0) (v := ?_) rfl (by kernel_rfl) (by kernel_rfl) (by kernel_rfl) (fun _ _ _ h => h) (Or.inl ⟨by rfl, ?_⟩) (by assumption) ?_; rotate_left 1; (focus (intro w hSw; (try dsimp only at hSw); go_simp; (try with_reducible rfl))); (try simp only [Act.put, List.setIfInBounds_toArray, List.set_cons_zero, List.set_cons_succ, List.getElem_toArray, List.getElem_cons_zero, List.getElem_cons_succ]))
      | (refine wpAnyH_take (i := 0) (v := undef) rfl (by kernel_rfl) (by kernel_rfl) (by kernel_rfl) (fun _ _ _ h => h) (Or.inr ⟨by rfl, rfl⟩) (by assumption) ?_; (try simp only [Act.put, List.setIfInBounds_toArray, List.set_cons_zero, List.set_cons_succ, List.getElem_toArray, List.getElem_cons_zero, List.getElem_cons_succ]))
      first
      | (refine wpAnyH_take (i := 1) (v := ?_) rfl (by kernel_rfl) (by kernel_rfl) (by kernel_rfl) (fun _ _ _ h => h) (Or.inl ⟨by rfl, ?_⟩) (by assumption) ?_; rotate_left 1; (focus (intro w hSw; (try dsimp only at hSw); go_simp; (try with_reducible rfl))); (try simp only [Act.put, List.setIfInBounds_toArray, List.set_cons_zero, List.set_cons_succ, List.getElem_toArray, List.getElem_cons_zero, List.getElem_cons_succ]))
      | (refine wpAnyH_take (i := 1) (v := undef) rfl (by kernel_rfl) (by kernel_rfl) (by kernel_rfl) (fun _ _ _ h => h) (Or.inr ⟨by rfl, rfl⟩) (by assumption) ?_; (try simp only [Act.put, List.setIfInBounds_toArray, List.set_cons_zero, List.set_cons_succ, List.getElem_toArray, List.getElem_cons_zero, List.getElem_cons_succ]))
      first
      | (refine wpAnyH_take (i := 2) (v := ?_) rfl (by kernel_rfl) (by kernel_rfl) (by kernel_rfl) (fun _ _ _ h => h) (Or.inl ⟨by rfl, ?_⟩) (by assumption) ?_; rotate_left 1; (focus (intro w hSw; (try dsimp only at hSw); go_simp; (try with_reducible rfl))); (try simp only [Act.put, List.setIfInBounds_toArray, List.set_cons_zero, List.set_cons_succ, List.getElem_toArray, List.getElem_cons_zero, List.getElem_cons_succ]))
      | (refine wpAnyH_take (i := 2) (v := undef) rfl (by kernel_rfl) (by kernel_rfl) (by kernel_rfl) (fun _ _ _ h => h) (Or.inr ⟨by rfl, rfl⟩) (by assumption) ?_; (try simp only [Act.put, List.setIfInBounds_toArray, List.set_cons_zero, List.set_cons_succ, List.getElem_toArray, List.getElem_cons_zero, List.getElem_cons_succ]))
      first
      | (refine wpAnyH_take (i := 3) (v := ?_) rfl (by kernel_rfl) (by kernel_rfl) (by kernel_rfl) (fun _ _ _ h => h) (Or.inl ⟨by rfl, ?_⟩) (by assumption) ?_; rotate_left 1; (focus (intro w hSw; (try dsimp only at hSw); go_simp; (try with_reducible rfl))); (try simp only [Act.put, List.setIfInBounds_toArray, List.set_cons_zero, List.set_cons_succ, List.getElem_toArray, List.getElem_cons_zero, List.getElem_cons_succ]))
      | (refine wpAnyH_take (i := 3) (v := undef) rfl (by kernel_rfl) (by kernel_rfl) (by kernel_rfl) (fun _ _ _ h => h) (Or.inr ⟨by rfl, rfl⟩) (by assumption) ?_; (try simp only [Act.put, List.setIfInBounds_toArray, List.set_cons_zero, List.set_cons_succ, List.getElem_toArray, List.getElem_cons_zero, List.getElem_cons_succ]))
      first
      | (refine wpAnyH_take (i := 4) (v := ?_) rfl (by kernel_rfl) (by kernel_rfl) (by kernel_rfl) (fun _ _ _ h => h) (Or.inl ⟨by rfl, ?_⟩) (by assumption) ?_; rotate_left 1; (focus (intro w hSw; (try dsimp only at hSw); go_simp; (try with_reducible rfl))); (try simp only [Act.put, List.setIfInBounds_toArray, List.set_cons_zero, List.set_cons_succ, List.getElem_toArray, List.getElem_cons_zero, List.getElem_cons_succ]))
      | (refine wpAnyH_take (i := 4) (v := undef) rfl (by kernel_rfl) (by kernel_rfl) (by kernel_rfl) (fun _ _ _ h => h) (Or.inr ⟨by rfl, rfl⟩) (by assumption) ?_; (try simp only [Act.put, List.setIfInBounds_toArray, List.set_cons_zero, List.set_cons_succ, List.getElem_toArray, List.getElem_cons_zero, List.getElem_cons_succ]))
      first
      | (refine wpAnyH_take (i := 5) (v := ?_) rfl (by kernel_rfl) (by kernel_rfl) (by kernel_rfl) (fun _ _ _ h => h) (Or.inl ⟨by rfl, ?_⟩) (by assumption) ?_; rotate_left 1; (focus (intro w hSw; (try dsimp only at hSw); go_simp; (try with_reducible rfl))); (try simp only [Act.put, List.setIfInBounds_toArray, List.set_cons_zero, List.set_cons_succ, List.getElem_toArray, List.getElem_cons_zero, List.getElem_cons_succ]))
      | (refine wpAnyH_take (i := 5) (v := undef) rfl (by kernel_rfl) (by kernel_rfl) (by kernel_rfl) (fun _ _ _ h => h) (Or.inr ⟨by rfl, rfl⟩) (by assumption) ?_; (try simp only [Act.put, List.setIfInBounds_toArray, List.set_cons_zero, List.set_cons_succ, List.getElem_toArray, List.getElem_cons_zero, List.getElem_cons_succ]))
      first
      | (refine wpAnyH_take (i := 6) (v := ?_) rfl (by kernel_rfl) (by kernel_rfl) (by kernel_rfl) (fun _ _ _ h => h) (Or.inl ⟨by rfl, ?_⟩) (by assumption) ?_; rotate_left 1; (focus (intro w hSw; (try dsimp only at hSw); go_simp; (try with_reducible rfl))); (try simp only [Act.put, List.setIfInBounds_toArray, List.set_cons_zero, List.set_cons_succ, List.getElem_toArray, List.getElem_cons_zero, List.getElem_cons_succ]))
      | (refine wpAnyH_take (i := 6) (v := undef) rfl (by kernel_rfl) (by kernel_rfl) (by kernel_rfl) (fun _ _ _ h => h) (Or.inr ⟨by rfl, rfl⟩) (by assumption) ?_; (try simp only [Act.put, List.setIfInBounds_toArray, List.set_cons_zero, List.set_cons_succ, List.getElem_toArray, List.getElem_cons_zero, List.getElem_cons_succ]))
      first
      | (refine wpAnyH_take (i := 7) (v := ?_) rfl (by kernel_rfl) (by kernel_rfl) (by kernel_rfl) (fun _ _ _ h => h) (Or.inl ⟨by rfl, ?_⟩) (by assumption) ?_; rotate_left 1; (focus (intro w hSw; (try dsimp only at hSw); go_simp; (try with_reducible rfl))); (try simp only [Act.put, List.setIfInBounds_toArray, List.set_cons_zero, List.set_cons_succ, List.getElem_toArray, List.getElem_cons_zero, List.getElem_cons_succ]))
      | (refine wpAnyH_take (i := 7) (v := undef) rfl (by kernel_rfl) (by kernel_rfl) (by kernel_rfl) (fun _ _ _ h => h) (Or.inr ⟨by rfl, rfl⟩) (by assumption) ?_; (try simp only [Act.put, List.setIfInBounds_toArray, List.set_cons_zero, List.set_cons_succ, List.getElem_toArray, List.getElem_cons_zero, List.getElem_cons_succ]))
      first
      | (refine wpAnyH_take (i := 8) (v := ?_) rfl (by kernel_rfl) (by kernel_rfl) (by kernel_rfl) (fun _ _ _ h => h) (Or.inl ⟨by rfl, ?_⟩) (by assumption) ?_; rotate_left 1; (focus (intro w hSw; (try dsimp only at hSw); go_simp; (try with_reducible rfl))); (try simp only [Act.put, List.setIfInBounds_toArray, List.set_cons_zero, List.set_cons_succ, List.getElem_toArray, List.getElem_cons_zero, List.getElem_cons_succ]))
      | (refine wpAnyH_take (i := 8) (v := undef) rfl (by kernel_rfl) (by kernel_rfl) (by kernel_rfl) (fun _ _ _ h => h) (Or.inr ⟨by rfl, rfl⟩) (by assumption) ?_; (try simp only [Act.put, List.setIfInBounds_toArray, List.set_cons_zero, List.set_cons_succ, List.getElem_toArray, List.getElem_cons_zero, List.getElem_cons_succ]))
      first
      | (refine wpAnyH_take (i := 9) (v := ?_) rfl (by kernel_rfl) (by kernel_rfl) (by kernel_rfl) (fun _ _ _ h => h) (Or.inl ⟨by rfl, ?_⟩) (by assumption) ?_; rotate_left 1; (focus (intro w hSw; (try dsimp only at hSw); go_simp; (try with_reducible rfl))); (try simp only [Act.put, List.setIfInBounds_toArray, List.set_cons_zero, List.set_cons_succ, List.getElem_toArray, List.getElem_cons_zero, List.getElem_cons_succ]))
      | (refine wpAnyH_take (i := 9) (v := undef) rfl (by kernel_rfl) (by kernel_rfl) (by kernel_rfl) (fun _ _ _ h => h) (Or.inr ⟨by rfl, rfl⟩) (by assumption) ?_; (try simp only [Act.put, List.setIfInBounds_toArray, List.set_cons_zero, List.set_cons_succ, List.getElem_toArray, List.getElem_cons_zero, List.getElem_cons_succ]))
      refine wpAnyH_ready (rs := [10]) (by kernel_rfl) (by simp) ?_
      refine AllReadyH.cons rfl (fun K hK => ?_) AllReadyH.nil
      go_simp
      first
      | (refine hK.out _ _ hHeld (fun hHeld => ?_))
      | (go_wp2_with ((go_at_call 16; (with_reducible refine hc.mono ?_); rintro e x1 ⟨rfl, hx1⟩; have hT := hD.trans (hx1.mono hD.size))); refine hK.out _ _ (by first | exact ⟨u4, v4, a0, a1, a2, a3, a4, b0, b1, b2, b3, b4⟩ | exact HC.out _ hT) (fun hHeld => ?_))
      clear hK K
      (try simp only [Act.put, List.setIfInBounds_toArray, List.set_cons_zero, List.set_cons_succ, List.getElem_toArray, List.getElem_cons_zero, List.getElem_cons_succ])
      first
      | (refine wpAnyH_take (i := 11) (v := ?_) rfl (by kernel_rfl) (by kernel_rfl) (by kernel_rfl) (fun _ _ _ h => h) (Or.inl ⟨by rfl, ?_⟩) (by assumption) ?_; rotate_left 1; (focus (intro w hSw; (try dsimp only at hSw); go_simp; (try with_reducible rfl))); (try simp only [Act.put, List.setIfInBounds_toArray, List.set_cons_zero, List.set_cons_succ, List.getElem_toArray, List.getElem_cons_zero, List.getElem_cons_succ]))
      | (refine wpAnyH_take (i := 11) (v := undef) rfl (by kernel_rfl) (by kernel_rfl) (by kernel_rfl) (fun _ _ _ h => h) (Or.inr ⟨by rfl, rfl⟩) (by assumption) ?_; (try simp only [Act.put, List.setIfInBounds_toArray, List.set_cons_zero, List.set_cons_succ, List.getElem_toArray, List.getElem_cons_zero, List.getElem_cons_succ]))
      refine wpAnyH_done (by kernel_rfl) ?_ _
      go_wp2_with fail
      go_roundw
      case rel => exact ⟨1, rfl, by omega, by first | exact hr.trans (hT.mono hr.size) | exact (hr.trans (hT.mono hr.size)).drew | exact (hr.trans (hT.mono hr.size)).drew.drew⟩
      case measure => simp [intOf]
    · obtain rfl : k = 1 := by omega
      go_wp2_with fail
      go_ret
      exact ⟨rfl, hB3⟩
/-- the document's Same at two parts of one level: it tells true -/
theorem same12 (b : List UInt8) (hb : b.length ≤ 300) : ∀ (i : Nat) (p q : Pv) (w : World), PtL w b i p → PtL w b i q →
    Calls Tryz.prog 16 #[p.val, q.val] w fun e w' => e = .returned (.bool true) ∧ Below w.heap.size w w'
  | 0, p, q, w, hp, hq => same12_zero b hb p q w hp hq
  | i + 1, p, q, w, hp, hq => same12_step b i (same12 b hb i) p q w hp hq
end Go.Proofs.YtkllecicddfjpaaGreatDoor
