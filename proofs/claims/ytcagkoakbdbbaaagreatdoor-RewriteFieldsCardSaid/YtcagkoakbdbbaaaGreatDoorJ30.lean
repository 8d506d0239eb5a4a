/- The program's change at kind 7: a field and the next one change places. -/
import Derived.Test.YtcagkoakbdbbaaaGreatDoorJ29
import Derived.BigRegion
namespace Go.Proofs.YtcagkoakbdbbaaaGreatDoor
set_option linter.unusedVariables false
set_option linter.unusedSimpArgs false
open Go.RowKit

/-- a field and the next one change places, where their names differ -/
def swapL (fs : List (List UInt8)) (a : Nat) (f : List UInt8) : List (List UInt8) := match fs[a + 1]? with
  | none => fs
  | some g => if sameN (nameL f) (nameL g) then fs else (fs.set a g).set (a + 1) f
theorem swapL_len (fs : List (List UInt8)) (a : Nat) (f : List UInt8) : (swapL fs a f).length = fs.length := by
  unfold swapL
  split
  · rfl
  · split <;> simp
theorem FR.setAt {W : World} {B bg n cf a hb o c : Nat} {fs : List (List UInt8)} {l : List UInt8} (h : FR W B (.slice (some ⟨bg, 0, none⟩) n cf) fs) (hn : fs.length = n) (ha : a < n) (hc : l.length ≤ c) (h0 : l ≠ []) (hR : Rb W (some ⟨hb, o, none⟩) l) (hne : hb ≠ bg) :
    FR (W.setCell ⟨bg, a, none⟩ (.slice (some ⟨hb, o, none⟩) l.length c)) B (.slice (some ⟨bg, 0, none⟩) n cf) (fs.set a l) := by
  obtain ⟨vs, ho, he⟩ := h
  have hvl : vs.length = n := by have := ho.1; omega
  rw [hn] at ho
  refine ⟨vs.set a (.slice (some ⟨hb, o, none⟩) l.length c), by rw [List.length_set, hn]; exact own_setAt ho ha _, fun j l' hj => ?_⟩
  rw [List.getElem?_set] at hj
  by_cases hja : a = j
  · subst hja
    rw [if_pos rfl, if_pos (by omega)] at hj
    cases hj
    exact ⟨hb, o, c, List.getElem?_set_self (by omega), hc, h0, Rb.setFar hR (by show bg ≠ hb; exact fun e => hne e.symm) _, by intro e; simp [nb, Value.ownBlock] at e; exact hne e.symm⟩
  · rw [if_neg hja] at hj
    obtain ⟨b', o', c', k1, k2, k3, k4, k5⟩ := he j l' hj
    exact ⟨b', o', c', by rw [List.getElem?_set_ne hja]; exact k1, k2, k3, Rb.setFar k4 (by show bg ≠ b'; intro e; exact k5 (by rw [← e]; simp [nb, Value.ownBlock])) _, k5⟩

set_option maxRecDepth 100000 in
set_option maxHeartbeats 4000000 in
theorem change_order (Af Ae Ab : Option Addr) (fs : List (List UInt8)) (B n cf ce cb m k : Nat) (N M : Int) (T : ByteArray) (w : World) (hG : Gl w) (hF : FR w B (.slice Af n cf) fs) (hB : B ≤ w.heap.size) (hn0 : 0 < n) (hn1 : n ≤ 1000000) (hN : -9223372036854775808 ≤ N ∧ N ≤ 9223372036854775807) (hll : ∀ f ∈ fs, f.length ≤ 1000000) :
    Calls Tryz.prog 21 #[.agg #[.slice Af n cf, .slice Ae m ce, .slice Ab k cb], .agg #[.int .i64 7, .int .i64 N, .int .i64 M, .string T]] w fun e w' => (∃ (a : Nat), N % (n : Int) = (a : Int) ∧ ∃ (f : List UInt8), fs[a]? = some f ∧ e = .returned (.agg #[.slice Af n cf, .slice Ae m ce, .slice Ab k cb]) ∧ FR w' B (.slice Af n cf) (swapL fs a f)) ∧ Below B w w' := by
  obtain ⟨vs, ho, he⟩ := hF
  obtain ⟨_, _, e9, hnc, _, hRv, hvl⟩ := own_form ho
  cases e9
  obtain ⟨at', hat⟩ : ∃ a : Nat, N % (fs.length : Int) = (a : Int) := ⟨(N % (fs.length : Int)).toNat, by have := Int.emod_nonneg N (by omega : (fs.length : Int) ≠ 0); omega⟩
  have hatl : at' < fs.length := by have := Int.emod_lt_of_pos N (by omega : (0 : Int) < (fs.length : Int)); omega
  obtain ⟨nf, hnf⟩ : ∃ nf, fs.length = nf := ⟨_, rfl⟩
  obtain ⟨f, hf⟩ : ∃ f, fs[at']? = some f := ⟨_, List.getElem?_eq_getElem hatl⟩
  obtain ⟨bz, oz, cz, hvz, hzc, hz0, hRz, _⟩ := he at' f hf
  obtain ⟨bg, hgo, hgb, hgl⟩ : ∃ go, Af = some ⟨go, 0, none⟩ ∧ B ≤ go ∧ go < w.heap.size := by
    rcases ho.2 with ⟨hv, _⟩ | ⟨g, cap, cur, hv, hbg, hg, _⟩
    · injection hv with h1 h2 h3; omega
    · injection hv with h1 h2 h3; exact ⟨g, h1, hbg, (Array.getElem?_eq_some_iff.1 hg).1⟩
  subst hgo
  obtain ⟨fn, hfn⟩ : ∃ fn, f.length = fn := ⟨_, rfl⟩
  have HFN := Lib.hid hfn
  have hfl := hll f (List.mem_of_getElem? hf)
  rw [hfn] at hvz hzc hfl
  have hfn0 : 0 < fn := by rw [← hfn]; exact List.length_pos_iff.2 hz0
  have hat0 := hat
  have HNF := Lib.hid hnf
  rw [hnf] at hn0 hn1 hat hatl ⊢
  obtain ⟨W3, hW3⟩ : ∃ W3, ((w.alloc (.cells #[.slice (some ⟨bg, 0, none⟩) nf cf, .slice Ae m ce, .slice Ab k cb] 49)).alloc (.cells #[.int .i64 7, .int .i64 N, .int .i64 M, .string T] 26)).alloc (.cells #[.slice none 0 0, .slice none 0 0, .slice none 0 0] 49) = W3 := ⟨_, rfl⟩
  have hb3 : Below w.heap.size w W3 := by rw [← hW3]; exact (((Below.refl _ w).alloc (Nat.le_refl _) _).alloc (by simp) _).alloc (by simp; omega) _
  have r1 : Row W3 w.heap.size 49 [.slice (some ⟨bg, 0, none⟩) nf cf, .slice Ae m ce, .slice Ab k cb] := by rw [← hW3]; exact ((Row.new w _ _).alloc _).alloc _
  have r2 : Row W3 (w.heap.size + 1) 26 [.int .i64 7, .int .i64 N, .int .i64 M, .string T] := by
    have h := (Row.new (w.alloc (.cells #[.slice (some ⟨bg, 0, none⟩) nf cf, .slice Ae m ce, .slice Ab k cb] 49)) #[.int .i64 7, .int .i64 N, .int .i64 M, .string T] 26).alloc (.cells #[.slice none 0 0, .slice none 0 0, .slice none 0 0] 49)
    rw [World.size_alloc, hW3] at h
    exact h
  have r3 : Row W3 (w.heap.size + 1 + 1) 49 [.slice none 0 0, .slice none 0 0, .slice none 0 0] := by
    have h := Row.new ((w.alloc (.cells #[.slice (some ⟨bg, 0, none⟩) nf cf, .slice Ae m ce, .slice Ab k cb] 49)).alloc (.cells #[.int .i64 7, .int .i64 N, .int .i64 M, .string T] 26)) #[.slice none 0 0, .slice none 0 0, .slice none 0 0] 49
    rw [World.size_alloc, World.size_alloc, hW3] at h
    exact h
  have hs3 : w.heap.size + 3 ≤ W3.heap.size := by rw [← hW3]; simp
  have ho3 := own_below ho hb3
  have hF0 : FR W3 B (.slice (some ⟨bg, 0, none⟩) nf cf) fs := FR.below (W := w) ⟨vs, by have h := ho; rw [HNF.out] at h; rw [HNF.out]; exact h, he⟩ hb3
  have hg0 : W3.cell? ⟨bg, at', none⟩ = some (.slice (some ⟨bz, oz, none⟩) fn cz) := by
    have h1 := ho3.cells (g := bg) rfl at' _ hvz
    rw [addr_add, Nat.zero_add] at h1
    exact h1
  have hR3 := hRz.below hb3
  have a0 := r1.cell (j := 0) rfl
  have a1 := r1.cell (j := 1) rfl
  have a2 := r1.cell (j := 2) rfl
  have x0 := r2.cell (j := 0) rfl
  have x1 := r2.cell (j := 1) rfl
  have x2 := r2.cell (j := 2) rfl
  have hre := rest_any N nf W3 hn0 hn1 hN
  rw [hat] at hre
  have hia := ixa bg nf cf at' hatl
  have HAT := Lib.hid hat
  have HFF := Lib.hid hf
  have hvl2 : vs.length = nf := by have := ho.1; omega
  have hz5 := hz0
  by_cases hlast : at' + 1 < nf
  · obtain ⟨g, hg⟩ : ∃ g, fs[at' + 1]? = some g := ⟨_, List.getElem?_eq_getElem (by rw [HNF.out]; exact hlast)⟩
    obtain ⟨by', oy, cy, hvy, hyc, hy0, hRy, hyn⟩ := he (at' + 1) g hg
    obtain ⟨gn, hgn⟩ : ∃ gn, g.length = gn := ⟨_, rfl⟩
    have HGN := Lib.hid hgn
    have hgl2 := hll g (List.mem_of_getElem? hg)
    rw [hgn] at hvy hyc hgl2
    have hgn0 : 0 < gn := by rw [← hgn]; exact List.length_pos_iff.2 hy0
    have hzn : bz ≠ bg := by
      obtain ⟨b', o', c', k1, _, _, _, k5⟩ := he at' f hf
      rw [hvz] at k1
      cases k1
      intro e
      exact k5 (by rw [e]; simp [nb, Value.ownBlock])
    have hyn2 : by' ≠ bg := fun e => hyn (by rw [e]; simp [nb, Value.ownBlock])
    have hg1 : W3.cell? ⟨bg, at' + 1, none⟩ = some (.slice (some ⟨by', oy, none⟩) gn cy) := by
      have h1 := ho3.cells (g := bg) rfl (at' + 1) _ hvy
      rw [addr_add, Nat.zero_add] at h1
      exact h1
    have hgf : ∀ j, W3.frozen? ⟨bg, j, none⟩ = false := fun j => by
      rcases ho3.2 with ⟨hv, _⟩ | ⟨g, cap, cur, hv, hbg, hg, _⟩
      · cases hv
      · injection hv with h1 h2 h3
        injection h1 with h1
        injection h1 with h1
        subst h1
        exact frozen_of_row W3 bg j cur 22 hg
    have hnm1 : ∀ W, Below W3.heap.size W3 W → Calls Tryz.prog 41 #[.slice (some ⟨bz, oz, none⟩) fn cz] W fun e w' => e = .returned (.string (bs (nameL f))) ∧ Below W.heap.size W w' := fun W hW => name_any bz oz f fn cz W HFN.out (hR3.below hW) (by omega) (by omega) hfn0
    have hnm2 : ∀ W, Below W3.heap.size W3 W → Calls Tryz.prog 41 #[.slice (some ⟨by', oy, none⟩) gn cy] W fun e w' => e = .returned (.string (bs (nameL g))) ∧ Below W.heap.size W w' := fun W hW => name_any by' oy g gn cy W HGN.out ((hRy.below hb3).below hW) (by omega) (by omega) hgn0
    have hG3 := hG.below hb3
    have hn1l := nameL_len f
    rw [HFN.out] at hn1l
    have hsm : ∀ W, Below W3.heap.size W3 W → Calls Tryz.prog 43 #[.string (bs (nameL f)), .string (bs (nameL g))] W fun e w' => e = .returned (.bool (sameN (nameL f) (nameL g))) ∧ Below W.heap.size W w' := fun W hW => fsame3_any (nameL f) (nameL g) W (hG3.below hW).tabs (by omega)
    obtain ⟨q, hq⟩ : ∃ q, sameN (nameL f) (nameL g) = q := ⟨_, rfl⟩
    have HQ : Hid (swapL fs at' f = if q then fs else (fs.set at' g).set (at' + 1) f) := Lib.hid (by unfold swapL; rw [hg, ← hq])
    rw [hq] at hsm
    generalize nameL f = nm at hnm1 hsm
    generalize nameL g = nm2 at hnm2 hsm
    have hia2 : ∀ K W, (Instr.indexAt 47 (.slice (some ⟨bg, 0, none⟩) nf cf) (.int K ((at' : Int) + 1))).run Tryz.prog W = .ok (.pointer (some ⟨bg, at' + 1, none⟩)) W := fun K W => ixa bg nf cf (at' + 1) hlast K W
    have hlti : (at' : Int) + 1 < (nf : Int) := by omega
    have hwr : IntKind.i64.wrap ((at' : Int) + 1) = (at' : Int) + 1 := by rw [IntKind.wrap_i64]; omega
    have hdec : decide ((at' : Int) + 1 < (nf : Int)) = true := decide_eq_true hlti
    have hc : ∀ W, Below W3.heap.size W3 W → W.cell? ⟨w.heap.size, 0, none⟩ = some (.slice (some ⟨bg, 0, none⟩) nf cf) ∧ W.cell? ⟨bg, at' + 1, none⟩ = some (.slice (some ⟨by', oy, none⟩) gn cy) := fun W hW => ⟨(r1.below hW).cell (j := 0) rfl, (hW.cell (cell_lt hg1)).trans hg1⟩
    have HFZ := Lib.hid hgf
    have HRY := Lib.hid hRy
    have HRZ := Lib.hid hRz
    clear hnf hvz hvy hRv hvl hfn hat hat0 hf hg hgn hq hRz hRy hgf hz5 hia hn1l hgl2 hfl
    have hia := ixa bg nf cf at' hatl
    go_enter Tryz.func21, Tryz.ntmps21
    go_upto_region 1 with fail
    go_wp2_with fail
    refine hre.mono ?_
    rintro e w4 ⟨rfl, rfl⟩
    have hD4 : Below w4.heap.size w4 w4.drew := (Below.refl _ _).drew
    have HKD := Lib.hid (hc _ hD4)
    have HC := Lib.hid hc
    clear hc
    go_upto_region 12 with fail
    refine wp_region_held_drew (S := (fun w' => w'.cell? ⟨w.heap.size, 0, none⟩ = some (.slice (some ⟨bg, 0, none⟩) nf cf) ∧ w'.cell? ⟨bg, at' + 1, none⟩ = some (.slice (some ⟨by', oy, none⟩) gn cy))) (by kernel_rfl) (by first | exact HKD.out | exact HC.out _ (by with_reducible assumption)) (fun hHeld => ?_)
    first
    | (refine wpAnyH_take (i := 0) (v := ?_) rfl (by kernel_rfl) (by kernel_rfl) (by kernel_rfl) (fun _ _ _ h => h) (Or.inl ⟨by rfl, ?_⟩) (by assumption) ?_; rotate_left 1; (focus (intro w hSw; (try dsimp only at hSw); go_simp; (try with_reducible rfl))); (try simp only [Act.put, List.setIfInBounds_toArray, List.set_cons_zero, List.set_cons_succ, List.getElem_toArray, List.getElem_cons_zero, List.getElem_cons_succ]))
    | (refine wpAnyH_take (i := 0) (v := undef) rfl (by kernel_rfl) (by kernel_rfl) (by kernel_rfl) (fun _ _ _ h => h) (Or.inr ⟨by rfl, rfl⟩) (by assumption) ?_; (try simp only [Act.put, List.setIfInBounds_toArray, List.set_cons_zero, List.set_cons_succ, List.getElem_toArray, List.getElem_cons_zero, List.getElem_cons_succ]))
    first
    | (refine wpAnyH_take (i := 1) (v := ?_) rfl (by kernel_rfl) (by kernel_rfl) (by kernel_rfl) (fun _ _ _ h => h) (Or.inl ⟨by rfl, ?_⟩) (by assumption) ?_; rotate_left 1; (focus (intro w hSw; (try dsimp only at hSw); go_simp; (try with_reducible rfl))); (try simp only [Act.put, List.setIfInBounds_toArray, List.set_cons_zero, List.set_cons_succ, List.getElem_toArray, List.getElem_cons_zero, List.getElem_cons_succ]))
    | (refine wpAnyH_take (i := 1) (v := undef) rfl (by kernel_rfl) (by kernel_rfl) (by kernel_rfl) (fun _ _ _ h => h) (Or.inr ⟨by rfl, rfl⟩) (by assumption) ?_; (try simp only [Act.put, List.setIfInBounds_toArray, List.set_cons_zero, List.set_cons_succ, List.getElem_toArray, List.getElem_cons_zero, List.getElem_cons_succ]))
    first
    | (refine wpAnyH_take (i := 2) (v := ?_) rfl (by kernel_rfl) (by kernel_rfl) (by kernel_rfl) (fun _ _ _ h => h) (Or.inl ⟨by rfl, ?_⟩) (by assumption) ?_; rotate_left 1; (focus (intro w hSw; (try dsimp only at hSw); go_simp; (try with_reducible rfl))); (try simp only [Act.put, List.setIfInBounds_toArray, List.set_cons_zero, List.set_cons_succ, List.getElem_toArray, List.getElem_cons_zero, List.getElem_cons_succ]))
    | (refine wpAnyH_take (i := 2) (v := undef) rfl (by kernel_rfl) (by kernel_rfl) (by kernel_rfl) (fun _ _ _ h => h) (Or.inr ⟨by rfl, rfl⟩) (by assumption) ?_; (try simp only [Act.put, List.setIfInBounds_toArray, List.set_cons_zero, List.set_cons_succ, List.getElem_toArray, List.getElem_cons_zero, List.getElem_cons_succ]))
    first
    | (refine wpAnyH_take (i := 3) (v := ?_) rfl (by kernel_rfl) (by kernel_rfl) (by kernel_rfl) (fun _ _ _ h => h) (Or.inl ⟨by rfl, ?_⟩) (by assumption) ?_; rotate_left 1; (focus (intro w hSw; (try dsimp only at hSw); go_simp; (try with_reducible rfl))); (try simp only [Act.put, List.setIfInBounds_toArray, List.set_cons_zero, List.set_cons_succ, List.getElem_toArray, List.getElem_cons_zero, List.getElem_cons_succ]))
    | (refine wpAnyH_take (i := 3) (v := undef) rfl (by kernel_rfl) (by kernel_rfl) (by kernel_rfl) (fun _ _ _ h => h) (Or.inr ⟨by rfl, rfl⟩) (by assumption) ?_; (try simp only [Act.put, List.setIfInBounds_toArray, List.set_cons_zero, List.set_cons_succ, List.getElem_toArray, List.getElem_cons_zero, List.getElem_cons_succ]))
    first
    | (refine wpAnyH_take (i := 4) (v := ?_) rfl (by kernel_rfl) (by kernel_rfl) (by kernel_rfl) (fun _ _ _ h => h) (Or.inl ⟨by rfl, ?_⟩) (by assumption) ?_; rotate_left 1; (focus (intro w hSw; (try dsimp only at hSw); go_simp; (try with_reducible rfl))); (try simp only [Act.put, List.setIfInBounds_toArray, List.set_cons_zero, List.set_cons_succ, List.getElem_toArray, List.getElem_cons_zero, List.getElem_cons_succ]))
    | (refine wpAnyH_take (i := 4) (v := undef) rfl (by kernel_rfl) (by kernel_rfl) (by kernel_rfl) (fun _ _ _ h => h) (Or.inr ⟨by rfl, rfl⟩) (by assumption) ?_; (try simp only [Act.put, List.setIfInBounds_toArray, List.set_cons_zero, List.set_cons_succ, List.getElem_toArray, List.getElem_cons_zero, List.getElem_cons_succ]))
    first
    | (refine wpAnyH_take (i := 5) (v := ?_) rfl (by kernel_rfl) (by kernel_rfl) (by kernel_rfl) (fun _ _ _ h => h) (Or.inl ⟨by rfl, ?_⟩) (by assumption) ?_; rotate_left 1; (focus (intro w hSw; (try dsimp only at hSw); go_simp; (try with_reducible rfl))); (try simp only [Act.put, List.setIfInBounds_toArray, List.set_cons_zero, List.set_cons_succ, List.getElem_toArray, List.getElem_cons_zero, List.getElem_cons_succ]))
    | (refine wpAnyH_take (i := 5) (v := undef) rfl (by kernel_rfl) (by kernel_rfl) (by kernel_rfl) (fun _ _ _ h => h) (Or.inr ⟨by rfl, rfl⟩) (by assumption) ?_; (try simp only [Act.put, List.setIfInBounds_toArray, List.set_cons_zero, List.set_cons_succ, List.getElem_toArray, List.getElem_cons_zero, List.getElem_cons_succ]))
    first
    | (refine wpAnyH_take (i := 6) (v := ?_) rfl (by kernel_rfl) (by kernel_rfl) (by kernel_rfl) (fun _ _ _ h => h) (Or.inl ⟨by rfl, ?_⟩) (by assumption) ?_; rotate_left 1; (focus (intro w hSw; (try dsimp only at hSw); go_simp; (try with_reducible rfl))); (try simp only [Act.put, List.setIfInBounds_toArray, List.set_cons_zero, List.set_cons_succ, List.getElem_toArray, List.getElem_cons_zero, List.getElem_cons_succ]))
    | (refine wpAnyH_take (i := 6) (v := undef) rfl (by kernel_rfl) (by kernel_rfl) (by kernel_rfl) (fun _ _ _ h => h) (Or.inr ⟨by rfl, rfl⟩) (by assumption) ?_; (try simp only [Act.put, List.setIfInBounds_toArray, List.set_cons_zero, List.set_cons_succ, List.getElem_toArray, List.getElem_cons_zero, List.getElem_cons_succ]))
    first
    | (refine wpAnyH_take (i := 7) (v := ?_) rfl (by kernel_rfl) (by kernel_rfl) (by kernel_rfl) (fun _ _ _ h => h) (Or.inl ⟨by rfl, ?_⟩) (by assumption) ?_; rotate_left 1; (focus (intro w hSw; (try dsimp only at hSw); go_simp; (try with_reducible rfl))); (try simp only [Act.put, List.setIfInBounds_toArray, List.set_cons_zero, List.set_cons_succ, List.getElem_toArray, List.getElem_cons_zero, List.getElem_cons_succ]))
    | (refine wpAnyH_take (i := 7) (v := undef) rfl (by kernel_rfl) (by kernel_rfl) (by kernel_rfl) (fun _ _ _ h => h) (Or.inr ⟨by rfl, rfl⟩) (by assumption) ?_; (try simp only [Act.put, List.setIfInBounds_toArray, List.set_cons_zero, List.set_cons_succ, List.getElem_toArray, List.getElem_cons_zero, List.getElem_cons_succ]))
    first
    | (refine wpAnyH_take (i := 9) (v := ?_) rfl (by kernel_rfl) (by kernel_rfl) (by kernel_rfl) (fun _ _ _ h => h) (Or.inl ⟨by rfl, ?_⟩) (by assumption) ?_; rotate_left 1; (focus (intro w hSw; (try dsimp only at hSw); go_simp; (try with_reducible rfl))); (try simp only [Act.put, List.setIfInBounds_toArray, List.set_cons_zero, List.set_cons_succ, List.getElem_toArray, List.getElem_cons_zero, List.getElem_cons_succ]))
    | (refine wpAnyH_take (i := 9) (v := undef) rfl (by kernel_rfl) (by kernel_rfl) (by kernel_rfl) (fun _ _ _ h => h) (Or.inr ⟨by rfl, rfl⟩) (by assumption) ?_; (try simp only [Act.put, List.setIfInBounds_toArray, List.set_cons_zero, List.set_cons_succ, List.getElem_toArray, List.getElem_cons_zero, List.getElem_cons_succ]))
    first
    | (refine wpAnyH_take (i := 10) (v := ?_) rfl (by kernel_rfl) (by kernel_rfl) (by kernel_rfl) (fun _ _ _ h => h) (Or.inl ⟨by rfl, ?_⟩) (by assumption) ?_; rotate_left 1; (focus (intro w hSw; (try dsimp only at hSw); go_simp; (try with_reducible rfl))); (try simp only [Act.put, List.setIfInBounds_toArray, List.set_cons_zero, List.set_cons_succ, List.getElem_toArray, List.getElem_cons_zero, List.getElem_cons_succ]))
    | (refine wpAnyH_take (i := 10) (v := undef) rfl (by kernel_rfl) (by kernel_rfl) (by kernel_rfl) (fun _ _ _ h => h) (Or.inr ⟨by rfl, rfl⟩) (by assumption) ?_; (try simp only [Act.put, List.setIfInBounds_toArray, List.set_cons_zero, List.set_cons_succ, List.getElem_toArray, List.getElem_cons_zero, List.getElem_cons_succ]))
    first
    | (refine wpAnyH_take (i := 11) (v := ?_) rfl (by kernel_rfl) (by kernel_rfl) (by kernel_rfl) (fun _ _ _ h => h) (Or.inl ⟨by rfl, ?_⟩) (by assumption) ?_; rotate_left 1; (focus (intro w hSw; (try dsimp only at hSw); go_simp; (try with_reducible rfl))); (try simp only [Act.put, List.setIfInBounds_toArray, List.set_cons_zero, List.set_cons_succ, List.getElem_toArray, List.getElem_cons_zero, List.getElem_cons_succ]))
    | (refine wpAnyH_take (i := 11) (v := undef) rfl (by kernel_rfl) (by kernel_rfl) (by kernel_rfl) (fun _ _ _ h => h) (Or.inr ⟨by rfl, rfl⟩) (by assumption) ?_; (try simp only [Act.put, List.setIfInBounds_toArray, List.set_cons_zero, List.set_cons_succ, List.getElem_toArray, List.getElem_cons_zero, List.getElem_cons_succ]))
    first
    | (refine wpAnyH_take (i := 12) (v := ?_) rfl (by kernel_rfl) (by kernel_rfl) (by kernel_rfl) (fun _ _ _ h => h) (Or.inl ⟨by rfl, ?_⟩) (by assumption) ?_; rotate_left 1; (focus (intro w hSw; (try dsimp only at hSw); go_simp; (try with_reducible rfl))); (try simp only [Act.put, List.setIfInBounds_toArray, List.set_cons_zero, List.set_cons_succ, List.getElem_toArray, List.getElem_cons_zero, List.getElem_cons_succ]))
    | (refine wpAnyH_take (i := 12) (v := undef) rfl (by kernel_rfl) (by kernel_rfl) (by kernel_rfl) (fun _ _ _ h => h) (Or.inr ⟨by rfl, rfl⟩) (by assumption) ?_; (try simp only [Act.put, List.setIfInBounds_toArray, List.set_cons_zero, List.set_cons_succ, List.getElem_toArray, List.getElem_cons_zero, List.getElem_cons_succ]))
    first
    | (refine wpAnyH_take (i := 13) (v := ?_) rfl (by kernel_rfl) (by kernel_rfl) (by kernel_rfl) (fun _ _ _ h => h) (Or.inl ⟨by rfl, ?_⟩) (by assumption) ?_; rotate_left 1; (focus (intro w hSw; (try dsimp only at hSw); go_simp; (try with_reducible rfl))); (try simp only [Act.put, List.setIfInBounds_toArray, List.set_cons_zero, List.set_cons_succ, List.getElem_toArray, List.getElem_cons_zero, List.getElem_cons_succ]))
    | (refine wpAnyH_take (i := 13) (v := undef) rfl (by kernel_rfl) (by kernel_rfl) (by kernel_rfl) (fun _ _ _ h => h) (Or.inr ⟨by rfl, rfl⟩) (by assumption) ?_; (try simp only [Act.put, List.setIfInBounds_toArray, List.set_cons_zero, List.set_cons_succ, List.getElem_toArray, List.getElem_cons_zero, List.getElem_cons_succ]))
    first
    | (refine wpAnyH_take (i := 14) (v := ?_) rfl (by kernel_rfl) (by kernel_rfl) (by kernel_rfl) (fun _ _ _ h => h) (Or.inl ⟨by rfl, ?_⟩) (by assumption) ?_; rotate_left 1; (focus (intro w hSw; (try dsimp only at hSw); go_simp; (try with_reducible rfl))); (try simp only [Act.put, List.setIfInBounds_toArray, List.set_cons_zero, List.set_cons_succ, List.getElem_toArray, List.getElem_cons_zero, List.getElem_cons_succ]))
    | (refine wpAnyH_take (i := 14) (v := undef) rfl (by kernel_rfl) (by kernel_rfl) (by kernel_rfl) (fun _ _ _ h => h) (Or.inr ⟨by rfl, rfl⟩) (by assumption) ?_; (try simp only [Act.put, List.setIfInBounds_toArray, List.set_cons_zero, List.set_cons_succ, List.getElem_toArray, List.getElem_cons_zero, List.getElem_cons_succ]))
    refine wpAnyH_ready (rs := [8]) (by kernel_rfl) (by simp) ?_
    refine AllReadyH.cons rfl (fun K hK => ?_) AllReadyH.nil
    go_simp
    first
    | (refine hK.out _ _ hHeld (fun hHeld => ?_))
    | (go_wp2_with (first | (go_at_call 41; (with_reducible refine (hnm1 _ hD4).mono ?_); rintro e y1 ⟨rfl, hy1'⟩; have hy1 := hD4.trans (hy1'.mono hD4.size)) | (go_at_call 41; (with_reducible refine (hnm2 _ hy1).mono ?_); rintro e y2 ⟨rfl, hy2'⟩; have hy2 := hy1.trans (hy2'.mono hy1.size)) | (go_at_call 43; (with_reducible refine (hsm _ hy2).mono ?_); rintro e y3 ⟨rfl, hy3'⟩; have hy3 := hy2.trans (hy3'.mono hy2.size))); refine hK.out _ _ (by first | exact HKD.out | exact HC.out _ (by with_reducible assumption)) (fun hHeld => ?_))
    clear hK K
    (try simp only [Act.put, List.setIfInBounds_toArray, List.set_cons_zero, List.set_cons_succ, List.getElem_toArray, List.getElem_cons_zero, List.getElem_cons_succ])
    refine wpAnyH_ready (rs := [15]) (by kernel_rfl) (by simp) ?_
    refine AllReadyH.cons rfl (fun K hK => ?_) AllReadyH.nil
    go_simp
    first
    | (refine hK.out _ _ hHeld (fun hHeld => ?_))
    | (go_wp2_with (first | (go_at_call 41; (with_reducible refine (hnm1 _ hD4).mono ?_); rintro e y1 ⟨rfl, hy1'⟩; have hy1 := hD4.trans (hy1'.mono hD4.size)) | (go_at_call 41; (with_reducible refine (hnm2 _ hy1).mono ?_); rintro e y2 ⟨rfl, hy2'⟩; have hy2 := hy1.trans (hy2'.mono hy1.size)) | (go_at_call 43; (with_reducible refine (hsm _ hy2).mono ?_); rintro e y3 ⟨rfl, hy3'⟩; have hy3 := hy2.trans (hy3'.mono hy2.size))); refine hK.out _ _ (by first | exact HKD.out | exact HC.out _ (by with_reducible assumption)) (fun hHeld => ?_))
    clear hK K
    (try simp only [Act.put, List.setIfInBounds_toArray, List.set_cons_zero, List.set_cons_succ, List.getElem_toArray, List.getElem_cons_zero, List.getElem_cons_succ])
    refine wpAnyH_ready (rs := [16]) (by kernel_rfl) (by simp) ?_
    refine AllReadyH.cons rfl (fun K hK => ?_) AllReadyH.nil
    go_simp
    first
    | (refine hK.out _ _ hHeld (fun hHeld => ?_))
    | (go_wp2_with (first | (go_at_call 41; (with_reducible refine (hnm1 _ hD4).mono ?_); rintro e y1 ⟨rfl, hy1'⟩; have hy1 := hD4.trans (hy1'.mono hD4.size)) | (go_at_call 41; (with_reducible refine (hnm2 _ hy1).mono ?_); rintro e y2 ⟨rfl, hy2'⟩; have hy2 := hy1.trans (hy2'.mono hy1.size)) | (go_at_call 43; (with_reducible refine (hsm _ hy2).mono ?_); rintro e y3 ⟨rfl, hy3'⟩; have hy3 := hy2.trans (hy3'.mono hy2.size))); refine hK.out _ _ (by first | exact HKD.out | exact HC.out _ (by with_reducible assumption)) (fun hHeld => ?_))
    clear hK K
    (try simp only [Act.put, List.setIfInBounds_toArray, List.set_cons_zero, List.set_cons_succ, List.getElem_toArray, List.getElem_cons_zero, List.getElem_cons_succ])
    first
    | (refine wpAnyH_take (i := 17) (v := ?_) rfl (by kernel_rfl) (by kernel_rfl) (by kernel_rfl) (fun _ _ _ h => h) (Or.inl ⟨by rfl, ?_⟩) (by assumption) ?_; rotate_left 1; (focus (intro w hSw; (try dsimp only at hSw); go_simp; (try with_reducible rfl))); (try simp only [Act.put, List.setIfInBounds_toArray, List.set_cons_zero, List.set_cons_succ, List.getElem_toArray, List.getElem_cons_zero, List.getElem_cons_succ]))
    | (refine wpAnyH_take (i := 17) (v := undef) rfl (by kernel_rfl) (by kernel_rfl) (by kernel_rfl) (fun _ _ _ h => h) (Or.inr ⟨by rfl, rfl⟩) (by assumption) ?_; (try simp only [Act.put, List.setIfInBounds_toArray, List.set_cons_zero, List.set_cons_succ, List.getElem_toArray, List.getElem_cons_zero, List.getElem_cons_succ]))
    first
    | (refine wpAnyH_take (i := 18) (v := ?_) rfl (by kernel_rfl) (by kernel_rfl) (by kernel_rfl) (fun _ _ _ h => h) (Or.inl ⟨by rfl, ?_⟩) (by assumption) ?_; rotate_left 1; (focus (intro w hSw; (try dsimp only at hSw); go_simp; (try with_reducible rfl))); (try simp only [Act.put, List.setIfInBounds_toArray, List.set_cons_zero, List.set_cons_succ, List.getElem_toArray, List.getElem_cons_zero, List.getElem_cons_succ]))
    | (refine wpAnyH_take (i := 18) (v := undef) rfl (by kernel_rfl) (by kernel_rfl) (by kernel_rfl) (fun _ _ _ h => h) (Or.inr ⟨by rfl, rfl⟩) (by assumption) ?_; (try simp only [Act.put, List.setIfInBounds_toArray, List.set_cons_zero, List.set_cons_succ, List.getElem_toArray, List.getElem_cons_zero, List.getElem_cons_succ]))
    refine wpAnyH_done (by kernel_rfl) ?_ _
    have hn12 : bg ≠ w.heap.size ∧ bg ≠ w.heap.size + 1 + 1 := by omega
    have p1 := r1.below hy3
    have p3 := r3.below hy3
    have F3' := hF0.below hy3
    have B3' : Below B w y3 := (hb3.trans (hy3.mono hb3.size)).mono hB
    cases q with
    | true =>
      have F6 := F3'
      have B6 := B3'
      obtain ⟨w6, rfl⟩ : ∃ w6, w6 = y3 := ⟨_, rfl⟩
      go_upto_region 19 with fail
      have t0 := p1.cell (j := 0) rfl
      have t1 := p1.cell (j := 1) rfl
      have t2 := p1.cell (j := 2) rfl
      have s0 := p3.cell (j := 0) rfl
      have s1 := p3.cell (j := 1) rfl
      have s2 := p3.cell (j := 2) rfl
      have z0 := p3.frozen 0
      have z1 := p3.frozen 1
      have z2 := p3.frozen 2
      have n0 : ∀ v ∈ ([.slice none 0 0, .slice none 0 0, .slice none 0 0] : List Value), ∀ x : UInt8, v ≠ bv x := by
        intro v hv x e
        simp only [List.mem_cons, List.not_mem_nil, or_false, or_self] at hv
        subst hv
        cases e
      have n1 : ∀ v ∈ ([.slice (some ⟨bg, 0, none⟩) nf cf, .slice none 0 0, .slice none 0 0] : List Value), ∀ x : UInt8, v ≠ bv x := by
        intro v hv x e
        simp only [List.mem_cons, List.not_mem_nil, or_false, or_self] at hv
        rcases hv with rfl | rfl <;> cases e
      have n2 : ∀ v ∈ ([.slice (some ⟨bg, 0, none⟩) nf cf, .slice Ae m ce, .slice none 0 0] : List Value), ∀ x : UInt8, v ≠ bv x := by
        intro v hv x e
        simp only [List.mem_cons, List.not_mem_nil, or_false] at hv
        rcases hv with rfl | rfl | rfl <;> cases e
      have hgn : ¬ nb (.slice (some ⟨bg, 0, none⟩) nf cf) (w.heap.size + 1 + 1) := by
        intro e
        simp [nb, Value.ownBlock] at e
        omega
      have p4 := p3.set 0 (.slice (some ⟨bg, 0, none⟩) nf cf)
      have p5 := p4.set 1 (.slice Ae m ce)
      have p6 := p5.set 2 (.slice Ab k cb)
      have F9 := ((F6.setRow2 p3 n0 hgn 0 (.slice (some ⟨bg, 0, none⟩) nf cf)).setRow2 p4 n1 hgn 1 (.slice Ae m ce)).setRow2 p5 n2 hgn 2 (.slice Ab k cb)
      have B9 := ((B6.setCell (p := ⟨w.heap.size + 1 + 1, 0, none⟩) (by show B ≤ w.heap.size + 1 + 1; omega) (.slice (some ⟨bg, 0, none⟩) nf cf)).setCell (p := ⟨w.heap.size + 1 + 1, 1, none⟩) (by show B ≤ w.heap.size + 1 + 1; omega) (.slice Ae m ce)).setCell (p := ⟨w.heap.size + 1 + 1, 2, none⟩) (by show B ≤ w.heap.size + 1 + 1; omega) (.slice Ab k cb)
      go_wp2_with fail
      obtain ⟨W9, hW9⟩ : ∃ W9, ((w6.setCell ⟨w.heap.size + 1 + 1, 0, none⟩ (.slice (some ⟨bg, 0, none⟩) nf cf)).setCell ⟨w.heap.size + 1 + 1, 1, none⟩ (.slice Ae m ce)).setCell ⟨w.heap.size + 1 + 1, 2, none⟩ (.slice Ab k cb) = W9 := ⟨_, rfl⟩
      rw [hW9] at p6 F9 B9 ⊢
      have e0 := p6.cell (j := 0) rfl
      have e1 := p6.cell (j := 1) rfl
      have e2 := p6.cell (j := 2) rfl
      exact bodyPost_ret (v := .agg #[.slice (some ⟨bg, 0, none⟩) nf cf, .slice Ae m ce, .slice Ab k cb]) (by simp [results, Tryz.results21, go_sem, e0, e1, e2]) rfl ⟨⟨at', HAT.out, f, HFF.out, rfl, by rw [HQ.out]; exact F9⟩, B9⟩
    | false =>
      have t0 := p1.cell (j := 0) rfl
      have g1' : y3.cell? ⟨bg, at' + 1, none⟩ = some (.slice (some ⟨by', oy, none⟩) gn cy) := (hy3.cell (cell_lt hg1)).trans hg1
      have g0' : y3.cell? ⟨bg, at', none⟩ = some (.slice (some ⟨bz, oz, none⟩) fn cz) := (hy3.cell (cell_lt hg0)).trans hg0
      have gz0 : y3.frozen? ⟨bg, at', none⟩ = false := (hy3.frozen (p := ⟨bg, at', none⟩) (cell_lt hg0)).trans (HFZ.out _)
      have gz1 : y3.frozen? ⟨bg, at' + 1, none⟩ = false := (hy3.frozen (p := ⟨bg, at' + 1, none⟩) (cell_lt hg0)).trans (HFZ.out _)
      have hia := ixa bg nf cf at' hatl
      go_upto_region 13 with fail
      go_region
      have F4 := FR.setAt (l := g) F3' HNF.out hatl (by rw [HGN.out]; exact hyc) hy0 ((HRY.out.below hb3).below hy3) hyn2
      rw [HGN.out] at F4
      have F5 := FR.setAt (l := f) (a := at' + 1) F4 (by rw [List.length_set]; exact HNF.out) hlast (by rw [HFN.out]; exact hzc) hz0 (Rb.setFar ((HRZ.out.below hb3).below hy3) (by show bg ≠ bz; exact fun e => hzn e.symm) _) hzn
      rw [HFN.out] at F5
      have F6 : FR ((y3.setCell ⟨bg, at', none⟩ (.slice (some ⟨by', oy, none⟩) gn cy)).setCell ⟨bg, at' + 1, none⟩ (.slice (some ⟨bz, oz, none⟩) fn cz)).drew B (.slice (some ⟨bg, 0, none⟩) nf cf) ((fs.set at' g).set (at' + 1) f) := FR.ext (S := fun _ => False) F5 ⟨rfl, rfl, rfl, Nat.le_refl _, fun _ _ _ => rfl⟩ (fun _ _ h => h) (fun _ _ _ _ _ _ h => h)
      have B6 := ((B3'.setCell (p := ⟨bg, at', none⟩) hgb (.slice (some ⟨by', oy, none⟩) gn cy)).setCell (p := ⟨bg, at' + 1, none⟩) hgb (.slice (some ⟨bz, oz, none⟩) fn cz)).drew
      have p1 : Row ((y3.setCell ⟨bg, at', none⟩ (.slice (some ⟨by', oy, none⟩) gn cy)).setCell ⟨bg, at' + 1, none⟩ (.slice (some ⟨bz, oz, none⟩) fn cz)).drew w.heap.size 49 [.slice (some ⟨bg, 0, none⟩) nf cf, .slice Ae m ce, .slice Ab k cb] := (p1.far (a := ⟨bg, at', none⟩) (by show bg ≠ w.heap.size; omega) _).far (a := ⟨bg, at' + 1, none⟩) (by show bg ≠ w.heap.size; omega) _
      have p3 : Row ((y3.setCell ⟨bg, at', none⟩ (.slice (some ⟨by', oy, none⟩) gn cy)).setCell ⟨bg, at' + 1, none⟩ (.slice (some ⟨bz, oz, none⟩) fn cz)).drew (w.heap.size + 1 + 1) 49 [.slice none 0 0, .slice none 0 0, .slice none 0 0] := (p3.far (a := ⟨bg, at', none⟩) (by show bg ≠ w.heap.size + 1 + 1; omega) _).far (a := ⟨bg, at' + 1, none⟩) (by show bg ≠ w.heap.size + 1 + 1; omega) _
      obtain ⟨w6, hw6⟩ : ∃ w6, ((y3.setCell ⟨bg, at', none⟩ (.slice (some ⟨by', oy, none⟩) gn cy)).setCell ⟨bg, at' + 1, none⟩ (.slice (some ⟨bz, oz, none⟩) fn cz)).drew = w6 := ⟨_, rfl⟩
      rw [hw6] at F6 B6 p1 p3 ⊢
      clear hw6 F4 F5 t0 g1' g0' gz0 gz1
      go_upto_region 19 with fail
      have t0 := p1.cell (j := 0) rfl
      have t1 := p1.cell (j := 1) rfl
      have t2 := p1.cell (j := 2) rfl
      have s0 := p3.cell (j := 0) rfl
      have s1 := p3.cell (j := 1) rfl
      have s2 := p3.cell (j := 2) rfl
      have z0 := p3.frozen 0
      have z1 := p3.frozen 1
      have z2 := p3.frozen 2
      have n0 : ∀ v ∈ ([.slice none 0 0, .slice none 0 0, .slice none 0 0] : List Value), ∀ x : UInt8, v ≠ bv x := by
        intro v hv x e
        simp only [List.mem_cons, List.not_mem_nil, or_false, or_self] at hv
        subst hv
        cases e
      have n1 : ∀ v ∈ ([.slice (some ⟨bg, 0, none⟩) nf cf, .slice none 0 0, .slice none 0 0] : List Value), ∀ x : UInt8, v ≠ bv x := by
        intro v hv x e
        simp only [List.mem_cons, List.not_mem_nil, or_false, or_self] at hv
        rcases hv with rfl | rfl <;> cases e
      have n2 : ∀ v ∈ ([.slice (some ⟨bg, 0, none⟩) nf cf, .slice Ae m ce, .slice none 0 0] : List Value), ∀ x : UInt8, v ≠ bv x := by
        intro v hv x e
        simp only [List.mem_cons, List.not_mem_nil, or_false] at hv
        rcases hv with rfl | rfl | rfl <;> cases e
      have hgn : ¬ nb (.slice (some ⟨bg, 0, none⟩) nf cf) (w.heap.size + 1 + 1) := by
        intro e
        simp [nb, Value.ownBlock] at e
        omega
      have p4 := p3.set 0 (.slice (some ⟨bg, 0, none⟩) nf cf)
      have p5 := p4.set 1 (.slice Ae m ce)
      have p6 := p5.set 2 (.slice Ab k cb)
      have F9 := ((F6.setRow2 p3 n0 hgn 0 (.slice (some ⟨bg, 0, none⟩) nf cf)).setRow2 p4 n1 hgn 1 (.slice Ae m ce)).setRow2 p5 n2 hgn 2 (.slice Ab k cb)
      have B9 := ((B6.setCell (p := ⟨w.heap.size + 1 + 1, 0, none⟩) (by show B ≤ w.heap.size + 1 + 1; omega) (.slice (some ⟨bg, 0, none⟩) nf cf)).setCell (p := ⟨w.heap.size + 1 + 1, 1, none⟩) (by show B ≤ w.heap.size + 1 + 1; omega) (.slice Ae m ce)).setCell (p := ⟨w.heap.size + 1 + 1, 2, none⟩) (by show B ≤ w.heap.size + 1 + 1; omega) (.slice Ab k cb)
      go_wp2_with fail
      obtain ⟨W9, hW9⟩ : ∃ W9, ((w6.setCell ⟨w.heap.size + 1 + 1, 0, none⟩ (.slice (some ⟨bg, 0, none⟩) nf cf)).setCell ⟨w.heap.size + 1 + 1, 1, none⟩ (.slice Ae m ce)).setCell ⟨w.heap.size + 1 + 1, 2, none⟩ (.slice Ab k cb) = W9 := ⟨_, rfl⟩
      rw [hW9] at p6 F9 B9 ⊢
      have e0 := p6.cell (j := 0) rfl
      have e1 := p6.cell (j := 1) rfl
      have e2 := p6.cell (j := 2) rfl
      exact bodyPost_ret (v := .agg #[.slice (some ⟨bg, 0, none⟩) nf cf, .slice Ae m ce, .slice Ab k cb]) (by simp [results, Tryz.results21, go_sem, e0, e1, e2]) rfl ⟨⟨at', HAT.out, f, HFF.out, rfl, by rw [HQ.out]; exact F9⟩, B9⟩
  · have hE : Hid (swapL fs at' f = fs) := Lib.hid (by unfold swapL; rw [List.getElem?_eq_none (by rw [HNF.out]; omega)])
    have hlti : ¬ ((at' : Int) + 1 < (nf : Int)) := by omega
    have hwr : IntKind.i64.wrap ((at' : Int) + 1) = (at' : Int) + 1 := by rw [IntKind.wrap_i64]; omega
    have hdec : decide ((at' : Int) + 1 < (nf : Int)) = false := decide_eq_false hlti
    clear hnf hvz hRv hvl hfn hat hat0 hf hRz hz5 hfl hlast
    go_enter Tryz.func21, Tryz.ntmps21
    go_upto_region 1 with fail
    go_wp2_with fail
    refine hre.mono ?_
    rintro e w4 ⟨rfl, rfl⟩
    go_upto_region 12 with fail
    go_quiet (fail)
    rename_i nq
    have hDn : Below w4.heap.size w4 (w4.drewN nq) := (Dn.of w4 nq).below _
    have p1 := r1.below hDn
    have p3 := r3.below hDn
    have F6 := hF0.below hDn
    have B6 : Below B w (w4.drewN nq) := (hb3.trans (hDn.mono hb3.size)).mono hB
    obtain ⟨w6, hw6⟩ : ∃ w6, w4.drewN nq = w6 := ⟨_, rfl⟩
    rw [hw6] at p1 p3 F6 B6 ⊢
    clear hw6 hDn
    go_upto_region 19 with fail
    have t0 := p1.cell (j := 0) rfl
    have t1 := p1.cell (j := 1) rfl
    have t2 := p1.cell (j := 2) rfl
    have s0 := p3.cell (j := 0) rfl
    have s1 := p3.cell (j := 1) rfl
    have s2 := p3.cell (j := 2) rfl
    have z0 := p3.frozen 0
    have z1 := p3.frozen 1
    have z2 := p3.frozen 2
    have n0 : ∀ v ∈ ([.slice none 0 0, .slice none 0 0, .slice none 0 0] : List Value), ∀ x : UInt8, v ≠ bv x := by
      intro v hv x e
      simp only [List.mem_cons, List.not_mem_nil, or_false, or_self] at hv
      subst hv
      cases e
    have n1 : ∀ v ∈ ([.slice (some ⟨bg, 0, none⟩) nf cf, .slice none 0 0, .slice none 0 0] : List Value), ∀ x : UInt8, v ≠ bv x := by
      intro v hv x e
      simp only [List.mem_cons, List.not_mem_nil, or_false, or_self] at hv
      rcases hv with rfl | rfl <;> cases e
    have n2 : ∀ v ∈ ([.slice (some ⟨bg, 0, none⟩) nf cf, .slice Ae m ce, .slice none 0 0] : List Value), ∀ x : UInt8, v ≠ bv x := by
      intro v hv x e
      simp only [List.mem_cons, List.not_mem_nil, or_false] at hv
      rcases hv with rfl | rfl | rfl <;> cases e
    have hgn : ¬ nb (.slice (some ⟨bg, 0, none⟩) nf cf) (w.heap.size + 1 + 1) := by
      intro e
      simp [nb, Value.ownBlock] at e
      omega
    have p4 := p3.set 0 (.slice (some ⟨bg, 0, none⟩) nf cf)
    have p5 := p4.set 1 (.slice Ae m ce)
    have p6 := p5.set 2 (.slice Ab k cb)
    have F9 := ((F6.setRow2 p3 n0 hgn 0 (.slice (some ⟨bg, 0, none⟩) nf cf)).setRow2 p4 n1 hgn 1 (.slice Ae m ce)).setRow2 p5 n2 hgn 2 (.slice Ab k cb)
    have B9 := ((B6.setCell (p := ⟨w.heap.size + 1 + 1, 0, none⟩) (by show B ≤ w.heap.size + 1 + 1; omega) (.slice (some ⟨bg, 0, none⟩) nf cf)).setCell (p := ⟨w.heap.size + 1 + 1, 1, none⟩) (by show B ≤ w.heap.size + 1 + 1; omega) (.slice Ae m ce)).setCell (p := ⟨w.heap.size + 1 + 1, 2, none⟩) (by show B ≤ w.heap.size + 1 + 1; omega) (.slice Ab k cb)
    go_wp2_with fail
    obtain ⟨W9, hW9⟩ : ∃ W9, ((w6.setCell ⟨w.heap.size + 1 + 1, 0, none⟩ (.slice (some ⟨bg, 0, none⟩) nf cf)).setCell ⟨w.heap.size + 1 + 1, 1, none⟩ (.slice Ae m ce)).setCell ⟨w.heap.size + 1 + 1, 2, none⟩ (.slice Ab k cb) = W9 := ⟨_, rfl⟩
    rw [hW9] at p6 F9 B9 ⊢
    have e0 := p6.cell (j := 0) rfl
    have e1 := p6.cell (j := 1) rfl
    have e2 := p6.cell (j := 2) rfl
    exact bodyPost_ret (v := .agg #[.slice (some ⟨bg, 0, none⟩) nf cf, .slice Ae m ce, .slice Ab k cb]) (by simp [results, Tryz.results21, go_sem, e0, e1, e2]) rfl ⟨⟨at', HAT.out, f, HFF.out, rfl, by rw [hE.out]; exact F9⟩, B9⟩
end Go.Proofs.YtcagkoakbdbbaaaGreatDoor
