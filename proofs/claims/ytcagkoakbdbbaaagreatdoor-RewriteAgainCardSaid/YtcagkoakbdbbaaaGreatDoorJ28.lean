/- The program's armored: it tells something of any mail. · The program's change at a kind that changes nothing. -/
import Derived.Test.YtcagkoakbdbbaaaGreatDoorJ24
import Derived.Test.YtcagkoakbdbbaaaGreatDoorJ27
namespace Go.Proofs.YtcagkoakbdbbaaaGreatDoor
set_option linter.unusedVariables false
set_option linter.unusedSimpArgs false
open Go.RowKit

/-- the code field's name -/
def cteC : List UInt8 := [67, 111, 110, 116, 101, 110, 116, 45, 84, 114, 97, 110, 115, 102, 101, 114, 45, 69, 110, 99, 111, 100, 105, 110, 103]
theorem nameL_lt {f : List UInt8} (h : nameL f ≠ []) : (nameL f).length + 1 ≤ f.length := by
  unfold nameL at *
  cases hc : cutAt 58 (textL ((fl f).headD [])) with
  | none => rw [hc] at h; exact absurd rfl h
  | some p =>
    have h1 := (cutAt_some (a := p.1) (b := p.2) (by rw [hc])).1
    have h2 := congrArg List.length h1
    rw [List.length_append, List.length_cons] at h2
    have h3 := textL_len ((fl f).headD [])
    have h4 : ((fl f).headD []).length ≤ f.length := by
      cases hf : fl f with
      | nil => simp
      | cons a r =>
        have h5 := congrArg List.length (fl_flat f)
        rw [hf, List.flatten_cons, List.length_append] at h5
        simp
        omega
    show p.1.length + 1 ≤ f.length
    omega
theorem same_ne {a b : List UInt8} (h : sameN a b = true) (hb : b ≠ []) : a ≠ [] := by
  rintro rfl
  unfold sameN at h
  rw [decide_eq_true_eq] at h
  have := congrArg List.length h
  simp at this
  exact hb (List.eq_nil_of_length_eq_zero this.symm)

set_option maxRecDepth 100000 in
set_option maxHeartbeats 2000000 in
theorem armored_any (Af Ae Ab : Option Addr) (fs : List (List UInt8)) (B n cf ce cb m k : Nat) (w : World) (hT : Lib.Utf8Tabs 3 4 w) (hF : FR w B (.slice Af n cf) fs) (hn : n ≤ 1000000) (hl : ∀ f ∈ fs, f.length ≤ 1000000) :
    Calls Tryz.prog 44 #[.agg #[.slice Af n cf, .slice Ae m ce, .slice Ab k cb]] w fun e w' => (∃ q, e = .returned (.bool q)) ∧ Below w.heap.size w w' := by
  have hb0 : Below w.heap.size w (w.alloc (.cells #[.slice Af n cf, .slice Ae m ce, .slice Ab k cb] 49)) := (Below.refl _ _).alloc (Nat.le_refl _) _
  have r0 := (Row.new w #[.slice Af n cf, .slice Ae m ce, .slice Ab k cb] 49).cell (j := 0) rfl
  have HLL := Lib.hid hl
  clear hl
  obtain ⟨vs, ho, he⟩ := hF
  obtain ⟨_, _, e9, hnc, _, _, _⟩ := own_form ho
  cases e9
  have HE := Lib.hid he
  have hvl : vs.length = fs.length := by have := ho.1; omega
  obtain ⟨nf, hnf⟩ : ∃ nf, fs.length = nf := ⟨_, rfl⟩
  have HNF := Lib.hid hnf
  rw [hnf] at ho hn hnc hvl r0 hb0 ⊢
  clear hnf he
  go_enter Tryz.func44, Tryz.ntmps44
  go_wp2_with fail
  go_loopw [8] (fun s8 wr => ∃ i : Nat, s8 = .int .i64 i ∧ i ≤ nf ∧ Below w.heap.size w wr) (fun s8 _ => nf - (intOf s8).toNat)
  case atStart => exact ⟨0, rfl, by omega, hb0⟩
  case round =>
    obtain ⟨i, rfl, hi, hB⟩ := hrel
    by_cases hlt : i < nf
    · obtain ⟨f, hf⟩ : ∃ f, fs[i]? = some f := ⟨_, List.getElem?_eq_getElem (by rw [HNF.out]; exact hlt)⟩
      obtain ⟨bz, oz, cz, hvz, hzc, hz0, hRz, _⟩ := HE.out i f hf
      have hfl := HLL.out f (List.mem_of_getElem? hf)
      obtain ⟨_, _, e9, _, _, hRv, _⟩ := own_form (own_below ho hB)
      cases e9
      obtain ⟨bg, og, x9, rfl, hx9, hcg⟩ := hRv.one (k := i) (by omega)
      have hx10 := hx9.out
      rw [hvz] at hx10
      cases hx10
      obtain ⟨fn, hfn⟩ : ∃ fn, f.length = fn := ⟨_, rfl⟩
      have hfn0 : 0 < fn := by rw [← hfn]; exact List.length_pos_iff.2 hz0
      have hnm : ∀ W, Below w.heap.size w W → Calls Tryz.prog 41 #[.slice (some ⟨bz, oz, none⟩) fn cz] W fun e w' => e = .returned (.string (bs (nameL f))) ∧ Below W.heap.size W w' := fun W hW => name_any bz oz f fn cz W hfn (hRz.below hW) (by omega) (by omega) hfn0
      have hln := nameL_len f
      have hlt2 : nameL f ≠ [] → (nameL f).length + 1 ≤ fn := fun h => by rw [← hfn]; exact nameL_lt h
      rw [hfn] at hcg hzc hfl hln
      have HFN := Lib.hid hfn
      obtain ⟨nm, hnme⟩ : ∃ nm, nameL f = nm := ⟨_, rfl⟩
      rw [hnme] at hnm hln hlt2
      clear hf hx9 hvz hfn hnme hRv
      go_wp2_with fail
      refine (hnm _ hB).mono ?_
      rintro e w2 ⟨rfl, hb2⟩
      have hB2 := hB.trans (hb2.mono hB.size)
      have hfs := fsame_any nm cteC w2 (tabs_below hT hB2) (by omega) (by decide)
      go_wp2_with fail
      refine hfs.mono ?_
      rintro e w3 ⟨rfl, hb3⟩
      have hB3 := hB2.trans (hb3.mono hB2.size)
      cases hq : sameN nm cteC with
      | false =>
        clear hq hlt2 hfs
        go_wp2_with fail
        go_roundw
        case rel => exact ⟨i + 1, by go_num, by omega, hB3⟩
        case measure => simp [intOf]; omega
      | true =>
        have hle := hlt2 (same_ne hq (by decide))
        obtain ⟨ln, hlnn⟩ : ∃ ln, nm.length = ln := ⟨_, rfl⟩
        have hbsl : (bs nm).size = ln := by rw [bs_size]; exact hlnn
        rw [hlnn] at hle
        obtain ⟨A6, hsl, hrs⟩ := slf_any (some ⟨bz, oz, none⟩) fn cz (ln + 1) hle hzc
        have hsl2 : ∀ K W, (Instr.slice 22 (.slice (some ⟨bz, oz, none⟩) fn cz) (some (.int K ((ln : Int) + 1))) none none).run Tryz.prog W = .ok (.slice A6 (fn - (ln + 1)) (cz - (ln + 1))) W := fun K W => by
          have h := hsl K W
          rwa [Int.natCast_add] at h
        clear hq hlt2 hfs hsl
        go_wp2_with fail
        refine (hnm _ hB3).mono ?_
        rintro e w4 ⟨rfl, hb4⟩
        have hB4 := hB3.trans (hb4.mono hB3.size)
        have hsq := squeezed_any A6 (f.drop (ln + 1)) (fn - (ln + 1)) (cz - (ln + 1)) w4 (tabs_below hT hB4) (by rw [List.length_drop, HFN.out]) (hrs w4 f HFN.out (hRz.below hB4)) (by omega)
        go_wp2_with fail
        refine hsq.mono ?_
        rintro e w5 ⟨rfl, hb5⟩
        go_wp2_with fail
        go_ret
        exact ⟨⟨_, rfl⟩, hB4.trans (hb5.mono hB4.size)⟩
    · obtain rfl : i = nf := by omega
      go_wp2_with fail
      go_ret
      exact ⟨⟨_, rfl⟩, hB⟩
end Go.Proofs.YtcagkoakbdbbaaaGreatDoor

namespace Go.Proofs.YtcagkoakbdbbaaaGreatDoor
set_option linter.unusedVariables false
set_option linter.unusedSimpArgs false
open Go.RowKit

set_option maxRecDepth 100000 in
set_option maxHeartbeats 1000000 in
theorem change_none (Af Ae Ab : Option Addr) (fs : List (List UInt8)) (B n cf ce cb m k : Nat) (z N M : Int) (T : ByteArray) (w : World) (hF : FR w B (.slice Af n cf) fs) (hB : B ≤ w.heap.size) (hn0 : 0 < n) (hn1 : n ≤ 1000000) (hN : -9223372036854775808 ≤ N ∧ N ≤ 9223372036854775807)
    (z3 : z ≠ 3) (z4 : z ≠ 4) (z5 : z ≠ 5) (z7 : z ≠ 7) (z8 : z ≠ 8) :
    Calls Tryz.prog 21 #[.agg #[.slice Af n cf, .slice Ae m ce, .slice Ab k cb], .agg #[.int .i64 z, .int .i64 N, .int .i64 M, .string T]] w fun e w' => e = .returned (.agg #[.slice Af n cf, .slice Ae m ce, .slice Ab k cb]) ∧ Below w.heap.size w w' := by
  obtain ⟨vs, ho, he⟩ := hF
  obtain ⟨_, _, e9, hnc, _, hRv, hvl⟩ := own_form ho
  cases e9
  obtain ⟨at', hat⟩ : ∃ a : Nat, N % (fs.length : Int) = (a : Int) := ⟨(N % (fs.length : Int)).toNat, by have := Int.emod_nonneg N (by omega : (fs.length : Int) ≠ 0); omega⟩
  have hatl : at' < fs.length := by have := Int.emod_lt_of_pos N (by omega : (0 : Int) < (fs.length : Int)); omega
  obtain ⟨nf, hnf⟩ : ∃ nf, fs.length = nf := ⟨_, rfl⟩
  obtain ⟨f, hf⟩ : ∃ f, fs[at']? = some f := ⟨_, List.getElem?_eq_getElem hatl⟩
  obtain ⟨bz, oz, cz, hvz, _⟩ := he at' f hf
  obtain ⟨bg, og, x9, rfl, hx9, hcg⟩ := hRv.one (k := at') (by omega)
  have hx10 := hx9.out
  rw [hvz] at hx10
  cases hx10
  rw [hnf] at hn0 hn1 hat hatl ⊢
  obtain ⟨W3, hW3⟩ : ∃ W3, ((w.alloc (.cells #[.slice (some ⟨bg, og, none⟩) nf cf, .slice Ae m ce, .slice Ab k cb] 49)).alloc (.cells #[.int .i64 z, .int .i64 N, .int .i64 M, .string T] 26)).alloc (.cells #[.slice none 0 0, .slice none 0 0, .slice none 0 0] 49) = W3 := ⟨_, rfl⟩
  have hb3 : Below w.heap.size w W3 := by rw [← hW3]; exact (((Below.refl _ w).alloc (Nat.le_refl _) _).alloc (by simp) _).alloc (by simp; omega) _
  have r1 : Row W3 w.heap.size 49 [.slice (some ⟨bg, og, none⟩) nf cf, .slice Ae m ce, .slice Ab k cb] := by rw [← hW3]; exact ((Row.new w _ _).alloc _).alloc _
  have r2 : Row W3 (w.heap.size + 1) 26 [.int .i64 z, .int .i64 N, .int .i64 M, .string T] := by
    have h := (Row.new (w.alloc (.cells #[.slice (some ⟨bg, og, none⟩) nf cf, .slice Ae m ce, .slice Ab k cb] 49)) #[.int .i64 z, .int .i64 N, .int .i64 M, .string T] 26).alloc (.cells #[.slice none 0 0, .slice none 0 0, .slice none 0 0] 49)
    rw [World.size_alloc, hW3] at h
    exact h
  have r3 : Row W3 (w.heap.size + 1 + 1) 49 [.slice none 0 0, .slice none 0 0, .slice none 0 0] := by
    have h := Row.new ((w.alloc (.cells #[.slice (some ⟨bg, og, none⟩) nf cf, .slice Ae m ce, .slice Ab k cb] 49)).alloc (.cells #[.int .i64 z, .int .i64 N, .int .i64 M, .string T] 26)) #[.slice none 0 0, .slice none 0 0, .slice none 0 0] 49
    rw [World.size_alloc, World.size_alloc, hW3] at h
    exact h
  have hcg3 := (hb3.cell (cell_lt hcg)).trans hcg
  have a0 := r1.cell (j := 0) rfl
  have a1 := r1.cell (j := 1) rfl
  have a2 := r1.cell (j := 2) rfl
  have x0 := r2.cell (j := 0) rfl
  have x1 := r2.cell (j := 1) rfl
  have s0 := r3.cell (j := 0) rfl
  have s1 := r3.cell (j := 1) rfl
  have s2 := r3.cell (j := 2) rfl
  have y0 := r3.frozen 0
  have y1 := r3.frozen 1
  have y2 := r3.frozen 2
  have hre := rest_any N nf W3 hn0 hn1 hN
  rw [hat] at hre
  have q3 : (z == 3) = false := by rw [beq_eq_false_iff_ne]; exact z3
  have q4 : (z == 4) = false := by rw [beq_eq_false_iff_ne]; exact z4
  have q5 : (z == 5) = false := by rw [beq_eq_false_iff_ne]; exact z5
  have q7 : (z == 7) = false := by rw [beq_eq_false_iff_ne]; exact z7
  have q8 : (z == 8) = false := by rw [beq_eq_false_iff_ne]; exact z8
  have p6 := ((r3.set 0 (.slice (some ⟨bg, og, none⟩) nf cf)).set 1 (.slice Ae m ce)).set 2 (.slice Ab k cb)
  have B9 := ((hb3.setCell (p := ⟨w.heap.size + 1 + 1, 0, none⟩) (by simp; omega) (.slice (some ⟨bg, og, none⟩) nf cf)).setCell (p := ⟨w.heap.size + 1 + 1, 1, none⟩) (by simp; omega) (.slice Ae m ce)).setCell (p := ⟨w.heap.size + 1 + 1, 2, none⟩) (by simp; omega) (.slice Ab k cb)
  clear hat hnf hf hvz hx9 hcg hRv he ho hvl z3 z4 z5 z7 z8
  go_enter Tryz.func21, Tryz.ntmps21
  go_upto_region 1 with fail
  go_wp2_with fail
  refine hre.mono ?_
  rintro e w4 ⟨rfl, rfl⟩
  go_wp2_with fail
  obtain ⟨W9, hW9⟩ : ∃ W9, ((w4.setCell ⟨w.heap.size + 1 + 1, 0, none⟩ (.slice (some ⟨bg, og, none⟩) nf cf)).setCell ⟨w.heap.size + 1 + 1, 1, none⟩ (.slice Ae m ce)).setCell ⟨w.heap.size + 1 + 1, 2, none⟩ (.slice Ab k cb) = W9 := ⟨_, rfl⟩
  rw [hW9] at p6 B9 ⊢
  have e0 := p6.cell (j := 0) rfl
  have e1 := p6.cell (j := 1) rfl
  have e2 := p6.cell (j := 2) rfl
  exact bodyPost_ret (v := .agg #[.slice (some ⟨bg, og, none⟩) nf cf, .slice Ae m ce, .slice Ab k cb]) (by simp [results, Tryz.results21, go_sem, e0, e1, e2]) rfl ⟨rfl, B9⟩
end Go.Proofs.YtcagkoakbdbbaaaGreatDoor
