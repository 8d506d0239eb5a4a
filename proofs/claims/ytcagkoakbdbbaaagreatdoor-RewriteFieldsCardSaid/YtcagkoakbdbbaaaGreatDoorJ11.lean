/- The program's read: a mail's fields, its head's end, its body. -/
import Derived.Test.YtcagkoakbdbbaaaGreatDoorJ09
import Derived.Deep.RegionWith
import Derived.Deep.RegionLaw
namespace Go.Proofs.YtcagkoakbdbbaaaGreatDoor
set_option linter.unusedVariables false
set_option linter.unusedSimpArgs false
open Go.RowKit

theorem blank_any (x : UInt8) (w : World) : Calls Tryz.prog 32 #[.int .u8 (x.toNat : Int)] w fun e w' => e = .returned (.bool (blankB x)) ∧ w' = w := by
  have t32 : ((x.toNat : Int) == 32) = (x == 32) := u8_beq x 32
  have t9 : ((x.toNat : Int) == 9) = (x == 9) := u8_beq x 9
  unfold blankB
  by_cases h : (x == 32) = true
  · rw [h] at t32
    go_enter Tryz.func32, Tryz.ntmps32
    go_wp2_with fail
    go_ret
    exact ⟨by rw [h]; rfl, rfl⟩
  · rw [Bool.not_eq_true] at h
    rw [h] at t32
    go_enter Tryz.func32, Tryz.ntmps32
    go_wp2_with fail
    go_ret
    exact ⟨by rw [h, Bool.false_or, ← t9]; rfl, rfl⟩
theorem clip_any (A : Option Addr) (n c : Nat) (w : World) (hnc : n ≤ c) : Calls Tryz.prog 33 #[.slice A n c] w fun e w' => e = .returned (.slice A n n) ∧ w' = w := by
  have hs : ∀ K K2 W, (Instr.slice 22 (.slice A n c) none (some (.int K (n : Int))) (some (.int K2 (n : Int)))).run Tryz.prog W = .ok (.slice A n n) W := by
    intro K K2 W
    rw [run_slice_hm W 22 A n c (elem_of Tryz.underlying22) K K2 (n : Int) (n : Int) (by omega) (by omega) (by omega), elem_eq Tryz.underlying22, Tryz.sizeOf5]
    rcases A with _ | a <;> simp [Result.andThen, sliced, Addr.add]
  go_enter Tryz.func33, Tryz.ntmps33
  go_wp2_with fail
  go_ret
  exact ⟨rfl, rfl⟩
theorem ixa (go n c m : Nat) (hm : m < n) : ∀ K W, (Instr.indexAt 47 (.slice (some ⟨go, 0, none⟩) n c) (.int K (m : Int))).run Tryz.prog W = .ok (.pointer (some ⟨go, m, none⟩)) W := by
  intro K W
  rw [run_indexAt_slice W 47 ⟨go, 0, none⟩ n c K (m : Int) (elem_of Tryz.underlying47)]
  have hplain : (⟨go, 0, none⟩ : Addr).add m = ⟨go, m, none⟩ := by unfold Addr.add; split <;> simp_all
  have h1 : (m : Int) < (n : Int) := by omega
  simp [elem_eq Tryz.underlying47, Tryz.sizeOf22, Result.andThen, h1, hplain]
theorem slf_any (A : Option Addr) (n c k : Nat) (hk : k ≤ n) (hnc : n ≤ c) :
    ∃ A', (∀ K W, (Instr.slice 22 (.slice A n c) (some (.int K (k : Int))) none none).run Tryz.prog W = .ok (.slice A' (n - k) (c - k)) W) ∧ ∀ (W : World) (b : List UInt8), b.length = n → Rb W A b → Rb W A' (b.drop k) := by
  refine ⟨if c = k then A else A.map (·.add k), fun K W => ?_, fun W b hb h => ?_⟩
  · rw [run_slice_l W 22 A n c (elem_of Tryz.underlying22) K (k : Int) (by omega) (by omega), elem_eq Tryz.underlying22, Tryz.sizeOf5]
    simp [Result.andThen, sliced]
  · by_cases hc : c = k
    · rw [show b.drop k = [] from List.drop_eq_nil_of_le (by omega)]
      exact Rb.nil _ _
    · rw [if_neg hc]
      by_cases h0 : b.length ≤ k
      · rw [List.drop_eq_nil_of_le h0]
        exact Rb.nil _ _
      · obtain ⟨b0, o0, rfl, _⟩ := h (by simp; omega)
        have e : Option.map (fun x : Addr => x.add k) (some ⟨b0, o0, none⟩) = some ⟨b0, o0 + k, none⟩ := by
          rw [Option.map_some]
          congr 1
          unfold Addr.add
          split <;> simp_all
        rw [e]
        exact h.drop k

theorem ln_at {b : List UInt8} {ps : List (Nat × Nat)} (h : LnRow b ps) (he : lnEnd ps = b.length) {i : Nat} {p : Nat × Nat} (hp : ps[i]? = some p) : (fl b)[i]? = some (sg b p.1 p.2) ∧ (sg b p.1 p.2).length = p.2 - p.1 ∧ p.1 < p.2 ∧ p.2 ≤ b.length := by
  have h1 := h.2.2.1 p (List.mem_of_getElem? hp)
  refine ⟨?_, sg_len h1.2, h1⟩
  rw [← h.all he, lnTold, List.getElem?_map, hp]
  rfl
theorem rb_sg {W : World} {b0 o0 : Nat} {b : List UInt8} (h : Rb W (some ⟨b0, o0, none⟩) b) (i j : Nat) : Rb W (some ⟨b0, o0 + i, none⟩) (sg b i j) := (h.drop i).take _
theorem flat_step {L : List (List UInt8)} {i : Nat} {l : List UInt8} (h : L[i]? = some l) : (L.take (i + 1)).flatten.length = (L.take i).flatten.length + l.length := by
  rw [take_succ_of h, List.flatten_append, List.length_append]
  simp
theorem flat_drop (L : List (List UInt8)) (i : Nat) : L.flatten.drop (L.take i).flatten.length = (L.drop i).flatten := by
  conv => lhs; rw [← List.take_append_drop i L]
  rw [List.flatten_append, List.take_append_drop, List.drop_left]
theorem flat_le (L : List (List UInt8)) (i : Nat) : (L.take i).flatten.length ≤ L.flatten.length := by
  have := congrArg List.length (congrArg List.flatten (List.take_append_drop i L))
  rw [List.flatten_append, List.length_append] at this
  omega
theorem jl_snoc (init : List (List UInt8)) (z l : List UInt8) : joinLast (init ++ [z]) l = init ++ [z ++ l] := by simp [joinLast]
theorem jl_flat {fs : List (List UInt8)} (l : List UInt8) (h : fs ≠ []) : (joinLast fs l).flatten = fs.flatten ++ l := by
  rcases List.eq_nil_or_concat fs with rfl | ⟨init, z, rfl⟩
  · exact absurd rfl h
  · rw [List.concat_eq_append, jl_snoc]; simp
theorem jl_len {fs : List (List UInt8)} (l : List UInt8) (h : fs ≠ []) : (joinLast fs l).length = fs.length := by
  rcases List.eq_nil_or_concat fs with rfl | ⟨init, z, rfl⟩
  · exact absurd rfl h
  · rw [List.concat_eq_append, jl_snoc]; simp
theorem jl_get {fs : List (List UInt8)} {l z : List UInt8} {m : Nat} (hl : fs.length = m + 1) (hz : fs[m]? = some z) (j : Nat) : (joinLast fs l)[j]? = if j = m then some (z ++ l) else fs[j]? := by
  rcases List.eq_nil_or_concat fs with rfl | ⟨init, z', rfl⟩
  · simp at hl
  · rw [List.concat_eq_append] at hz hl ⊢
    have hi : init.length = m := by simpa using hl
    subst hi
    rw [List.getElem?_append_right (Nat.le_refl _), Nat.sub_self] at hz
    cases hz
    rw [jl_snoc]
    by_cases hj : j < init.length
    · rw [List.getElem?_append_left hj, List.getElem?_append_left hj, if_neg (by omega)]
    · by_cases hj2 : j = init.length
      · subst hj2
        simp
      · rw [if_neg hj2, List.getElem?_append_right (by omega), List.getElem?_append_right (by omega)]
        obtain ⟨d, hd⟩ : ∃ d, j - init.length = d + 1 := ⟨j - init.length - 1, by omega⟩
        rw [hd]
        rfl
/-- what read hands back -/
def ReadOut (w : World) (b : List UInt8) (e : Ending) (w' : World) : Prop :=
  match readG [] (fl b) with
  | none => e = .returned (.tuple #[.agg #[.slice none 0 0, .slice none 0 0, .slice none 0 0], .bool false, .bool false])
  | some (fs, en, bd) => ∃ fv Ae ce Ab cb, e = .returned (.tuple #[.agg #[fv, .slice Ae en.length ce, .slice Ab bd.length cb], .bool true, .bool (!fs.isEmpty && !blank1 (fs.headD []))]) ∧ FR w' (w.heap.size + 1) fv fs ∧ (∀ W, Below w.heap.size w W → Rb W Ae en) ∧ en.length ≤ ce ∧ (∀ W, Below w.heap.size w W → Rb W Ab bd) ∧ bd.length ≤ cb

set_option maxRecDepth 100000 in
set_option maxHeartbeats 4000000 in
theorem read_any (A : Option Addr) (b : List UInt8) (n c : Nat) (w : World) (hn : b.length = n) (hA : Rb w A b) (hnc : n ≤ c) (hb : n ≤ 1000000) :
    Calls Tryz.prog 15 #[.slice A n c] w fun e w' => ReadOut w b e w' ∧ Below w.heap.size w w' := by
  have HN := Lib.hid hn
  clear hn
  have hb0 : Below w.heap.size w (w.alloc (.cells #[.slice none 0 0, .slice none 0 0, .slice none 0 0] 49)) := (Below.refl _ _).alloc (Nat.le_refl _) _
  have r0 := Row.new w #[.slice none 0 0, .slice none 0 0, .slice none 0 0] 49
  have hsp := callsIn_wide.1 (lsplit_in 5 (Nat.le_refl _) A b n c _ HN.out (hA.below hb0) hnc (by omega))
  go_enter Tryz.func15, Tryz.ntmps15
  go_wp2_with fail
  refine hsp.mono ?_
  rintro e w1 ⟨⟨v, ps, rfl, hls, hle, hown⟩, hbl⟩
  rw [World.size_alloc] at hown
  obtain ⟨Al, cl, hv, hlc, hlm, hRl, _⟩ := own_form hown
  subst hv
  have hB1 := hb0.trans (hbl.mono hb0.size)
  have r1 := r0.below hbl
  have HLS := Lib.hid hls
  have HLE := Lib.hid hle
  have hk0 := hls.2.2.2
  have hpn : ps.length ≤ n := by rw [hle, HN.out] at hk0; exact hk0
  clear hls hle hk0 hsp hbl hRl
  have hs1 : w.heap.size + 1 ≤ w1.heap.size := r1.lt
  go_wp2_with fail
  go_loopw [5, 12] (fun s5 s12 wr => ∃ (i q : Nat) (fv : Value) (fs : List (List UInt8)), s5 = .int .i64 q ∧ s12 = .int .i64 i ∧ i ≤ ps.length ∧ q ≤ n ∧ Hid (q = ((fl b).take i).flatten.length ∧ readG fs ((fl b).drop i) = readG [] (fl b) ∧ fs.length ≤ i ∧ fs.flatten.length = q) ∧ Hid (Row wr w.heap.size 49 [fv, .slice none 0 0, .slice none 0 0]) ∧ Hid (FR wr w1.heap.size fv fs) ∧ Hid (Ext (fun k => k = w.heap.size) w1 wr)) (fun _ s12 _ => ps.length - (intOf s12).toNat)
  case atStart => exact ⟨0, 0, .slice none 0 0, [], rfl, rfl, by omega, by omega, Lib.hid ⟨rfl, rfl, Nat.le_refl _, rfl⟩, Lib.hid r1, Lib.hid (FR.nil _ _), Lib.hid (Ext.refl _ _)⟩
  case round =>
    obtain ⟨i, q, fv, fs, rfl, rfl, hi, hq, HG, HR, HF, HX⟩ := hrel
    have hbr : Below w.heap.size w wr := HX.out.below hB1 (by omega) (fun k e => by omega)
    have hsr : w1.heap.size ≤ wr.heap.size := HX.out.size
    obtain ⟨m, hm⟩ : ∃ m, fs.length = m := ⟨_, rfl⟩
    have HM := Lib.hid hm
    obtain ⟨Af, cf, hfv⟩ : ∃ Af cf, fv = .slice Af m cf := by
      obtain ⟨vs, ho, _⟩ := HF.out
      obtain ⟨Af, cf, hfv, _⟩ := own_form ho
      exact ⟨Af, cf, by rw [← hm]; exact hfv⟩
    subst hfv
    have hmn : m ≤ i := by rw [← hm]; exact HG.out.2.2.1
    clear hm
    have hcs : ∀ (v1 v2 : Value), (∀ x : UInt8, v1 ≠ bv x) → (∀ x : UInt8, v2 ≠ bv x) → ∀ v ∈ [Value.slice Af m cf, v1, v2], ∀ x : UInt8, v ≠ bv x := by
      intro v1 v2 h1 h2 v hv x
      simp only [List.mem_cons, List.not_mem_nil, or_false] at hv
      rcases hv with rfl | rfl | rfl
      · intro e; cases e
      · exact h1 x
      · exact h2 x
    by_cases hlt : i < ps.length
    · obtain ⟨p, hp⟩ : ∃ p, ps[i]? = some p := ⟨_, List.getElem?_eq_getElem hlt⟩
      obtain ⟨hl1, hl2, hp1, hp2⟩ := ln_at HLS.out HLE.out hp
      obtain ⟨l, hl⟩ : ∃ l, sg b p.1 p.2 = l := ⟨_, rfl⟩
      have hAr := hA.below hbr
      obtain ⟨b0, o0, rfl, _⟩ := hAr (by have := HN.out; simp; omega)
      have hRl : Rb wr (some ⟨b0, o0 + p.1, none⟩) l := by rw [← hl]; exact rb_sg hAr p.1 p.2
      rw [hl] at hl1 hl2
      have hor := own_ext1 hown HX.out (fun k hk e => by have := hown.lt k hk; omega)
      obtain ⟨_, _, e9, _, _, hRv, _⟩ := own_form hor
      cases e9
      obtain ⟨bl, ol, x, rfl, hx, hcx⟩ := hRv.one (k := i) (by rw [List.length_map]; exact hlt)
      have hx2 := hx.out
      rw [List.getElem?_map, hp] at hx2
      have hx3 : lnV (some ⟨b0, o0, none⟩) p = x := Option.some.inj hx2
      have hx4 : x = .slice (some ⟨b0, o0 + p.1, none⟩) l.length l.length := by rw [← hx3, hl2]; rfl
      subst hx4
      have hlq := flat_step hl1
      have HLQ := Lib.hid hlq
      obtain ⟨k, hk⟩ : ∃ k, l.length = k := ⟨_, rfl⟩
      have HK := Lib.hid hk
      rw [hk] at hcx hlq hl2 HLQ
      have hk1 : 0 < k := by omega
      have hl0 : l ≠ [] := by rintro rfl; simp at hk; omega
      have HL := Lib.hid hl1
      have hqk : q + k ≤ n := by
        have h1 := flat_le (fl b) (i + 1)
        rw [hlq, fl_flat, HN.out, ← HG.out.1] at h1
        exact h1
      have htx := text_any (some ⟨b0, o0 + p.1, none⟩) l k k wr HK.out hRl (Nat.le_refl _) (by omega)
      obtain ⟨of, hof⟩ : ∃ of, o0 + p.1 = of := ⟨_, rfl⟩
      rw [hof] at hRl htx hcx
      have HRL : Hid (∀ W, Below w.heap.size w W → Rb W (some ⟨b0, of, none⟩) l) := Lib.hid (fun W hW => by rw [← hof, ← hl]; exact rb_sg (hA.below hW) p.1 p.2)
      clear hx hx2 hx3 hl hk hl1 hp2 hRv hl2 hp1 hof hp hor hlq
      by_cases ht : textL l = []
      · have HT := Lib.hid ht
        rw [ht] at htx
        clear ht
        obtain ⟨A2, hsl, hrs⟩ := slf_any (some ⟨b0, o0, none⟩) n c (q + k) hqk hnc
        go_wp2_with fail
        refine htx.mono ?_
        rintro e w3 ⟨rfl, hb3⟩
        have hsl2 : ∀ K W, (Instr.slice 22 (.slice (some ⟨b0, o0, none⟩) n c) (some (.int K ((q : Int) + (k : Int)))) none none).run Tryz.prog W = .ok (.slice A2 (n - (q + k)) (c - (q + k))) W := fun K W => by
          have h := hsl K W
          rwa [Int.natCast_add] at h
        clear hsl
        have R3 := HR.out.below hb3
        have F3 := HF.out.below hb3
        have X3 := HX.out.belowR hb3
        have l1 := R3.cell (j := 1) rfl
        have l2 := R3.cell (j := 2) rfl
        have f1 := R3.frozen 1
        have f2 := R3.frozen 2
        have l1d : w3.drew.cell? ⟨w.heap.size, 1, none⟩ = some (.slice none 0 0) := l1
        have l2d : w3.drew.cell? ⟨w.heap.size, 2, none⟩ = some (.slice none 0 0) := l2
        have f1d : w3.drew.frozen? ⟨w.heap.size, 1, none⟩ = false := f1
        have f2d : w3.drew.frozen? ⟨w.heap.size, 2, none⟩ = false := f2
        go_upto_region 8 with fail
        go_region
        have hgs : w.heap.size < w1.heap.size := by omega
        have R8 : Row ((w3.setCell ⟨w.heap.size, 1, none⟩ (.slice (some ⟨b0, of, none⟩) k k)).setCell ⟨w.heap.size, 2, none⟩ (.slice A2 (n - (q + k)) (c - (q + k)))).drew w.heap.size 49 [.slice Af m cf, .slice (some ⟨b0, of, none⟩) k k, .slice A2 (n - (q + k)) (c - (q + k))] := (R3.set 1 (.slice (some ⟨b0, of, none⟩) k k)).set 2 (.slice A2 (n - (q + k)) (c - (q + k)))
        have F8 : FR ((w3.setCell ⟨w.heap.size, 1, none⟩ (.slice (some ⟨b0, of, none⟩) k k)).setCell ⟨w.heap.size, 2, none⟩ (.slice A2 (n - (q + k)) (c - (q + k)))).drew w1.heap.size (.slice Af m cf) fs :=
          ((F3.setRow R3 (hcs _ _ (by intro x e; cases e) (by intro x e; cases e)) hgs 1 _).setRow (R3.set 1 (.slice (some ⟨b0, of, none⟩) k k)) (hcs _ _ (by intro x e; cases e) (by intro x e; cases e)) hgs 2 _).below (Below.refl _ _).drew
        have X8 : Ext (fun k => k = w.heap.size) w1 ((w3.setCell ⟨w.heap.size, 1, none⟩ (.slice (some ⟨b0, of, none⟩) k k)).setCell ⟨w.heap.size, 2, none⟩ (.slice A2 (n - (q + k)) (c - (q + k)))).drew := ((X3.set ⟨w.heap.size, 1, none⟩ _ rfl).set ⟨w.heap.size, 2, none⟩ _ rfl).drew
        obtain ⟨w8, hw8⟩ : ∃ w8, ((w3.setCell ⟨w.heap.size, 1, none⟩ (.slice (some ⟨b0, of, none⟩) k k)).setCell ⟨w.heap.size, 2, none⟩ (.slice A2 (n - (q + k)) (c - (q + k)))).drew = w8 := ⟨_, rfl⟩
        rw [hw8] at R8 F8 X8 ⊢
        clear hw8 R3 F3 X3 l1 l2 f1 f2 l1d l2d f1d f2d hsl2 hb3 htx hcx hRl hAr
        have B8 : Below w.heap.size w w8 := X8.below hB1 (by omega) (fun k e => by omega)
        have m0 := R8.cell (j := 0) rfl
        have m1 := R8.cell (j := 1) rfl
        have m2 := R8.cell (j := 2) rfl
        have g0 := R8.frozen 0
        have g1 := R8.frozen 1
        have g2 := R8.frozen 2
        have m0d : w8.drew.cell? ⟨w.heap.size, 0, none⟩ = some (.slice Af m cf) := m0
        have m1d : w8.drew.cell? ⟨w.heap.size, 1, none⟩ = some (.slice (some ⟨b0, of, none⟩) k k) := m1
        have m2d : w8.drew.cell? ⟨w.heap.size, 2, none⟩ = some (.slice A2 (n - (q + k)) (c - (q + k))) := m2
        have g0d : w8.drew.frozen? ⟨w.heap.size, 0, none⟩ = false := g0
        have g1d : w8.drew.frozen? ⟨w.heap.size, 1, none⟩ = false := g1
        have g2d : w8.drew.frozen? ⟨w.heap.size, 2, none⟩ = false := g2
        go_upto_region 9 with fail
        have HRS := Lib.hid (fun W => hrs W b HN.out)
        have fin : ∀ (okv : Bool), okv = (!fs.isEmpty && !blank1 (fs.headD [])) → Hid (∀ (W9 : World), W9 = (((w8.setCell ⟨w.heap.size, 0, none⟩ (.slice Af m cf)).setCell ⟨w.heap.size, 1, none⟩ (.slice (some ⟨b0, of, none⟩) k k)).setCell ⟨w.heap.size, 2, none⟩ (.slice A2 (n - (q + k)) (c - (q + k)))).drew →
            (W9.cell? ⟨w.heap.size, 0, none⟩ = some (.slice Af m cf) ∧ W9.cell? ⟨w.heap.size, 1, none⟩ = some (.slice (some ⟨b0, of, none⟩) k k) ∧ W9.cell? ⟨w.heap.size, 2, none⟩ = some (.slice A2 (n - (q + k)) (c - (q + k)))) ∧
            ReadOut w b (.returned (.tuple #[.agg #[.slice Af m cf, .slice (some ⟨b0, of, none⟩) k k, .slice A2 (n - (q + k)) (c - (q + k))], .bool true, .bool okv])) W9 ∧ Below w.heap.size w W9) := by
          intro okv hok
          refine Lib.hid fun W9 hW9 => ?_
          have q1 := R8.set 0 (.slice Af m cf)
          have q2 := q1.set 1 (.slice (some ⟨b0, of, none⟩) k k)
          have q3 := q2.set 2 (.slice A2 (n - (q + k)) (c - (q + k)))
          have hn1 : ∀ x : UInt8, Value.slice (some ⟨b0, of, none⟩) k k ≠ bv x := by intro x e; cases e
          have hn2 : ∀ x : UInt8, Value.slice A2 (n - (q + k)) (c - (q + k)) ≠ bv x := by intro x e; cases e
          have F9 := ((((F8.setRow R8 (hcs _ _ hn1 hn2) hgs 0 (.slice Af m cf)).setRow q1 (hcs _ _ hn1 hn2) hgs 1 (.slice (some ⟨b0, of, none⟩) k k)).setRow q2 (hcs _ _ hn1 hn2) hgs 2 (.slice A2 (n - (q + k)) (c - (q + k)))).below (Below.refl _ _).drew)
          have X9 := (((X8.set ⟨w.heap.size, 0, none⟩ (.slice Af m cf) rfl).set ⟨w.heap.size, 1, none⟩ (.slice (some ⟨b0, of, none⟩) k k) rfl).set ⟨w.heap.size, 2, none⟩ (.slice A2 (n - (q + k)) (c - (q + k))) rfl).drew
          have q4 : Row W9 w.heap.size 49 [.slice Af m cf, .slice (some ⟨b0, of, none⟩) k k, .slice A2 (n - (q + k)) (c - (q + k))] := by rw [hW9]; exact q3
          rw [← hW9] at F9 X9
          have B9 : Below w.heap.size w W9 := X9.below hB1 (by omega) (fun k e => by omega)
          refine ⟨⟨q4.cell (j := 0) rfl, q4.cell (j := 1) rfl, q4.cell (j := 2) rfl⟩, ?_, B9⟩
          have hdr : (fl b).drop i = l :: (fl b).drop (i + 1) := by
            have h1 := List.getElem?_eq_some_iff.1 HL.out
            obtain ⟨h2, h3⟩ := h1
            rw [List.drop_eq_getElem_cons h2, h3]
          have hbd : ((fl b).drop (i + 1)).flatten = b.drop (q + k) := by
            rw [← flat_drop, fl_flat, HLQ.out, ← HG.out.1]
          have hrg : readG [] (fl b) = some (fs, l, b.drop (q + k)) := by
            rw [← HG.out.2.1, hdr, readG, if_pos HT.out, hbd]
          unfold ReadOut
          rw [hrg]
          refine ⟨.slice Af m cf, some ⟨b0, of, none⟩, k, A2, c - (q + k), ?_, ?_, HRL.out, by rw [HK.out]; exact Nat.le_refl _, fun W hW => HRS.out W (hA.below hW), by rw [List.length_drop, HN.out]; omega⟩
          · rw [HK.out, List.length_drop, HN.out, hok]
          · obtain ⟨vs, h1, h2⟩ := F9
            exact ⟨vs, own_base h1 (by omega), h2⟩
        rcases Nat.eq_zero_or_pos m with hm0 | hm0
        · subst hm0
          have hf0 : fs = [] := List.eq_nil_of_length_eq_zero HM.out
          have HFN := fin false (by rw [hf0]; rfl)
          clear fin
          go_region
          go_wp2_with fail
          obtain ⟨⟨e0, e1, e2⟩, hout⟩ := HFN.out _ rfl
          exact bodyPost_ret (v := .tuple #[.agg #[.slice Af 0 cf, .slice (some ⟨b0, of, none⟩) k k, .slice A2 (n - (q + k)) (c - (q + k))], .bool true, .bool false]) (by simp [results, Tryz.results15, go_sem, e0, e1, e2]) rfl hout
        · obtain ⟨f0, hf0⟩ : ∃ f0, fs[0]? = some f0 := ⟨_, List.getElem?_eq_getElem (by rw [HM.out]; exact hm0)⟩
          obtain ⟨vs, ho8, he8⟩ := F8
          obtain ⟨_, _, e9, _, _, hRv8, _⟩ := own_form ho8
          cases e9
          obtain ⟨bf, of2, cf0, hv0, hc0, hn0, hR0, _⟩ := he8 0 f0 hf0
          obtain ⟨bg, og, x9, e9, hx9, hcg⟩ := hRv8.one (k := 0) (lt_of_get hv0)
          cases e9
          have hx10 := hx9.out
          rw [hv0] at hx10
          cases hx10
          obtain ⟨_, _, y, e9, hy, hcy⟩ := hR0.one (k := 0) (List.length_pos_iff.2 hn0)
          cases e9
          have HFN := fin (!blankB y) (by
            have h1 : fs = f0 :: fs.tail := by
              cases fs with
              | nil => simp at hf0
              | cons a r => simp at hf0; rw [hf0]; rfl
            have h2 : f0 = y :: f0.tail := by
              have := hy.out
              cases f0 with
              | nil => simp at this
              | cons a r => simp at this; rw [this]; rfl
            rw [h1, h2]
            rfl)
          clear fin hx9 hy hv0 hR0 ho8 he8 hRv8
          have hcg1 : w8.cell? ⟨bg, og, none⟩ = some (.slice (some ⟨bf, of2, none⟩) f0.length cf0) := hcg
          have hcy1 : w8.cell? ⟨bf, of2, none⟩ = some (.int .u8 (y.toNat : Int)) := hcy
          have hcgd : w8.drew.cell? ⟨bg, og, none⟩ = some (.slice (some ⟨bf, of2, none⟩) f0.length cf0) := hcg
          have hcyd : w8.drew.cell? ⟨bf, of2, none⟩ = some (.int .u8 (y.toNat : Int)) := hcy
          obtain ⟨k0, hk0⟩ : ∃ k0, f0.length = k0 := ⟨_, rfl⟩
          have hk0p : 0 < k0 := by rw [← hk0]; exact List.length_pos_iff.2 hn0
          rw [hk0] at hcg1 hcgd hc0
          clear hk0 hn0 hf0 hcg hcy
          go_region_with (go_at_call 32; refine (blank_any y _).mono ?_; rintro e w9 ⟨rfl, rfl⟩)
          all_goals
            go_wp2_with fail
            obtain ⟨⟨e0, e1, e2⟩, hout⟩ := HFN.out _ rfl
            exact bodyPost_ret (v := .tuple #[.agg #[.slice (some ⟨bg, og, none⟩) fs.length cf, .slice (some ⟨b0, of, none⟩) k k, .slice A2 (n - (q + k)) (c - (q + k))], .bool true, .bool (!blankB y)]) (by simp [results, Tryz.results15, go_sem, e0, e1, e2]) rfl hout
      · obtain ⟨tk, htk⟩ : ∃ tk, (textL l).length = tk + 1 := by
          have : 0 < (textL l).length := List.length_pos_iff.2 ht
          exact ⟨(textL l).length - 1, by omega⟩
        have HT := Lib.hid ht
        rw [htk] at htx
        obtain ⟨_, _, y, e9, hy, hcy⟩ := hRl.one (k := 0) (by rw [HK.out]; exact hk1)
        cases e9
        have hcy1 : wr.cell? ⟨b0, of, none⟩ = some (.int .u8 (y.toNat : Int)) := hcy
        have hb1y : blank1 l = blankB y := by
          have := hy.out
          cases l with
          | nil => simp at this
          | cons a r => simp at this; rw [this]; rfl
        have hdr : (fl b).drop i = l :: (fl b).drop (i + 1) := by
          have h1 := List.getElem?_eq_some_iff.1 HL.out
          obtain ⟨h2, h3⟩ := h1
          rw [List.drop_eq_getElem_cons h2, h3]
        by_cases hbl : blankB y = true ∧ 0 < m
        · have HG2 : Hid (readG (joinLast fs l) ((fl b).drop (i + 1)) = readG [] (fl b)) := Lib.hid (by
            have h0 := HG.out.2.1
            rw [hdr, readG, if_neg ht, if_pos ⟨by rw [hb1y]; exact hbl.1, by intro e; have := HM.out; rw [e] at this; simp at this; omega⟩] at h0
            exact h0)
          obtain ⟨hby, hm0⟩ := hbl
          have hbk := blank_any y
          rw [hby] at hbk
          have htk' := htk
          clear ht htk htk' hy hcy hb1y hdr hby
          obtain ⟨m, rfl⟩ : ∃ m', m = m' + 1 := ⟨m - 1, by omega⟩
          go_wp2_with fail
          refine htx.mono ?_
          rintro e w3 ⟨rfl, hb3⟩
          have hcy3 := (hb3.cell (cell_lt hcy1)).trans hcy1
          have R3 := HR.out.below hb3
          have X3 := HX.out.belowR hb3
          have hs3 : w1.heap.size ≤ w3.heap.size := X3.size
          obtain ⟨vs, ho3, he3⟩ := HF.out.below hb3
          rw [HM.out] at ho3
          have l0 := R3.cell (j := 0) rfl
          clear hcy1 hcx
          obtain ⟨z, hz⟩ : ∃ z, fs[m]? = some z := ⟨_, List.getElem?_eq_getElem (by rw [HM.out]; omega)⟩
          have HZ := Lib.hid hz
          obtain ⟨bz, oz, cz, hvz, hzc, hz0, hRz, hnz⟩ := he3 m z hz
          obtain ⟨go, hgo, hgb, hfz⟩ : ∃ go, Af = some ⟨go, 0, none⟩ ∧ w1.heap.size ≤ go ∧ ∀ j, w3.frozen? ⟨go, j, none⟩ = false := by
            rcases ho3.2 with ⟨hv, _⟩ | ⟨g, cap, cur, hv, hbg, hg, _⟩
            · cases hv
            · cases hv
              exact ⟨g, rfl, hbg, fun j => frozen_of_row w3 g j cur 22 hg⟩
          subst hgo
          have hcz : w3.cell? ⟨go, m, none⟩ = some (.slice (some ⟨bz, oz, none⟩) z.length cz) := by
            have h1 := ho3.cells (g := go) rfl m _ hvz
            have hplain : (⟨go, 0, none⟩ : Addr).add m = ⟨go, m, none⟩ := by unfold Addr.add; split <;> simp_all
            rw [hplain] at h1
            exact h1
          obtain ⟨zl, hzl⟩ : ∃ zl, z.length = zl := ⟨_, rfl⟩
          have HZL := Lib.hid hzl
          rw [hzl] at hcz hzc
          have hzq : zl ≤ q := by
            rw [← HG.out.2.2.2, ← hzl]
            exact List.Sublist.length_le (List.sublist_flatten_of_mem (List.mem_of_getElem? hz))
          have hfzm := hfz m
          clear hz hvz hzl hfz
          have l0d : w3.drew.cell? ⟨w.heap.size, 0, none⟩ = some (.slice (some ⟨go, 0, none⟩) (m + 1) cf) := l0
          have hczd : w3.drew.cell? ⟨go, m, none⟩ = some (.slice (some ⟨bz, oz, none⟩) zl cz) := hcz
          have hfzd : w3.drew.frozen? ⟨go, m, none⟩ = false := hfzm
          have HZM : Hid ((z.map bv).length = zl) := Lib.hid (by rw [List.length_map]; exact HZL.out)
          have hRl3 := hRl.below hb3
          have hRzd : Rv w3.drew (some ⟨bz, oz, none⟩) (z.map bv) := hRz
          have hRl3d : Rb w3.drew (some ⟨b0, of, none⟩) l := hRl3
          have hia := ixa go (m + 1) cf m (by omega)
          have hi0 : (0 : Int) ≤ (m : Int) := by omega
          have hi1 : (m : Int) < ((m + 1 : Nat) : Int) := by omega
          have hcl := clip_any (some ⟨bz, oz, none⟩) zl cz
          have fin : ∀ (c5 : Nat) (w5 : World), w5.ownsRow w3.drew.heap.size 5 1 (.slice (some ⟨w3.drew.heap.size, 0, none⟩) (zl + k) c5) (zl + k) (z.map bv ++ l.map bv) → Below w3.drew.heap.size w3.drew w5 →
              Hid (Row (w5.setCell ⟨go, m, none⟩ (.slice (some ⟨w3.heap.size, 0, none⟩) (zl + k) c5)) w.heap.size 49 [.slice (some ⟨go, 0, none⟩) (m + 1) cf, .slice none 0 0, .slice none 0 0]) ∧
              Hid (FR (w5.setCell ⟨go, m, none⟩ (.slice (some ⟨w3.heap.size, 0, none⟩) (zl + k) c5)) w1.heap.size (.slice (some ⟨go, 0, none⟩) (m + 1) cf) (joinLast fs l)) ∧
              Hid (Ext (fun x => x = w.heap.size) w1 (w5.setCell ⟨go, m, none⟩ (.slice (some ⟨w3.heap.size, 0, none⟩) (zl + k) c5))) := by
            intro c5 w5 ho5 hb5
            have hb5' : Below w3.heap.size w3 w5 := ⟨hb5.os, hb5.tape, hb5.output, hb5.size, hb5.block⟩
            have X7 : Ext (fun x => x = go) w3 (w5.setCell ⟨go, m, none⟩ (.slice (some ⟨w3.heap.size, 0, none⟩) (zl + k) c5)) := (Ext.of_below _ hb5').set ⟨go, m, none⟩ _ rfl
            have hgl : go < w3.heap.size := (ho3.lt go rfl).2
            refine ⟨Lib.hid ((R3.below hb5').far (a := ⟨go, m, none⟩) (by show go ≠ w.heap.size; omega) _), Lib.hid ⟨vs.set m (.slice (some ⟨w3.heap.size, 0, none⟩) (zl + k) c5), ?_, ?_⟩, Lib.hid (X3.trans X7 (fun x hx => .inr (by omega)))⟩
            · rw [jl_len l (by intro e; have := HM.out; rw [e] at this; simp at this), HM.out]
              exact own_setAt (own_below ho3 hb5') (by omega) _
            · intro j x hj
              rw [jl_get HM.out HZ.out] at hj
              by_cases hjm : j = m
              · rw [if_pos hjm] at hj
                cases hj
                subst hjm
                obtain ⟨_, _, e9, h91, _, h92, _⟩ := own_form ho5
                cases e9
                refine ⟨w3.heap.size, 0, c5, ?_, by rw [List.length_append, HZL.out, HK.out]; exact h91, by intro e; exact hl0 (List.append_eq_nil_iff.1 e).2, ?_, ?_⟩
                · rw [List.length_append, HZL.out, HK.out, List.getElem?_set_self]
                  have := ho3.1
                  omega
                · refine Rb.setFar ?_ (by show go ≠ w3.heap.size; omega) _
                  unfold Rb
                  rw [List.map_append]
                  exact h92
                · intro e
                  simp [nb, Value.ownBlock] at e
                  omega
              · rw [if_neg hjm] at hj
                obtain ⟨b', o', c', k1, k2, k3, k4, k5⟩ := he3 j x hj
                refine ⟨b', o', c', by rw [List.getElem?_set_ne (by omega)]; exact k1, k2, k3, rb_ext1 k4 k3 X7 ?_, k5⟩
                rintro rfl
                exact k5 (by simp [nb, Value.ownBlock])
          have HGn : Hid (q + k = ((fl b).take (i + 1)).flatten.length ∧ readG (joinLast fs l) ((fl b).drop (i + 1)) = readG [] (fl b) ∧ (joinLast fs l).length ≤ i + 1 ∧ (joinLast fs l).flatten.length = q + k) := Lib.hid (by
            have hne : fs ≠ [] := by intro e; have := HM.out; rw [e] at this; simp at this
            refine ⟨by rw [HLQ.out, ← HG.out.1], HG2.out, ?_, ?_⟩
            · rw [jl_len l hne]; have := HG.out.2.2.1; omega
            · rw [jl_flat l hne, List.length_append, HG.out.2.2.2, HK.out])
          go_wp2_with fail
          refine (hbk _).mono ?_
          rintro e w4 ⟨rfl, rfl⟩
          go_upto_region 12 with fail
          go_region_law (first | (refine step_app_full (xs := z.map bv) (w := w4.drew) (A := some ⟨bz, oz, none⟩) (n := zl) (y := .slice (some ⟨b0, of, none⟩) k k) (m := k) rfl (.tmp 75) (.tmp 76) _ _ rfl TU8 hRzd HZM.out rfl (Src_rb (w := w4.drew) Tryz.underlying22 HK.out hRl3d) rfl hk1 (by omega) ?_; intro c5 w5 ho5 hb5; have q1 := (hb5.cell (cell_lt hczd)).trans hczd; have q2 := (hb5.frozen (p := ⟨go, m, none⟩) (cell_lt hczd)).trans hfzd; have q3 := (hb5.cell (cell_lt l0d)).trans l0d) | (go_simp; go_at_call 33; refine (hcl _ hzc).mono ?_; rintro e w4' ⟨rfl, rfl⟩))
          all_goals
            go_wp2_with fail
            go_roundw
            case rel =>
              obtain ⟨n1, n2, n3⟩ := fin c5 w5 ho5 hb5
              exact ⟨i + 1, q + k, _, joinLast fs l, by go_num, by go_num, by omega, hqk, HGn, n1, n2, n3⟩
            case measure => simp [intOf]; omega
        · have HG2 : Hid (readG (fs ++ [l]) ((fl b).drop (i + 1)) = readG [] (fl b)) := Lib.hid (by
            have h0 := HG.out.2.1
            rw [hdr, readG, if_neg ht, if_neg (by
              rintro ⟨h1, h2⟩
              rw [hb1y] at h1
              refine hbl ⟨h1, ?_⟩
              rw [← HM.out]
              exact List.length_pos_iff.2 h2)] at h0
            exact h0)
          have HBL := Lib.hid hbl
          clear ht htk hy hcy hb1y hdr hbl
          have hb9 : blankB y = false ∨ (blankB y = true ∧ m = 0) := by
            have := HBL.out
            cases hby : blankB y with
            | false => exact .inl rfl
            | true => exact .inr ⟨rfl, by rw [hby] at this; simp at this; omega⟩
          have hbk := blank_any y
          rcases hb9 with hb9 | ⟨hb9, rfl⟩
          · rw [hb9] at hbk
            clear hb9
            go_wp2_with fail
            refine htx.mono ?_
            rintro e w3 ⟨rfl, hb3⟩
            have hcy3 := (hb3.cell (cell_lt hcy1)).trans hcy1
            have R3 := HR.out.below hb3
            have X3 := HX.out.belowR hb3
            have hs3 : w1.heap.size ≤ w3.heap.size := X3.size
            obtain ⟨vs, ho3, he3⟩ := HF.out.below hb3
            rw [HM.out] at ho3
            have l0 := R3.cell (j := 0) rfl
            have hvl : vs.length = m := by have := ho3.1; omega
            have hO := ho3.alloc (.cells #[.slice (some ⟨b0, of, none⟩) k k] 22)
            have hbA : Below w3.heap.size w3 (w3.alloc (.cells #[.slice (some ⟨b0, of, none⟩) k k] 22)) := (Below.refl _ _).alloc (Nat.le_refl _) _
            have RA := R3.alloc (.cells #[.slice (some ⟨b0, of, none⟩) k k] 22)
            clear hcy1 hcx
            go_wp2_with fail
            refine (hbk _).mono ?_
            rintro e w4 ⟨rfl, rfl⟩
            go_wp2_with (at_builtin; refine wpList_app rfl _ _ _ _ rfl TBs hO rfl (Src_rv (news := [.slice (some ⟨b0, of, none⟩) k k]) Tryz.underlying47 rfl (Rv_new w4 _ _ _ rfl) (by simp [Value.oneCell']) (by omega)) rfl (by omega) (by simp; omega) ?_; intro v6 w6 hown6 hgr6 hat6; obtain ⟨A6, c6, hv6, _, _, _, _⟩ := own_form hown6; subst hv6; have R6 := RA.block (hgr6.block _ RA.lt (fun e => by have := hO.lt _ e.symm; omega)); have k60 := R6.cell (j := 0) rfl; have f60 := R6.frozen 0)
            go_roundw
            case rel =>
              have X7 : Ext (fun x => x = w.heap.size ∨ nb (.slice Af m cf) x) w4 (w6.setCell ⟨w.heap.size, 0, none⟩ (.slice A6 (m + 1) c6)) := (((Ext.of_below _ hbA).trans (Ext.of_grown hgr6 fun x hx => .inr hx) fun _ hx => .inl hx)).set ⟨w.heap.size, 0, none⟩ _ (.inl rfl)
              have X8 : Ext (fun x => x = w.heap.size) w1 (w6.setCell ⟨w.heap.size, 0, none⟩ (.slice A6 (m + 1) c6)) := X3.trans X7 (fun x hx => by
                rcases hx with hx | hx
                · exact .inl hx
                · have := (ho3.lt x hx).1
                  exact .inr this)
              have B8 : Below w.heap.size w (w6.setCell ⟨w.heap.size, 0, none⟩ (.slice A6 (m + 1) c6)) := X8.below hB1 (by omega) (fun x hx => by omega)
              refine ⟨i + 1, q + k, _, fs ++ [l], by go_num, by go_num, by omega, hqk, Lib.hid ⟨by rw [HLQ.out, ← HG.out.1], HG2.out, by rw [List.length_append, List.length_singleton]; have := HG.out.2.2.1; omega, by rw [List.flatten_append, List.length_append, HG.out.2.2.2]; simp [HK.out]⟩, Lib.hid (R6.set 0 (.slice A6 (m + 1) c6)), Lib.hid ⟨vs ++ [.slice (some ⟨b0, of, none⟩) k k], ?_, ?_⟩, Lib.hid X8⟩
              · rw [List.length_append, List.length_singleton, HM.out]
                exact ownsRow_setCell_below hown6 (by show w.heap.size < w1.heap.size; omega) _
              · intro j x hj
                by_cases hjm : j < m
                · rw [List.getElem?_append_left (by rw [HM.out]; exact hjm)] at hj
                  obtain ⟨b', o', c', k1, k2, k3, k4, k5⟩ := he3 j x hj
                  refine ⟨b', o', c', by rw [List.getElem?_append_left (by omega)]; exact k1, k2, k3, rb_ext1 k4 k3 X7 ?_, ?_⟩
                  · rintro (e | e)
                    · exact rb_notR R3 k4 k3 (hcs _ _ (by intro x e; cases e) (by intro x e; cases e)) e
                    · exact k5 e
                  · intro e
                    rcases hat6 with h6 | h6
                    · exact k5 (h6.symm.trans e)
                    · have := rb_lt k4 k3
                      have h7 := h6.symm.trans e
                      simp at h7
                      omega
                · have hjl : j = m := by
                    have := lt_of_get hj
                    rw [List.length_append, List.length_singleton, HM.out] at this
                    omega
                  subst hjl
                  rw [List.getElem?_append_right (by rw [HM.out]; exact Nat.le_refl _), HM.out, Nat.sub_self] at hj
                  cases hj
                  have hbb : b0 < w.heap.size := rb_lt (HRL.out w (Below.refl _ _)) hl0
                  refine ⟨b0, of, k, ?_, by rw [HK.out]; exact Nat.le_refl _, hl0, HRL.out _ B8, fun e => by have := (hown6.lt _ e).1; omega⟩
                  rw [HK.out, List.getElem?_append_right (by omega), hvl, Nat.sub_self]
                  rfl
            case measure => simp [intOf]; omega
          · rw [hb9] at hbk
            clear hb9
            go_wp2_with fail
            refine htx.mono ?_
            rintro e w3 ⟨rfl, hb3⟩
            have hcy3 := (hb3.cell (cell_lt hcy1)).trans hcy1
            have R3 := HR.out.below hb3
            have X3 := HX.out.belowR hb3
            have hs3 : w1.heap.size ≤ w3.heap.size := X3.size
            obtain ⟨vs, ho3, he3⟩ := HF.out.below hb3
            rw [HM.out] at ho3
            have l0 := R3.cell (j := 0) rfl
            have hvl : vs.length = 0 := by have := ho3.1; omega
            have hO := ho3.alloc (.cells #[.slice (some ⟨b0, of, none⟩) k k] 22)
            have hbA : Below w3.heap.size w3 (w3.alloc (.cells #[.slice (some ⟨b0, of, none⟩) k k] 22)) := (Below.refl _ _).alloc (Nat.le_refl _) _
            have RA := R3.alloc (.cells #[.slice (some ⟨b0, of, none⟩) k k] 22)
            clear hcy1 hcx
            go_wp2_with fail
            refine (hbk _).mono ?_
            rintro e w4 ⟨rfl, rfl⟩
            go_wp2_with (at_builtin; refine wpList_app rfl _ _ _ _ rfl TBs hO rfl (Src_rv (news := [.slice (some ⟨b0, of, none⟩) k k]) Tryz.underlying47 rfl (Rv_new w4 _ _ _ rfl) (by simp [Value.oneCell']) (by omega)) rfl (by omega) (by simp; omega) ?_; intro v6 w6 hown6 hgr6 hat6; obtain ⟨A6, c6, hv6, _, _, _, _⟩ := own_form hown6; subst hv6; have R6 := RA.block (hgr6.block _ RA.lt (fun e => by have := hO.lt _ e.symm; omega)); have k60 := R6.cell (j := 0) rfl; have f60 := R6.frozen 0)
            go_roundw
            case rel =>
              have X7 : Ext (fun x => x = w.heap.size ∨ nb (.slice Af 0 cf) x) w4 (w6.setCell ⟨w.heap.size, 0, none⟩ (.slice A6 (0 + 1) c6)) := (((Ext.of_below _ hbA).trans (Ext.of_grown hgr6 fun x hx => .inr hx) fun _ hx => .inl hx)).set ⟨w.heap.size, 0, none⟩ _ (.inl rfl)
              have X8 : Ext (fun x => x = w.heap.size) w1 (w6.setCell ⟨w.heap.size, 0, none⟩ (.slice A6 (0 + 1) c6)) := X3.trans X7 (fun x hx => by
                rcases hx with hx | hx
                · exact .inl hx
                · have := (ho3.lt x hx).1
                  exact .inr this)
              have B8 : Below w.heap.size w (w6.setCell ⟨w.heap.size, 0, none⟩ (.slice A6 (0 + 1) c6)) := X8.below hB1 (by omega) (fun x hx => by omega)
              refine ⟨i + 1, q + k, _, fs ++ [l], by go_num, by go_num, by omega, hqk, Lib.hid ⟨by rw [HLQ.out, ← HG.out.1], HG2.out, by rw [List.length_append, List.length_singleton]; have := HG.out.2.2.1; omega, by rw [List.flatten_append, List.length_append, HG.out.2.2.2]; simp [HK.out]⟩, Lib.hid (R6.set 0 (.slice A6 (0 + 1) c6)), Lib.hid ⟨vs ++ [.slice (some ⟨b0, of, none⟩) k k], ?_, ?_⟩, Lib.hid X8⟩
              · rw [List.length_append, List.length_singleton, HM.out]
                exact ownsRow_setCell_below hown6 (by show w.heap.size < w1.heap.size; omega) _
              · intro j x hj
                by_cases hjm : j < 0
                · rw [List.getElem?_append_left (by rw [HM.out]; exact hjm)] at hj
                  obtain ⟨b', o', c', k1, k2, k3, k4, k5⟩ := he3 j x hj
                  refine ⟨b', o', c', by rw [List.getElem?_append_left (by omega)]; exact k1, k2, k3, rb_ext1 k4 k3 X7 ?_, ?_⟩
                  · rintro (e | e)
                    · exact rb_notR R3 k4 k3 (hcs _ _ (by intro x e; cases e) (by intro x e; cases e)) e
                    · exact k5 e
                  · intro e
                    rcases hat6 with h6 | h6
                    · exact k5 (h6.symm.trans e)
                    · have := rb_lt k4 k3
                      have h7 := h6.symm.trans e
                      simp at h7
                      omega
                · have hjl : j = 0 := by
                    have := lt_of_get hj
                    rw [List.length_append, List.length_singleton, HM.out] at this
                    omega
                  subst hjl
                  rw [List.getElem?_append_right (by rw [HM.out]; exact Nat.le_refl _), HM.out, Nat.sub_self] at hj
                  cases hj
                  have hbb : b0 < w.heap.size := rb_lt (HRL.out w (Below.refl _ _)) hl0
                  refine ⟨b0, of, k, ?_, by rw [HK.out]; exact Nat.le_refl _, hl0, HRL.out _ B8, fun e => by have := (hown6.lt _ e).1; omega⟩
                  rw [HK.out, List.getElem?_append_right (by omega), hvl, Nat.sub_self]
                  rfl
            case measure => simp [intOf]; omega
    · obtain rfl : i = ps.length := by omega
      have l0 := HR.out.cell (j := 0) rfl
      have l1 := HR.out.cell (j := 1) rfl
      have l2 := HR.out.cell (j := 2) rfl
      have f0 := HR.out.frozen 0
      have f1 := HR.out.frozen 1
      have f2 := HR.out.frozen 2
      have q3 := ((HR.out.set 0 (.slice none 0 0)).set 1 (.slice none 0 0)).set 2 (.slice none 0 0)
      have B3 := ((hbr.setCell (p := ⟨w.heap.size, 0, none⟩) (Nat.le_refl _) (.slice none 0 0)).setCell (p := ⟨w.heap.size, 1, none⟩) (Nat.le_refl _) (.slice none 0 0)).setCell (p := ⟨w.heap.size, 2, none⟩) (Nat.le_refl _) (.slice none 0 0)
      have hrg : readG [] (fl b) = none := by
        rw [← HG.out.2.1, List.drop_eq_nil_of_le (by rw [← HLS.out.all HLE.out, lnTold, List.length_map]; exact Nat.le_refl _)]
        rfl
      go_wp2_with fail
      obtain ⟨W9, hW9⟩ : ∃ W9, ((wr.setCell ⟨w.heap.size, 0, none⟩ (.slice none 0 0)).setCell ⟨w.heap.size, 1, none⟩ (.slice none 0 0)).setCell ⟨w.heap.size, 2, none⟩ (.slice none 0 0) = W9 := ⟨_, rfl⟩
      rw [hW9] at q3 B3 ⊢
      have e0 := q3.cell (j := 0) rfl
      have e1 := q3.cell (j := 1) rfl
      have e2 := q3.cell (j := 2) rfl
      refine bodyPost_ret (v := .tuple #[.agg #[.slice none 0 0, .slice none 0 0, .slice none 0 0], .bool false, .bool false]) (by simp [results, Tryz.results15, go_sem, e0, e1, e2]) rfl ⟨?_, B3⟩
      unfold ReadOut
      rw [hrg]
end Go.Proofs.YtcagkoakbdbbaaaGreatDoor
