/- MimeOpen's walk: a mail without a kind is a text, its body as it is. -/
import Derived.Test.YtfdkcgdanhlfkaaGreatDoorJ19
import Derived.Test.YtfdkcgdanhlfkaaGreatDoorJ46
namespace Go.Proofs.YtfdkcgdanhlfkaaGreatDoor
set_option linter.unusedVariables false
set_option linter.unusedSimpArgs false
open Go.RowKit

theorem Pl_ok {P : Program} {w : World} {r : Reach} {base : Nat} {t e : TypeId} {A : Option Addr} {n c : Nat} (ht : P.underlying t = some (.slice e)) (h : Value.okWide P w r base t (.slice A n c)) : Pl A c := by
  have h' : Cell.ok P w r base t (.slice A n c) := by simpa [Value.okWide, Cell.okWide, ht] using h
  rcases A with _ | ⟨b, o, s⟩
  · refine .inl ⟨rfl, ?_⟩
    rcases c with _ | c
    · rfl
    · exfalso
      rcases n with _ | n <;> simp [Cell.ok, ht] at h'
  · right
    simp only [Cell.ok, ht, World.has] at h'
    obtain ⟨_, _, _, hs, _⟩ := h'
    subst hs
    exact ⟨b, o, rfl⟩
theorem row_grown {w w' : World} {g : Nat} {t e : TypeId} {cs xs : List Value} {size n : Nat} {v : Value} (h : Row w g t cs) (hg : w.grownBy w' v.ownBlock) (ho : OwnM w (g + 1) e size v n xs) : Row w' g t cs := by
  have hl : g < w.heap.size := (Array.getElem?_eq_some_iff.1 h).1
  exact (hg.block g hl (fun e => by have := (ho.lt g e.symm).1; omega)).trans h
theorem own_set_far {w : World} {base : Nat} {e : TypeId} {size n : Nat} {v u : Value} {xs : List Value} {p : Addr} (h : OwnM w base e size v n xs) (hp : p.block < base) : OwnM (w.setCell p u) base e size v n xs := by
  refine ⟨h.1, ?_⟩
  rcases h.2 with hn | ⟨g, cap, cur, fz, hv, hb, hg, rest⟩
  · exact .inl hn
  · exact .inr ⟨g, cap, cur, fz, hv, hb, (Below.heap_setCell w p u g (by omega)).trans hg, rest⟩
theorem row_apart {w : World} {g base : Nat} {t e : TypeId} {cs xs : List Value} {size n : Nat} {v : Value} (h : Row w g t cs) (ho : OwnM w base e size v n xs) (hne : t ≠ e) : v.ownBlock ≠ some g := by
  intro hv
  rcases ho.2 with ⟨rfl, _⟩ | ⟨g', cap, cur, fz, rfl, _, hg, _⟩
  · simp [Value.ownBlock] at hv
  · simp [Value.ownBlock] at hv
    subst hv
    unfold Row at h
    rw [h] at hg
    injection hg with hg
    injection hg with _ h2 _
    exact hne h2
theorem fc_snoc (gs : List (List UInt8 × List UInt8)) (p : List UInt8 × List UInt8) : Fd.fcells (gs ++ [p]) = Fd.fcells gs ++ [.string (bs p.1), .string (bs p.2)] := by
  unfold Fd.fcells
  rw [List.flatMap_append]
  rfl

set_option maxRecDepth 100000 in
set_option maxHeartbeats 4000000 in
theorem mimeOpen_any (A A2 A3 : Option Addr) (fs : List (List UInt8 × List UInt8)) (l : List UInt8) (n c n2 c2 n3 c3 : Nat) (w : World) (hn : fs.length = n) (hA : Fd.Rf w A fs) (hn3 : l.length = n3) (hA3 : Rb w A3 l) (h3c : n3 ≤ c3) (hpl : Pl A3 c3)
    (hx : n ≤ 9223372036854775807) (hx3 : n3 ≤ 9223372036854775807) (hfl : ∀ p ∈ fs, p.1.length ≤ 9223372036854775807 ∧ p.2.length ≤ 9223372036854775807)
    (hT : Lib.Utf8Tabs 2 3 w) (hM : Tk.Mx w) (hC : w.cell? ⟨0, 1, none⟩ = some (.string (bs [98, 97, 115, 101, 54, 52]))) :
    Calls Tryz.prog 5 #[.agg #[.slice A n c, .slice A2 n2 c2], .slice A3 n3 c3] w fun e w' => e = .returned (.bool true) ∧ Below w.heap.size w w' := by
  have HN := Lib.hid hn
  have HN3 := Lib.hid hn3
  have HF := Lib.hid hfl
  clear hn hn3 hfl
  have hB0 : Below w.heap.size w (w.alloc (.cells #[.slice A n c, .slice A2 n2 c2] 38)) := (Below.refl _ _).alloc (Nat.le_refl _) _
  have hsp := speaks_any (w.alloc (.cells #[.slice A n c, .slice A2 n2 c2] 38))
  have r0 := Row.new w #[.slice A n c, .slice A2 n2 c2] 38
  by_cases g1 : 30 < n
  · go_enter Tryz.func5, Tryz.ntmps5
    go_wp2_with fail
    refine hsp.mono ?_
    rintro e w1 ⟨rfl, hb1⟩
    have l0 := (r0.below hb1).cell (j := 0) rfl
    go_wp2_with fail
    go_ret
    exact ⟨rfl, hB0.trans (hb1.mono hB0.size)⟩
  by_cases g2 : 1000 < n3
  · go_enter Tryz.func5, Tryz.ntmps5
    go_wp2_with fail
    refine hsp.mono ?_
    rintro e w1 ⟨rfl, hb1⟩
    have l0 := (r0.below hb1).cell (j := 0) rfl
    go_wp2_with fail
    go_ret
    exact ⟨rfl, hB0.trans (hb1.mono hB0.size)⟩
  go_enter Tryz.func5, Tryz.ntmps5
  go_wp2_with fail
  refine hsp.mono ?_
  rintro e w1 ⟨rfl, hb1⟩
  have r1 := r0.below hb1
  have l0 := r1.cell (j := 0) rfl
  have hB1 := hB0.trans (hb1.mono hB0.size)
  have hs1 : w.heap.size + 1 ≤ w1.heap.size := by have := hb1.size; simp at this; omega
  clear r0 hsp hb1 hB0
  have hA5 : Below w1.heap.size w1 (w1.alloc (.cells #[.slice none 0 0, .slice A3 n3 c3] 38)) := (Below.refl _ _).alloc (Nat.le_refl _) _
  have l5 := (hA5.cell (p := ⟨w.heap.size, 0, none⟩) (cell_lt l0)).trans l0
  have rx := Row.new w1 #[.slice none 0 0, .slice A3 n3 c3] 38
  go_wp2_with fail
  go_loopw [26] (fun i wr => ∃ (j k : Nat) (v : Value) (gs : List (List UInt8 × List UInt8)), i = .int .i64 j ∧ j ≤ n ∧ k ≤ j ∧ Hid (gs.length = k ∧ gs = (fs.take j).filter okF) ∧ Hid (Row wr w1.heap.size 38 [v, .slice A3 n3 c3]) ∧ Hid (OwnM wr (w1.heap.size + 1) 40 2 v k (Fd.fcells gs)) ∧ Below w1.heap.size w1 wr) (fun i _ => n - (intOf i).toNat)
  case atStart => exact ⟨0, 0, _, [], rfl, by omega, by omega, Lib.hid ⟨rfl, rfl⟩, Lib.hid rx, Lib.hid (OwnM.nil _ _ _ _), hA5⟩
  case round =>
    obtain ⟨j, k, v, gs, rfl, hj, hkj, HG, HR, HO, hB⟩ := hrel
    have hsz := hB.size
    obtain ⟨Av, cv, hv, hvc, hvm, _, _, _, _⟩ := HO.out.form
    subst hv
    by_cases hlt : j < n
    · obtain ⟨b, o, p, rfl, hp, e0, e1⟩ := (hA.below (hB1.trans (hB.mono (by omega)))).one (k := j) (by rw [HN.out]; exact hlt)
      obtain ⟨hl1, hl2⟩ := HF.out p (List.mem_of_getElem? hp.out)
      have hwa : Below wr.heap.size wr (wr.alloc (.cells #[.string (bs p.1), .string (bs p.2)] 40)) := (Below.refl _ _).alloc (Nat.le_refl _) _
      have hsz1 := hwa.size
      have hBa1 : Below w1.heap.size w1 (wr.alloc (.cells #[.string (bs p.1), .string (bs p.2)] 40)) := hB.trans (hwa.mono hsz)
      have hr1 := HR.out.below hwa
      have k10 := hr1.cell (j := 0) rfl
      have hwb : Below (wr.alloc (.cells #[.string (bs p.1), .string (bs p.2)] 40)).heap.size (wr.alloc (.cells #[.string (bs p.1), .string (bs p.2)] 40)) ((wr.alloc (.cells #[.string (bs p.1), .string (bs p.2)] 40)).alloc (.cells #[.string (bs p.1), .string (bs p.2)] 40)) := (Below.refl _ _).alloc (Nat.le_refl _) _
      have hBa2 := hBa1.trans (hwb.mono hBa1.size)
      have hsz2 := hBa2.size
      have hr2 := hr1.below hwb
      have hO2 : OwnM ((wr.alloc (.cells #[.string (bs p.1), .string (bs p.2)] 40)).alloc (.cells #[.string (bs p.1), .string (bs p.2)] 40)) (w1.heap.size + 1) 40 2 (.slice Av k cv) k (Fd.fcells gs) := (HO.out.alloc _).alloc _
      have hrv2 := Rv_at (wr.alloc (.cells #[.string (bs p.1), .string (bs p.2)] 40)) #[.string (bs p.1), .string (bs p.2)] [.string (bs p.1), .string (bs p.2)] 40 rfl (g := wr.heap.size + 1) (by simp)
      have hone2 : ∀ u ∈ [Value.string (bs p.1), Value.string (bs p.2)], u.oneCell' = true := by simp [Value.oneCell']
      have hnl2 : [Value.string (bs p.1), Value.string (bs p.2)].length = 1 * 2 := rfl
      have hbd2 : (k + 1) * 32 ≤ 140737488355328 := by omega
      have hbs2 : w1.heap.size + 1 ≤ ((wr.alloc (.cells #[.string (bs p.1), .string (bs p.2)] 40)).alloc (.cells #[.string (bs p.1), .string (bs p.2)] 40)).heap.size := by simp; omega
      by_cases h8 : p.1.length < 8
      · have HOK : Hid (okF p = true) := Lib.hid (by unfold okF; simp [h8])
        go_wp2_with (at_builtin; refine wpList_appM rfl _ _ _ _ rfl Fd.TField hO2 rfl (Src_rv Tryz.underlying36 hnl2 hrv2 hone2 (Nat.succ_pos 1)) rfl hbd2 hbs2 ?_; intro v6 w6 own6 gr6 at6; obtain ⟨A6, c6, hv6, _, _, _, _, _, _⟩ := own6.form; subst hv6; have r6 := row_grown hr2 gr6 hO2; have k60 := r6.cell (j := 0) rfl; have f60 := r6.frozen 0)
        go_roundw
        case rel =>
          have hgr : Below w1.heap.size w1 w6 := below_appM hBa2 hO2 gr6 hsz2 (by omega)
          refine ⟨j + 1, k + 1, _, gs ++ [p], by go_num, by omega, by omega, Lib.hid ⟨by simp [HG.out.1], by rw [take_succ_of hp.out, List.filter_append, ← HG.out.2]; simp [HOK.out]⟩, Lib.hid (r6.set 0 (.slice A6 (k + 1) c6)), Lib.hid ?_, hgr.setCell (by simp) _⟩
          exact own_set_far (by rw [fc_snoc]; exact own6) (by show w1.heap.size < w1.heap.size + 1; omega)
        case measure => simp [intOf]; omega
      · obtain ⟨x, hx⟩ : ∃ x, p.1[0]? = some x := ⟨_, List.getElem?_eq_getElem (by omega)⟩
        have hsi : ∀ W, (Instr.index 9 (.string (bs p.1)) (.int .i64 0)).run Tryz.prog W = .ok (.int .u8 (x.toNat : Int)) W := str_index (P := Tryz.prog) Tryz.underlying9 hx .i64
        have t67 : ((x.toNat : Int) != 67) = (x != 67) := u8_bne x 67
        have t99 : ((x.toNat : Int) != 99) = (x != 99) := u8_bne x 99
        by_cases x67 : x = 67
        · have HOK : Hid (okF p = false) := Lib.hid (by unfold okF; rw [hx, x67]; simp [h8])
          have q67 : ((x.toNat : Int) != 67) = false := by rw [t67, x67]; rfl
          clear t67 t99 hx x67
          go_wp2_with fail
          go_roundw
          case rel => exact ⟨j + 1, k, _, gs, by go_num, by omega, by omega, Lib.hid ⟨HG.out.1, by rw [take_succ_of hp.out, List.filter_append, ← HG.out.2]; simp [HOK.out]⟩, Lib.hid hr1, Lib.hid (HO.out.alloc _), hBa1⟩
          case measure => simp [intOf]; omega
        · have q67 : ((x.toNat : Int) != 67) = true := by rw [t67]; simpa using x67
          by_cases x99 : x = 99
          · have HOK : Hid (okF p = false) := Lib.hid (by unfold okF; rw [hx, x99]; simp [h8])
            have q99 : ((x.toNat : Int) != 99) = false := by rw [t99, x99]; rfl
            clear t67 t99 hx x67 x99
            go_wp2_with fail
            go_roundw
            case rel => exact ⟨j + 1, k, _, gs, by go_num, by omega, by omega, Lib.hid ⟨HG.out.1, by rw [take_succ_of hp.out, List.filter_append, ← HG.out.2]; simp [HOK.out]⟩, Lib.hid hr1, Lib.hid (HO.out.alloc _), hBa1⟩
            case measure => simp [intOf]; omega
          · have HOK : Hid (okF p = true) := Lib.hid (by unfold okF; rw [hx]; simp [x67, x99])
            have q99 : ((x.toNat : Int) != 99) = true := by rw [t99]; simpa using x99
            clear t67 t99 hx x67 x99
            go_wp2_with (at_builtin; refine wpList_appM rfl _ _ _ _ rfl Fd.TField hO2 rfl (Src_rv Tryz.underlying36 hnl2 hrv2 hone2 (Nat.succ_pos 1)) rfl hbd2 hbs2 ?_; intro v6 w6 own6 gr6 at6; obtain ⟨A6, c6, hv6, _, _, _, _, _, _⟩ := own6.form; subst hv6; have r6 := row_grown hr2 gr6 hO2; have k60 := r6.cell (j := 0) rfl; have f60 := r6.frozen 0)
            go_roundw
            case rel =>
              have hgr : Below w1.heap.size w1 w6 := below_appM hBa2 hO2 gr6 hsz2 (by omega)
              refine ⟨j + 1, k + 1, _, gs ++ [p], by go_num, by omega, by omega, Lib.hid ⟨by simp [HG.out.1], by rw [take_succ_of hp.out, List.filter_append, ← HG.out.2]; simp [HOK.out]⟩, Lib.hid (r6.set 0 (.slice A6 (k + 1) c6)), Lib.hid ?_, hgr.setCell (by simp) _⟩
              exact own_set_far (by rw [fc_snoc]; exact own6) (by show w1.heap.size < w1.heap.size + 1; omega)
            case measure => simp [intOf]; omega
    · obtain rfl : n = j := by omega
      have HK : Hid (∀ p ∈ gs, okF p = true) := Lib.hid fun p hp => by rw [HG.out.2] at hp; exact (List.mem_filter.1 hp).2
      have HGL := Lib.hid HG.out.1
      have k0 := HR.out.cell (j := 0) rfl
      have k1 := HR.out.cell (j := 1) rfl
      have hBw := hB1.trans (hB.mono (by omega))
      have own := HO.out
      have rv : Fd.Rf wr Av gs := by
        obtain ⟨_, _, e, _, _, hr, _, _, _⟩ := own.form
        cases e
        exact hr
      have hr1 := mreadP_any Av A3 gs l k cv n3 c3 wr HGL.out rv HN3.out (hA3.below hBw) h3c hpl (tabs_below hT hBw) (by omega) (by omega) (by rw [vals_none HK.out (by decide) rfl]; rfl) (by rw [vals_none HK.out (by decide) rfl]; rfl)
      clear HG
      go_wp2_with fail
      refine hr1.mono ?_
      rintro e w2 ⟨⟨A4, c4, rfl, h4, hR4⟩, hb2⟩
      go_wp2_with fail
      have hs2 := hb2.size
      have hPl : Below w2.heap.size w2 (w2.alloc (.cells #[.string (bs [116, 101, 120, 116, 47, 112, 108, 97, 105, 110]), .slice none 0 0, .int .i64 0, .slice A4 n3 c4, .slice none 0 0] 44)) := (Below.refl _ _).alloc (Nat.le_refl _) _
      have rP := Row.new w2 #[.string (bs [116, 101, 120, 116, 47, 112, 108, 97, 105, 110]), .slice none 0 0, .int .i64 0, .slice A4 n3 c4, .slice none 0 0] 44
      have hBP : Below wr.heap.size wr (w2.alloc (.cells #[.string (bs [116, 101, 120, 116, 47, 112, 108, 97, 105, 110]), .slice none 0 0, .int .i64 0, .slice A4 n3 c4, .slice none 0 0] 44)) := hb2.trans (hPl.mono hs2)
      have rX := HR.out.below hBP
      have oX := own.below hBP
      have hsame := same_any A4 A3 l l n3 n3 c4 c3 _ HN3.out HN3.out (hR4.below hPl) (hA3.below (hBw.trans (hBP.mono hBw.size))) (by omega)
      refine hsame.mono ?_
      rintro e w3 ⟨he, q, hq⟩
      obtain rfl : e = .returned (.bool true) := by rw [he]; simp
      have hBq : Below wr.heap.size wr w3 := by rw [hq]; exact hBP.trans ((Dn.of _ q).below _)
      have rX3 : Row w3 w1.heap.size 38 [.slice Av k cv, .slice A3 n3 c3] := by rw [hq]; exact rX
      have rP3 : Row w3 w2.heap.size 44 [.string (bs [116, 101, 120, 116, 47, 112, 108, 97, 105, 110]), .slice none 0 0, .int .i64 0, .slice A4 n3 c4, .slice none 0 0] := by rw [hq]; exact rP
      have oX3 : OwnM w3 (w1.heap.size + 1) 40 2 (.slice Av k cv) k (Fd.fcells gs) := by rw [hq]; exact oX
      clear hq he hsame rX rP oX hBP hPl hR4 k0 k1 hr1
      have m0 := rX3.cell (j := 0) rfl
      have m1 := rX3.cell (j := 1) rfl
      have hs3 := hBq.size
      have hwc : Below w3.heap.size w3 (w3.alloc (.cells #[.string (bs fA.1), .string (bs fA.2), .string (bs fB.1), .string (bs fB.2)] 40)) := (Below.refl _ _).alloc (Nat.le_refl _) _
      have hBc : Below w1.heap.size w1 (w3.alloc (.cells #[.string (bs fA.1), .string (bs fA.2), .string (bs fB.1), .string (bs fB.2)] 40)) := (hB.trans (hBq.mono hsz)).trans (hwc.mono (by omega))
      have hrc := rX3.below hwc
      have hPc := rP3.below hwc
      have hOc : OwnM (w3.alloc (.cells #[.string (bs fA.1), .string (bs fA.2), .string (bs fB.1), .string (bs fB.2)] 40)) (w1.heap.size + 1) 40 2 (.slice Av k cv) k (Fd.fcells gs) := oX3.alloc _
      have hvc2 : Rv (w3.alloc (.cells #[.string (bs fA.1), .string (bs fA.2), .string (bs fB.1), .string (bs fB.2)] 40)) (some ⟨w3.heap.size, 0, none⟩) [.string (bs fA.1), .string (bs fA.2), .string (bs fB.1), .string (bs fB.2)] := Rv_new w3 _ _ _ rfl
      have honec : ∀ u ∈ ([.string (bs fA.1), .string (bs fA.2), .string (bs fB.1), .string (bs fB.2)] : List Value), u.oneCell' = true := by simp [Value.oneCell']
      have hnlc : ([.string (bs fA.1), .string (bs fA.2), .string (bs fB.1), .string (bs fB.2)] : List Value).length = 2 * 2 := rfl
      have hbdc : (k + 2) * 32 ≤ 140737488355328 := by omega
      have hbsc : w1.heap.size + 1 ≤ (w3.alloc (.cells #[.string (bs fA.1), .string (bs fA.2), .string (bs fB.1), .string (bs fB.2)] 40)).heap.size := by simp; omega
      have hszc := hBc.size
      go_upto_region 16 with (at_builtin; refine wpList_appM rfl _ _ _ _ rfl Fd.TField hOc rfl (Src_rv Tryz.underlying36 hnlc hvc2 honec (Nat.succ_pos 1)) rfl hbdc hbsc ?_; intro v7 w7 own7 gr7 at7; obtain ⟨A7, c7, hv7, _, _, _, _, _, _⟩ := own7.form; subst hv7; have r7 := row_grown hrc gr7 hOc; have k70 := r7.cell (j := 0) rfl; have f70 := r7.frozen 0)
      have hB7 : Below w1.heap.size w1 w7 := below_appM hBc hOc gr7 hszc (by omega)
      have hs7 := hB7.size
      have P7 : Row w7 w2.heap.size 44 [.string (bs [116, 101, 120, 116, 47, 112, 108, 97, 105, 110]), .slice none 0 0, .int .i64 0, .slice A4 n3 c4, .slice none 0 0] := hPc.block (gr7.block _ hPc.lt (fun e => row_apart hPc hOc (by decide) e.symm))
      have r8 := r7.set 0 (.slice A7 (k + 2) c7)
      have P8 := P7.far (a := ⟨w1.heap.size, 0, none⟩) (by show w1.heap.size ≠ w2.heap.size; have := HR.out.lt; omega) (.slice A7 (k + 2) c7)
      have own8 := own_set_far (p := ⟨w1.heap.size, 0, none⟩) (u := .slice A7 (k + 2) c7) own7 (by show w1.heap.size < w1.heap.size + 1; omega)
      have hB8 := hB7.setCell (p := ⟨w1.heap.size, 0, none⟩) (Nat.le_refl _) (.slice A7 (k + 2) c7)
      obtain ⟨w8, hw8⟩ : ∃ w8, w7.setCell ⟨w1.heap.size, 0, none⟩ (.slice A7 (k + 2) c7) = w8 := ⟨_, rfl⟩
      rw [hw8] at r8 P8 own8 hB8 ⊢
      clear hw8 r7 P7 own7 k70 f70 gr7 at7 hrc hPc hOc hvc2 m0 m1
      have hwd : Below w8.heap.size w8 (w8.alloc (.cells #[.int .u8 90, .int .u8 109, .int .u8 56, .int .u8 32, .int .u8 61, .int .u8 10] 5 (6, 7))) := (Below.refl _ _).alloc (Nat.le_refl _) _
      have hcv := Lib.run_convert_bytes_const (P := Tryz.prog) w8 22 5 #[.int .u8 90, .int .u8 109, .int .u8 56, .int .u8 32, .int .u8 61, .int .u8 10] 6 6 Tryz.underlying22 Tryz.underlying5
      have r9 := r8.below hwd
      have P9 := P8.below hwd
      have own9 := own8.below hwd
      have hB9 := hB8.trans (hwd.mono hB8.size)
      have hR9 : Rb (w8.alloc (.cells #[.int .u8 90, .int .u8 109, .int .u8 56, .int .u8 32, .int .u8 61, .int .u8 10] 5 (6, 7))) (some ⟨w8.heap.size, 0, none⟩) [90, 109, 56, 32, 61, 10] := Rb_new w8 [90, 109, 56, 32, 61, 10] _ _ rfl 6 (6, 7)
      have k91 := r9.cell (j := 1) rfl
      have f91 := r9.frozen 1
      go_upto_region 17 with fail
      have hlt0 := HR.out.lt
      have hs8 := hB8.size
      have r10 := r9.set 1 (.slice (some ⟨w8.heap.size, 0, none⟩) 6 6)
      have P10 := P9.far (a := ⟨w1.heap.size, 1, none⟩) (by show w1.heap.size ≠ w2.heap.size; omega) (.slice (some ⟨w8.heap.size, 0, none⟩) 6 6)
      have own10 := own_set_far (p := ⟨w1.heap.size, 1, none⟩) (u := .slice (some ⟨w8.heap.size, 0, none⟩) 6 6) own9 (by show w1.heap.size < w1.heap.size + 1; omega)
      have hB10 := hB9.setCell (p := ⟨w1.heap.size, 1, none⟩) (Nat.le_refl _) (.slice (some ⟨w8.heap.size, 0, none⟩) 6 6)
      have hR10 := Rb_set (p := ⟨w1.heap.size, 1, none⟩) hR9 (.slice (some ⟨w8.heap.size, 0, none⟩) 6 6) (by rintro b o e; cases e; show w8.heap.size ≠ w1.heap.size; have := r8.lt; omega)
      obtain ⟨w10, hw10⟩ : ∃ w10, (w8.alloc (.cells #[.int .u8 90, .int .u8 109, .int .u8 56, .int .u8 32, .int .u8 61, .int .u8 10] 5 (6, 7))).setCell ⟨w1.heap.size, 1, none⟩ (.slice (some ⟨w8.heap.size, 0, none⟩) 6 6) = w10 := ⟨_, rfl⟩
      rw [hw10] at r10 P10 own10 hB10 hR10 ⊢
      clear hw10 r9 P9 own9 hB9 hR9 k91 f91 hcv hwd
      have q0 := r10.cell (j := 0) rfl
      have q1 := r10.cell (j := 1) rfl
      have rvB : Fd.Rf w10 A7 (gs ++ [fA] ++ [fB]) := by
        obtain ⟨_, _, e, _, _, hr, _, _, _⟩ := own10.form
        cases e
        unfold Fd.Rf
        rw [fc_snoc, fc_snoc, List.append_assoc]
        exact hr
      have hBw10 := hB1.trans (hB10.mono (by omega))
      have hrd := mreadB_any A7 (some ⟨w8.heap.size, 0, none⟩) (gs ++ [fA] ++ [fB]) [90, 109, 56, 32, 61, 10] (k + 2) c7 6 6 w10 (by simp [HGL.out]) rvB rfl hR10 (Nat.le_refl _) (tabs_below hT hBw10) (hM.below hBw10) ((hBw10.cell (p := ⟨0, 1, none⟩) (cell_lt hC)).trans hC) (by omega) (by omega) (vals_code HK.out) (vals_kind HK.out) nob_ex
      have pf0 := P10.frozen 0
      have pf1 := P10.frozen 1
      have pf2 := P10.frozen 2
      have pf3 := P10.frozen 3
      have pf4 := P10.frozen 4
      go_wp2_with fail
      refine hrd.mono ?_
      rintro e w11 ⟨⟨A5, c5, A9, c9, rfl, h9, hR11⟩, hb11⟩
      have P11 := P10.below hb11
      have z0 := P11.cell (j := 0) rfl
      have z1 := P11.cell (j := 1) rfl
      have z2 := P11.cell (j := 2) rfl
      have z3 := P11.cell (j := 3) rfl
      have z4 := P11.cell (j := 4) rfl
      have y0 := P11.frozen 0
      have y1 := P11.frozen 1
      have y2 := P11.frozen 2
      have y3 := P11.frozen 3
      have y4 := P11.frozen 4
      clear q0 q1 pf0 pf1 pf2 pf3 pf4 hrd
      go_upto_region 18 with fail
      have hne : ∀ b o, A9 = some ⟨b, o, none⟩ → b ≠ w2.heap.size := Rb_not P11 hR11 (by simp) (by
        intro v hv x e
        simp [bv] at hv
        rcases hv with rfl | rfl | rfl | rfl | rfl <;> cases e)
      have hB11 := hB10.trans (hb11.mono hB10.size)
      have P12 := (((((P11.set 0 (.string (bs [116, 101, 120, 116, 47, 120]))).set 1 (.slice A5 1 c5)).set 2 (.int .i64 1)).set 3 (.slice A9 2 c9)).set 4 (.slice none 0 0))
      have hB12 := (((((hB11.setCell (p := ⟨w2.heap.size, 0, none⟩) (by show w1.heap.size ≤ w2.heap.size; omega) (.string (bs [116, 101, 120, 116, 47, 120]))).setCell (p := ⟨w2.heap.size, 1, none⟩) (by show w1.heap.size ≤ w2.heap.size; omega) (.slice A5 1 c5)).setCell (p := ⟨w2.heap.size, 2, none⟩) (by show w1.heap.size ≤ w2.heap.size; omega) (.int .i64 1)).setCell (p := ⟨w2.heap.size, 3, none⟩) (by show w1.heap.size ≤ w2.heap.size; omega) (.slice A9 2 c9)).setCell (p := ⟨w2.heap.size, 4, none⟩) (by show w1.heap.size ≤ w2.heap.size; omega) (.slice none 0 0))
      have hR12 := (Rb_set (p := ⟨w2.heap.size, 4, none⟩) (Rb_set (p := ⟨w2.heap.size, 3, none⟩) (Rb_set (p := ⟨w2.heap.size, 2, none⟩) (Rb_set (p := ⟨w2.heap.size, 1, none⟩) (Rb_set (p := ⟨w2.heap.size, 0, none⟩) hR11 (.string (bs [116, 101, 120, 116, 47, 120])) hne) (.slice A5 1 c5) hne) (.int .i64 1) hne) (.slice A9 2 c9) hne) (.slice none 0 0) hne)
      obtain ⟨w12, hw12⟩ : ∃ w12, (((((w11.setCell ⟨w2.heap.size, 0, none⟩ (.string (bs [116, 101, 120, 116, 47, 120]))).setCell ⟨w2.heap.size, 1, none⟩ (.slice A5 1 c5)).setCell ⟨w2.heap.size, 2, none⟩ (.int .i64 1)).setCell ⟨w2.heap.size, 3, none⟩ (.slice A9 2 c9)).setCell ⟨w2.heap.size, 4, none⟩ (.slice none 0 0)) = w12 := ⟨_, rfl⟩
      rw [hw12] at P12 hB12 hR12 ⊢
      clear hw12 P11 hR11 hB11 z0 z1 z2 z3 z4 y0 y1 y2 y3 y4
      have z0 := P12.cell (j := 0) rfl
      have z1 := P12.cell (j := 1) rfl
      have z2 := P12.cell (j := 2) rfl
      have z3 := P12.cell (j := 3) rfl
      have z4 := P12.cell (j := 4) rfl
      have hcs := conv_str (P := Tryz.prog) Tryz.underlying22 Tryz.underlying5 Tryz.underlying9 (n := 2) (c := c9) hR12 rfl
      have hk1 : (bs [116, 101, 120, 116, 47, 120] == (⟨#[116, 101, 120, 116, 47, 120]⟩ : ByteArray)) = true := by decide
      have hk2 : (bs [102, 111] == (⟨#[102, 111]⟩ : ByteArray)) = true := by decide
      go_wp2_with fail
      go_ret
      exact ⟨rfl, hB1.trans (hB12.mono (by omega))⟩
end Go.Proofs.YtfdkcgdanhlfkaaGreatDoor
