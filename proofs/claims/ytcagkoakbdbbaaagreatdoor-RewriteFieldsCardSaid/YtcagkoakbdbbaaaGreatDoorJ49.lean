/- The document's Write of a letter; letter.Read of what relays have had; the program's All. · The program's All; letter.Read of what relays have had. -/
import Derived.Test.YtcagkoakbdbbaaaGreatDoorJ47
import Derived.Test.YtcagkoakbdbbaaaGreatDoorJ48
namespace Go.Proofs.YtcagkoakbdbbaaaGreatDoor
set_option linter.unusedVariables false
set_option linter.unusedSimpArgs false
open Go.RowKit
open Go.Proofs.YtcagkoakbdbbaaaGreatDoor.Fd (Rf fcells rightF strv TStr)

/-- fields as they are written -/
def rawsOf (fs : List (List UInt8 × List UInt8)) : List Raw := fs.map fun p => (foldF p.1 p.2, p)
theorem rawsOf_snd (fs : List (List UInt8 × List UInt8)) : (rawsOf fs).map Prod.snd = fs := by
  unfold rawsOf
  rw [List.map_map]
  exact List.map_id fs
theorem rawsOf_snoc (fs : List (List UInt8 × List UInt8)) (p : List UInt8 × List UInt8) : rawT (rawsOf (fs ++ [p])) = rawT (rawsOf fs) ++ foldF p.1 p.2 := by
  simp [rawsOf, rawT]
theorem raws_ok {fs : List (List UInt8 × List UInt8)} (h : rightF fs = true) : rawOk (rawsOf fs) := fun r hr => by
  obtain ⟨p, hp, rfl⟩ := List.mem_map.1 hr
  unfold Fd.rightF at h
  rw [List.all_eq_true] at h
  have h2 := h p hp
  rw [Bool.and_eq_true] at h2
  exact (h1_fold h2.1 h2.2).1
theorem raws_size {fs : List (List UInt8 × List UInt8)} (h : rightF fs = true) (hv : ∀ p ∈ fs, p.2.length ≤ 1000) : rawS (rawsOf fs) ≤ 2150 * fs.length := by
  induction fs with
  | nil => simp [rawsOf, rawS]
  | cons p r ih =>
    unfold Fd.rightF at h
    rw [List.all_cons, Bool.and_eq_true] at h
    have h1 := h.1
    rw [Bool.and_eq_true] at h1
    have ih := ih h.2 fun x hx => hv x (List.mem_cons_of_mem _ hx)
    have e : rawS (rawsOf (p :: r)) = 2 * tT (foldF p.1 p.2) + 2 + rawS (rawsOf r) := by simp [rawS, rawsOf]
    have h2 := (h1_fold h1.1 h1.2).2
    have h3 : p.1.length ≤ 64 := by
      have := h1.1
      unfold nmOk at this
      rw [Bool.and_eq_true, decide_eq_true_iff] at this
      exact this.2.2
    have h4 := hv p List.mem_cons_self
    rw [e, h2, List.length_cons]
    omega
/-- a mail as it is written -/
theorem inv_start {fs : List (List UInt8 × List UInt8)} {bd name : List UInt8} (h : rightF fs = true) (hv : ∀ p ∈ fs, p.2.length ≤ 1000) (hl : fs.length ≤ 20) (hb : bd.length ≤ 1000) : Inv name (vN name fs) 0 (rawT (rawsOf fs) ++ [13, 10] ++ bd) := by
  have h1 := raws_size h hv
  have h2 := flat_len2 bd
  refine ⟨rawsOf fs, [13, 10], bd, rfl, raws_ok h, .inr rfl, by unfold tT; omega, by omega, by omega, by simpa [rawsOf] using hl, by rw [rawsOf_snd]⟩

theorem right_no2 {fs : List (List UInt8 × List UInt8)} {k : Nat} {p : List UInt8 × List UInt8} (hp : fs[k]? = some p) (h : rightF (fs.take k) = true) (h1 : nmOk p.1 = true) (h2 : vlOk p.2 = true) : rightF (fs.take (k + 1)) = true := by
  unfold Fd.rightF at *
  rw [take_succ_of hp, List.all_append, h]
  simp [h1, h2]
set_option maxRecDepth 100000 in
set_option maxHeartbeats 2000000 in
theorem rwrite_any (A A2 : Option Addr) (fs : List (List UInt8 × List UInt8)) (bd : List UInt8) (n c n2 c2 : Nat) (w : World) (hn : fs.length = n) (hn2 : bd.length = n2) (hA : Rf w A fs) (hA2 : Rb w A2 bd)
    (hs : ∀ p ∈ fs, p.1.length ≤ 9223372036854775807 ∧ p.2.length ≤ 1000) (hb : n ≤ 20) (hb2 : n2 ≤ 1000) :
    Calls Tryz.prog 11 #[.agg #[.slice A n c, .slice A2 n2 c2]] w fun e w' =>
      ((∃ x, e = .returned (.tuple #[x, .int .i64 0]) ∧ rightF fs = true ∧ w'.ownsRow w.heap.size 5 1 x (rawT (rawsOf fs) ++ [13, 10] ++ bd).length ((rawT (rawsOf fs) ++ [13, 10] ++ bd).map bv)) ∨ ∃ (A' : Option Addr) (m d : Nat) (z : Int), z ≠ 0 ∧ e = .returned (.tuple #[.slice A' m d, .int .i64 z])) ∧ Below w.heap.size w w' := by
  have HN := Lib.hid hn
  have HN2 := Lib.hid hn2
  have HS := Lib.hid hs
  obtain ⟨LL, hLL⟩ : ∃ LL, rawT (rawsOf fs) ++ [13, 10] ++ bd = LL := ⟨_, rfl⟩
  have HLL := Lib.hid hLL
  rw [hLL]
  clear hn hn2 hs hLL
  have hB0 : Below w.heap.size w (w.alloc (.cells #[.slice A n c, .slice A2 n2 c2] 32)) := (Below.refl _ _).alloc (Nat.le_refl _) _
  have c00 : (w.alloc (.cells #[.slice A n c, .slice A2 n2 c2] 32)).cell? ⟨w.heap.size, 0, none⟩ = some (.slice A n c) := by simp
  have c01 : (w.alloc (.cells #[.slice A n c, .slice A2 n2 c2] 32)).cell? ⟨w.heap.size, 1, none⟩ = some (.slice A2 n2 c2) := by simp
  have hpu : ∀ W, Sem.run Tryz.prog (pure #[] : Sem (Array Value)) W = .ok #[] W := fun _ => rfl
  have hst : ∀ a W, Sem.run Tryz.prog (storeCells a []) W = .ok () W := fun _ _ => rfl
  go_enter Tryz.func11, Tryz.ntmps11
  go_wp2_with fail
  have hW0 : (w.alloc (.cells #[.slice A n c, .slice A2 n2 c2] 32)).heap.size = w.heap.size + 1 := by simp
  generalize w.alloc (.cells #[.slice A n c, .slice A2 n2 c2] 32) = W0 at *
  have hown0 := World.ownsRow_made (base := W0.heap.size) (e := 5) (size := 1) W0 #[] 0 (Nat.le_refl _) (by unfold maxLen; omega) rfl
  have hC0 : Below W0.heap.size W0 (W0.alloc (.cells #[] 5)) := (Below.refl _ _).alloc (Nat.le_refl _) _
  rw [hW0] at hown0 hC0
  obtain ⟨N1, hN1⟩ : ∃ N1, w.heap.size + 1 = N1 := ⟨_, rfl⟩
  rw [hN1] at hown0 hC0 ⊢
  have hs0 : w.heap.size ≤ N1 := by omega
  have hlt0 : w.heap.size < N1 := by omega
  have hNW : N1 ≤ W0.heap.size := by omega
  clear hW0 hN1
  go_loopw [4, 5] (fun v i wr => ∃ k M : Nat, i = .int .i64 k ∧ k ≤ n ∧ M ≤ 3100 * k ∧ Hid (rightF (fs.take k) = true) ∧ Hid ((rawT (rawsOf (fs.take k))).length = M) ∧ Hid (wr.ownsRow N1 5 1 v M ((rawT (rawsOf (fs.take k))).map bv)) ∧ Below N1 W0 wr) (fun _ i _ => n - (intOf i).toNat)
  case atStart => exact ⟨0, 0, rfl, by omega, by omega, Lib.hid rfl, Lib.hid rfl, Lib.hid hown0, hC0⟩
  case round =>
    rename_i s4
    obtain ⟨k, M, rfl, hk, hM, HR, HL, HO, hC⟩ := hrel
    have hB : Below w.heap.size w wr := hB0.trans (hC.mono hs0)
    have hsC : N1 ≤ wr.heap.size := Nat.le_trans hNW hC.size
    obtain ⟨Ao, co, hov, _, _, _, _⟩ := own_form HO.out
    subst hov
    have hcr0 : wr.cell? ⟨w.heap.size, 0, none⟩ = some (.slice A n c) := (hC.cell (p := ⟨w.heap.size, 0, none⟩) hlt0).trans c00
    have hcr1 : wr.cell? ⟨w.heap.size, 1, none⟩ = some (.slice A2 n2 c2) := (hC.cell (p := ⟨w.heap.size, 1, none⟩) hlt0).trans c01
    by_cases hlt : k < n
    · obtain ⟨b, o, p, rfl, hp, g0, g1⟩ := (hA.below hB).one (k := k) (by rw [HN.out]; exact hlt)
      obtain ⟨l1, l2⟩ := HS.out p (List.mem_of_getElem? hp.out)
      have hrn := rname_any p.1 wr l1
      cases hq1 : nmOk p.1 with
      | false =>
        rw [hq1] at hrn
        clear hq1
        go_wp2_with fail
        refine hrn.mono ?_
        rintro e w2 ⟨rfl, hd2⟩
        go_wp2_with fail
        go_ret2
        exact ⟨.inr ⟨none, 0, 0, 3, by decide, rfl⟩, hB.trans (hd2.below _)⟩
      | true =>
        rw [hq1] at hrn
        have HQ1 := Lib.hid hq1
        clear hq1
        go_wp2_with fail
        refine hrn.mono ?_
        rintro e w2 ⟨rfl, hd2⟩
        have hD2 : Below wr.heap.size wr w2 := hd2.below _
        have j0 := (hD2.cell (cell_lt hcr0)).trans hcr0
        have j1 := (hD2.cell (cell_lt g0)).trans g0
        have j2 := (hD2.cell (cell_lt g1)).trans g1
        have hrv := rvalue_any p.2 w2 (by omega)
        cases hq2 : vlOk p.2 with
        | false =>
          rw [hq2] at hrv
          clear hq2
          go_wp2_with fail
          refine hrv.mono ?_
          rintro e w3 ⟨rfl, hd3⟩
          go_wp2_with fail
          go_ret2
          exact ⟨.inr ⟨none, 0, 0, 3, by decide, rfl⟩, (hB.trans (hd2.below _)).trans (hd3.below _)⟩
        | true =>
          rw [hq2] at hrv
          have HQ2 := Lib.hid hq2
          clear hq2
          have hnl : p.1.length ≤ 64 := by
            have h := HQ1.out
            unfold nmOk at h
            rw [Bool.and_eq_true, decide_eq_true_iff] at h
            exact h.2.2
          have hfo := Fd.foldF_len p.1 p.2
          have HST := Lib.hid (show rawT (rawsOf (fs.take (k + 1))) = rawT (rawsOf (fs.take k)) ++ foldF p.1 p.2 by rw [take_succ_of hp.out, rawsOf_snoc])
          have HR1 := Lib.hid (right_no2 hp.out HR.out HQ1.out HQ2.out)
          go_wp2_with fail
          refine hrv.mono ?_
          rintro e w3 ⟨rfl, hd3⟩
          have hD3 : Below wr.heap.size wr w3 := (hd2.below _).trans (hd3.below _)
          have i0 := (hD3.cell (cell_lt hcr0)).trans hcr0
          have i1 := (hD3.cell (cell_lt g0)).trans g0
          have i2 := (hD3.cell (cell_lt g1)).trans g1
          have hO3 := own_below HO.out hD3
          have hC3 : Below N1 W0 w3 := hC.trans (hD3.mono hsC)
          have hrf := Fd.rfold_any p.1 p.2 w3 (by omega) (by omega)
          unfold Fd.strv at hrf
          go_wp2_with fail
          refine hrf.mono ?_
          rintro e w4 ⟨⟨x, rfl, hx⟩, hb4⟩
          obtain ⟨XA, xc, rfl, hxc, _, hXR, _⟩ := hx.form
          have hXRb : Rb w4 XA (foldF p.1 p.2) := hXR
          have hC4 := hC3.trans (hb4.mono (Nat.le_trans hsC hD3.size))
          have hs4 : N1 ≤ w4.heap.size := Nat.le_trans hNW hC4.size
          have hO4 := own_below hO3 hb4
          obtain ⟨ff, hff⟩ : ∃ ff, foldF p.1 p.2 = ff := ⟨_, rfl⟩
          rw [hff] at hXRb hfo ⊢
          have HFF := Lib.hid hff
          obtain ⟨fn, hfn⟩ : ∃ fn, ff.length = fn := ⟨_, rfl⟩
          have HFN := Lib.hid hfn
          rw [hfn] at hfo ⊢
          clear hx hXR hff hfn hrf hO3
          go_wp2_with (at_builtin; refine wpList_app rfl (.tmp 32) (.tmp 38) _ _ rfl TU8 hO4 rfl (Src_rb Tryz.underlying22 HFN.out hXRb) rfl (by omega) hs4 ?_; intro v6 w6 hown6 hgr6 hat6; have hB6 := below_app hC4 hO4 hgr6 hs4 (Nat.le_refl _))
          go_roundw
          case rel => exact ⟨k + 1, M + fn, by go_num, by omega, by omega, HR1, Lib.hid (by rw [HST.out, List.length_append, HL.out, HFF.out, HFN.out]), Lib.hid (by rw [HST.out, List.map_append, HFF.out]; exact hown6), hB6⟩
          case measure => simp [intOf]; omega
    · obtain rfl : k = n := by omega
      have hfa : fs.take k = fs := List.take_of_length_le (by rw [HN.out]; exact Nat.le_refl _)
      rw [hfa] at HR HL HO
      clear hfa
      have hMb : M ≤ 62000 := by omega
      have hOA := HO.out.alloc (.cells #[.int .u8 13, .int .u8 10] 5)
      have hCA : Below N1 W0 (wr.alloc (.cells #[.int .u8 13, .int .u8 10] 5)) := hC.alloc hsC _
      have hsA : N1 ≤ (wr.alloc (.cells #[.int .u8 13, .int .u8 10] 5)).heap.size := by simp; omega
      have hsrc : Src Tryz.prog 1 22 (.slice (some ⟨wr.heap.size, 0, none⟩) 2 2) 2 ([13, 10].map bv) (wr.alloc (.cells #[.int .u8 13, .int .u8 10] 5)) := Src_rb Tryz.underlying22 rfl (by have h := Rb_new wr [13, 10] 5 #[.int .u8 13, .int .u8 10] rfl 2; exact h)
      have hk20 : k ≤ 20 := hb
      have h200 : ¬ (200 : Int) < (k : Int) := by omega
      have h65 : ¬ (65536 : Int) < (M : Int) + 2 := by omega
      have h20 : ¬ (2097152 : Int) < (M : Int) + 2 + (n2 : Int) := by omega
      go_wp2_with (first
        | (at_builtin; refine wpList_app rfl (.tmp 40) (.tmp 41) _ _ rfl TU8 hOA rfl hsrc rfl (by omega) hsA ?_; intro v6 w6 hown6 hgr6 hat6; have hB6 := below_app hCA hOA hgr6 hsA (Nat.le_refl _); obtain ⟨A6, c6, hv6, _, _, _, _⟩ := own_form hown6; subst hv6; have hs6 : N1 ≤ w6.heap.size := Nat.le_trans hNW hB6.size; have hcr6 : w6.cell? ⟨w.heap.size, 0, none⟩ = some (.slice A k c) := (hB6.cell (p := ⟨w.heap.size, 0, none⟩) hlt0).trans c00; have hcr7 : w6.cell? ⟨w.heap.size, 1, none⟩ = some (.slice A2 n2 c2) := (hB6.cell (p := ⟨w.heap.size, 1, none⟩) hlt0).trans c01; have hsr2 : Src Tryz.prog 1 22 (.slice A2 n2 c2) n2 (bd.map bv) w6 := Src_rb Tryz.underlying22 HN2.out (hA2.below (hB0.trans (hB6.mono hs0))))
        | (at_builtin; refine wpList_app rfl (.tmp 61) (.tmp 63) _ _ rfl TU8 hown6 rfl hsr2 rfl (by omega) hs6 ?_; intro v7 w7 hown7 hgr7 hat7; have hB7 := below_app hB6 hown6 hgr7 hs6 (Nat.le_refl _)))
      go_ret2
      refine ⟨.inl ⟨_, rfl, HR.out, ?_⟩, hB0.trans (hB7.mono hs0)⟩
      have e1 : LL.length = M + 2 + n2 := by rw [← HLL.out, List.length_append, List.length_append, HL.out, HN2.out]; rfl
      have e2 : LL.map bv = (rawT (rawsOf fs)).map bv ++ [13, 10].map bv ++ bd.map bv := by rw [← HLL.out, List.map_append, List.map_append]
      rw [e1, e2]
      exact own_base hown7 hs0
end Go.Proofs.YtcagkoakbdbbaaaGreatDoor

namespace Go.Proofs.YtcagkoakbdbbaaaGreatDoor
set_option linter.unusedVariables false
set_option linter.unusedSimpArgs false
open Go.RowKit
open Go.Proofs.YtcagkoakbdbbaaaGreatDoor.Fd (Rf fcells rightF strv TStr)

set_option maxRecDepth 100000 in
set_option maxHeartbeats 1000000 in
theorem rall2_any (A Ax : Option Addr) (b name : List UInt8) (want : List (List UInt8)) (xs : List Rwt) (n c m d : Nat) (w : World) (hG : Gl w) (hn : b.length = n) (hA : Rb w A b) (hpl : Pl A c) (hnc : n ≤ c) (hm : xs.length = m) (hX : Rw w Ax xs) (hok : rwOk xs) (hm30 : m ≤ 30) (hI : Inv name want 0 b) (hp : protL name = true) :
    Calls Tryz.prog 14 #[.slice A n c, .slice Ax m d] w fun e w' => (∃ r, Inv name want m r ∧ BOut r e w') ∧ Below w.heap.size w w' := by
  have hb := hI.len (by omega)
  rw [hn] at hb
  have hcl := clone_any A b n c w hn hA hnc hpl (by omega)
  have HN := Lib.hid hn
  have HM := Lib.hid hm
  have HI := Lib.hid hI
  have HOK := Lib.hid hok
  have HP := Lib.hid hp
  clear hn hm hI hok hp
  go_enter Tryz.func14, Tryz.ntmps14
  go_wp2_with fail
  refine hcl.mono ?_
  rintro e w1 ⟨⟨v, rfl, hov⟩, hb1⟩
  obtain ⟨A1, c1, e1, g1, g2, g3, g4⟩ := BOut.own hov
  cases e1
  go_wp2_with fail
  go_loopw [5, 12] (fun s5 s12 wr => ∃ (k : Nat) (r : List UInt8) (A' : Option Addr) (n' c' : Nat), s12 = .int .i64 k ∧ k ≤ m ∧ s5 = .slice A' n' c' ∧ Hid (r.length = n') ∧ n' ≤ c' ∧ c' ≤ maxLen ∧ Rb wr A' r ∧ Pl A' c' ∧ Hid (Inv name want k r) ∧ Below w.heap.size w wr) (fun _ s12 _ => m - (intOf s12).toNat)
  case atStart => exact ⟨0, b, A1, b.length, c1, rfl, by omega, rfl, Lib.hid rfl, g1, g2, g3, g4, HI, hb1⟩
  case round =>
    obtain ⟨k, r, A', n', c', rfl, hk, rfl, HR, hnc', hcm, hRb, hPl, HIk, hB⟩ := hrel
    by_cases hlt : k < m
    · obtain ⟨bx, ox, x, rfl, hx, q0, q1, q2, q3⟩ := (hX.below hB).one (k := k) (by rw [HM.out]; exact hlt)
      obtain ⟨hx1, hx2, hx3⟩ := HOK.out x (List.mem_of_getElem? hx.out)
      have hrl := HIk.out.len (by omega)
      rw [HR.out] at hrl
      have hBA : Below w.heap.size w (wr.alloc (.cells #[.int .i64 x.1, .int .i64 x.2.1, .int .i64 x.2.2.1, .string (bs x.2.2.2)] 26)) := hB.alloc hB.size _
      have hA1 : Below wr.heap.size wr (wr.alloc (.cells #[.int .i64 x.1, .int .i64 x.2.1, .int .i64 x.2.2.1, .string (bs x.2.2.2)] 26)) := (Below.refl _ _).alloc (Nat.le_refl _) _
      have hap := apply_any A' r x.2.2.2 n' c' x.1 x.2.1 x.2.2.1 _ (hG.below hBA) HR.out (hRb.below hA1) hPl hnc' hrl hx3 hx1 hx2
      clear hx
      go_wp2_with fail
      refine hap.mono ?_
      rintro e w3 ⟨⟨r3, hz3, A3, c3, rfl, u1, u2, u3, u4⟩, hb3⟩
      have HI3 := Lib.hid (HIk.out.step HP.out hz3)
      go_wp2_with fail
      go_roundw
      case rel => exact ⟨k + 1, r3, A3, r3.length, c3, by go_num, by omega, rfl, Lib.hid rfl, u1, u2, u3, u4, HI3, hBA.trans (hb3.mono hBA.size)⟩
      case measure => simp [intOf]; omega
    · obtain rfl : k = m := by omega
      go_wp2_with fail
      go_ret
      exact ⟨⟨r, HIk.out, A', c', by rw [HR.out]; rfl, by rw [HR.out]; exact hnc', hcm, hRb, hPl⟩, hB⟩

set_option maxRecDepth 100000 in
set_option maxHeartbeats 1000000 in
theorem lread2_any (A : Option Addr) (b name : List UInt8) (want : List (List UInt8)) (n c k : Nat) (w : World) (hn : b.length = n) (hA : Rb w A b) (hpl : Pl A c) (hnc : n ≤ c) (hI : Inv name want k b) (hk : k ≤ 30) :
    Calls Tryz.prog 13 #[.slice A n c] w fun e w' => (∃ (A1 A2 : Option Addr) (n1 c1 n2 c2 : Nat) (fs : List (List UInt8 × List UInt8)), e = .returned (.tuple #[.agg #[.slice A1 n1 c1, .slice A2 n2 c2], .int .i64 0]) ∧ fs.length = n1 ∧ n1 ≤ 1000000 ∧ vN name fs = want ∧ Rf w' A1 fs) ∧ Below w.heap.size w w' := by
  have hb := hI.len hk
  rw [hn] at hb
  obtain ⟨rs, en, bd, e1, e2, e2b, e2c, e3, e4, e5⟩ := hI.read hk
  have hB0 : Below w.heap.size w (w.alloc (.cells #[.slice none 0 0, .slice none 0 0] 32)) := (Below.refl _ _).alloc (Nat.le_refl _) _
  have r0 := Row.new w #[.slice none 0 0, .slice none 0 0] 32
  have hrd := Fd.read2_any A b (rawT rs) en bd n c (w.alloc (.cells #[.slice none 0 0, .slice none 0 0] 32)) e1 ⟨e2b, e2⟩ e3 hn (hA.below hB0) hnc hpl (by omega)
  unfold Fd.ReadOut at hrd
  rw [e4] at hrd
  have HV := Lib.hid e5
  have hsl : (rs.map Prod.snd).length ≤ 1000 := by simpa using e2c
  generalize rs.map Prod.snd = fs at *
  clear e1 e2 e2b e2c e3 e4 e5 hI
  go_enter Tryz.func13, Tryz.ntmps13
  go_wp2_with fail
  refine hrd.mono ?_
  rintro e w1 ⟨⟨fv, v2, rfl, ho1, ho2⟩, hb1⟩
  obtain ⟨A1, c1, hv1, hc1, hcm1, hR1, hl1⟩ := own_form ho1
  obtain ⟨A2, c2, hv2, hc2, hcm2, hR2, hl2⟩ := own_form ho2
  subst hv1
  subst hv2
  have hB1 := hB0.trans (hb1.mono hB0.size)
  have r1 := r0.below hb1
  have q0 := r1.cell (j := 0) rfl
  have q1 := r1.cell (j := 1) rfl
  have z0 := r1.frozen 0
  have z1 := r1.frozen 1
  have p1 := r1.set 0 (.slice A1 fs.length c1)
  have p2 := p1.set 1 (.slice A2 bd.length c2)
  obtain ⟨n1, hn1⟩ : ∃ n1, fs.length = n1 := ⟨_, rfl⟩
  have HN1 := Lib.hid hn1
  rw [hn1] at p1 p2 hsl ho1 ⊢
  have hne : ∀ b1 o1, A1 = some ⟨b1, o1, none⟩ → b1 ≠ w.heap.size := fun b1 o1 e1 => by
    have hk : nb (.slice A1 n1 c1) b1 := by rw [e1]; simp [nb, Value.ownBlock]
    have := (ho1.lt b1 hk).1
    rw [World.size_alloc] at this
    omega
  have hset : ∀ (W : World) (j : Nat) (u : Value), Rf W A1 fs → Rf (W.setCell ⟨w.heap.size, j, none⟩ u) A1 fs := fun W j u h hp => by
    obtain ⟨b1, o1, e1, h1⟩ := h hp
    refine ⟨b1, o1, e1, fun i v hi => ?_⟩
    rw [World.cell?_setCell_other _ _ _ _ (by intro e; injection e with e; exact hne b1 o1 e1 e.symm)]
    exact h1 i v hi
  have p4 := (p2.set 0 (.slice A1 n1 c1)).set 1 (.slice A2 bd.length c2)
  have F4 := hset _ 1 (.slice A2 bd.length c2) (hset _ 0 (.slice A1 n1 c1) (hset _ 1 (.slice A2 bd.length c2) (hset w1 0 (.slice A1 n1 c1) hR1)))
  have B4 := (((hB1.setCell (p := ⟨w.heap.size, 0, none⟩) (Nat.le_refl _) (.slice A1 n1 c1)).setCell (p := ⟨w.heap.size, 1, none⟩) (Nat.le_refl _) (.slice A2 bd.length c2)).setCell (p := ⟨w.heap.size, 0, none⟩) (Nat.le_refl _) (.slice A1 n1 c1)).setCell (p := ⟨w.heap.size, 1, none⟩) (Nat.le_refl _) (.slice A2 bd.length c2)
  go_wp2_with fail
  obtain ⟨W9, hW9⟩ : ∃ W9, (((w1.setCell ⟨w.heap.size, 0, none⟩ (.slice A1 n1 c1)).setCell ⟨w.heap.size, 1, none⟩ (.slice A2 bd.length c2)).setCell ⟨w.heap.size, 0, none⟩ (.slice A1 n1 c1)).setCell ⟨w.heap.size, 1, none⟩ (.slice A2 bd.length c2) = W9 := ⟨_, rfl⟩
  rw [hW9] at p4 F4 B4 ⊢
  have e0 := p4.cell (j := 0) rfl
  have e1 := p4.cell (j := 1) rfl
  exact bodyPost_ret (v := .tuple #[.agg #[.slice A1 n1 c1, .slice A2 bd.length c2], .int .i64 0]) (by simp [results, Tryz.results13, go_sem, e0, e1]) rfl ⟨⟨A1, A2, n1, c1, bd.length, c2, fs, rfl, HN1.out, by omega, HV.out, F4⟩, B4⟩
end Go.Proofs.YtcagkoakbdbbaaaGreatDoor
