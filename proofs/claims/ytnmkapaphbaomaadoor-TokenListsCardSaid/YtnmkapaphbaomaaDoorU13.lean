/- The document's Ids. -/
import Derived.Test.YtnmkapaphbaomaaDoorU12
namespace Go.Proofs.YtnmkapaphbaomaaDoor
set_option linter.unusedVariables false
set_option linter.unusedSimpArgs false
open Go.RowKit

theorem own_other {W W' : World} {b e size n : Nat} {v : Value} {xs : List Value} {row : Option Nat} (h : W.ownsRow b e size v n xs) (hg : W.grownBy W' row) (hne : v.ownBlock ≠ row) : W'.ownsRow b e size v n xs := h.kept hg (.inr hne)
theorem idc_tests (c : UInt8) : (idc c = true ∧ ¬ (c.toNat : Int) < 33 ∧ ¬ (126 : Int) < (c.toNat : Int) ∧ ((c.toNat : Int) == 60) = false) ∨ (idc c = false ∧ (c.toNat : Int) < 33) ∨ (idc c = false ∧ ¬ (c.toNat : Int) < 33 ∧ (126 : Int) < (c.toNat : Int)) ∨ (idc c = false ∧ ¬ (c.toNat : Int) < 33 ∧ ¬ (126 : Int) < (c.toNat : Int) ∧ ((c.toNat : Int) == 60) = true) := by
  have t60 : ((c.toNat : Int) == 60) = (c == 60) := u8_test c 60 rfl
  rw [t60]
  have hi : idc c = (prc c && c != 60) := rfl
  have h2 := prc_iff c
  rw [hi]
  by_cases h : c = 60
  · subst h
    right; right; right
    refine ⟨by decide, by decide, by decide, by decide⟩
  · have e1 : (c == 60) = false := by simp [h]
    have e2 : (c != 60) = true := by simp [h]
    rw [e1, e2, Bool.and_true]
    rcases Bool.eq_false_or_eq_true (prc c) with k | k
    · have := h2.1 k
      exact .inl ⟨k, by omega, by omega, rfl⟩
    · have h' : ¬ (33 ≤ c.toNat ∧ c.toNat ≤ 126) := fun hh => by rw [h2.2 hh] at k; cases k
      rcases (by omega : c.toNat < 33 ∨ (33 ≤ c.toNat ∧ 126 < c.toNat)) with hh | ⟨hh, hh2⟩
      · exact .inr (.inl ⟨k, by omega⟩)
      · exact .inr (.inr (.inl ⟨k, by omega, by omega⟩))
section
variable {l : List UInt8} {q : Nat} {c : UInt8} {id : List UInt8} {d : List (List UInt8)}
theorem ig_blank (hc : l[q]? = some c) (h : blk c = true) : idGo false id d (l.drop q) = idGo false id d (l.drop (q + 1)) := by
  rw [drop_at hc, idGo, if_neg (by simp), if_pos h]
theorem ig_bad (hc : l[q]? = some c) (h : blk c = false) (h2 : c ≠ 60) : idGo false id d (l.drop q) = .error 3 := by
  rw [drop_at hc, idGo, if_neg (by simp), if_neg (by simp [h]), if_neg h2]
theorem ig_open (hc : l[q]? = some c) (h : blk c = false) (h2 : c = 60) : idGo false id d (l.drop q) = idGo true [] d (l.drop (q + 1)) := by
  rw [drop_at hc, idGo, if_neg (by simp), if_neg (by simp [h]), if_pos h2]
theorem ig_empty (hc : l[q]? = some c) (h : c = 62) (h2 : id = []) : idGo true id d (l.drop q) = .error 3 := by
  rw [drop_at hc, idGo, if_pos rfl, if_pos h, if_pos h2]
theorem ig_close (hc : l[q]? = some c) (h : c = 62) (h2 : id ≠ []) : idGo true id d (l.drop q) = idGo false id (d ++ [id]) (l.drop (q + 1)) := by
  rw [drop_at hc, idGo, if_pos rfl, if_pos h, if_neg h2]
theorem ig_not (hc : l[q]? = some c) (h : c ≠ 62) (h2 : idc c = false) : idGo true id d (l.drop q) = .error 3 := by
  rw [drop_at hc, idGo, if_pos rfl, if_neg h, h2]
  rfl
theorem ig_more (hc : l[q]? = some c) (h : c ≠ 62) (h2 : idc c = true) : idGo true id d (l.drop q) = idGo true (id ++ [c]) d (l.drop (q + 1)) := by
  rw [drop_at hc, idGo, if_pos rfl, if_neg h, if_pos h2]
theorem ig_end {ins : Bool} (h : l.length ≤ q) : idGo ins id d (l.drop q) = if ins then .error 3 else .ok d := by
  rw [List.drop_of_length_le h, idGo]
end

set_option maxRecDepth 100000 in
set_option maxHeartbeats 4000000 in
theorem rids_any (l : List UInt8) (w : World) (hl : l.length ≤ 1000000) :
    Calls Tryd.prog 14 #[.string (bs l)] w fun e w' => IdsOut (idsP l) w e w' ∧ Below w.heap.size w w' := by
  have hb := rbare_any l w hl
  cases hbp : bareP l with
  | error k =>
    have hk : ((k : Int) != 0) = true := by have := bareP_err _ _ _ (Nat.le_refl _) hbp; rw [bne_iff_ne]; omega
    have hr : idsP l = .error k := by unfold idsP; rw [hbp]
    have HR := Lib.hid hr
    rw [hbp] at hb
    have hb' : Calls Tryd.prog 8 #[.string (bs l)] w fun e w' => e = .returned (.tuple #[.string (bs []), .int .i64 (k : Int)]) ∧ Below w.heap.size w w' := hb
    clear hb hbp hr
    go_enter Tryd.func14, Tryd.ntmps14
    go_wp2_with fail
    refine hb'.mono ?_
    rintro e w1 ⟨rfl, hb1⟩
    go_wp2_with fail
    go_ret2
    exact ⟨idsOut_err HR.out rfl, hb1⟩
  | ok b =>
    have hbl := bareP_len _ _ _ (Nat.le_refl _) hbp
    have hr : idsP l = idGo false [] [] (b.drop 0) := by unfold idsP; rw [hbp, List.drop_zero, id_eq]
    have HR := Lib.hid hr
    rw [hbp] at hb
    have hb' : Calls Tryd.prog 8 #[.string (bs l)] w fun e w' => e = .returned (.tuple #[.string (bs b), .int .i64 0]) ∧ Below w.heap.size w w' := hb
    have hpu : ∀ W, Sem.run Tryd.prog (pure #[] : Sem (Array Value)) W = .ok #[] W := fun _ => rfl
    have hst : ∀ a W, Sem.run Tryd.prog (storeCells a []) W = .ok () W := fun _ _ => rfl
    have hbb : b.length ≤ 1000000 := by omega
    clear hb hbp hr hbl
    go_enter Tryd.func14, Tryd.ntmps14
    go_wp2_with fail
    refine hb'.mono ?_
    rintro e w1 ⟨rfl, hB1⟩
    have hs1 := hB1.size
    have hownO := World.ownsRow_made (base := w.heap.size) (e := 9) (size := 1) w1 #[] 0 hs1 (by unfold maxLen; omega) rfl
    have hBo := hB1.alloc hs1 (.cells #[] 9)
    have hownI := World.ownsRow_made (base := w.heap.size) (e := 5) (size := 1) (w1.alloc (.cells #[] 9)) #[] 0 (by simp; omega) (by unfold maxLen; omega) rfl
    have hBi := hBo.alloc (by simp; omega) (.cells #[] 5)
    have hownO2 := hownO.alloc (.cells #[] 5)
    rw [show (w1.alloc (.cells #[] 9)).heap.size = w1.heap.size + 1 by simp] at hownI
    clear hownO hBo hb'
    go_wp2_with fail
    go_loopw [5, 6, 7, 8] (fun v5 v6 s7 i wr => ∃ (q k kd go gi : Nat) (ins : Bool) (id : List UInt8) (d : List (List UInt8)), i = .int .i64 q ∧ s7 = .bool ins ∧ q ≤ b.length ∧ k ≤ q ∧ kd ≤ q ∧ Hid (idsP l = idGo ins id d (b.drop q)) ∧
      wr.ownsRow w.heap.size 9 1 v5 k (d.map sv) ∧ wr.ownsRow w.heap.size 5 1 v6 kd (id.map bv) ∧ Hid (v5.ownBlock = some go ∧ v6.ownBlock = some gi ∧ go ≠ gi) ∧ Below w.heap.size w wr) (fun _ _ _ i _ => b.length - (intOf i).toNat)
    case atStart =>
      refine ⟨0, 0, 0, w1.heap.size, w1.heap.size + 1, false, [], [], rfl, rfl, by omega, by omega, by omega, HR, hownO2, ?_, ?_, hBi⟩
      · exact hownI
      · exact Lib.hid ⟨rfl, rfl, by omega⟩
    case round =>
      clear HR hownO2 hownI hBi hB1 hs1
      obtain ⟨q, k, kd, go, gi, ins, id, d, rfl, rfl, hq, hk, hkd, he, hO, hI, hbk, hB⟩ := hrel
      have hs := hB.size
      have hgo := (hO.lt go hbk.out.1).2
      have hgi := (hI.lt gi hbk.out.2.1).2
      by_cases hlt : q < b.length
      · obtain ⟨c, hc⟩ : ∃ c, b[q]? = some c := ⟨_, List.getElem?_eq_getElem hlt⟩
        have hi := str_index (P := Tryd.prog) Tryd.underlying9 hc .i64
        have t62 : ((c.toNat : Int) == 62) = (c == 62) := u8_test c 62 rfl
        have n60 : ((c.toNat : Int) != 60) = (c != 60) := u8_bne c 60
        cases ins with
        | false =>
          rcases blk_tests c with ⟨h, k1⟩ | ⟨h, k1, k2⟩ | ⟨h, k1, k2⟩
          · have HST := Lib.hid (he.out.trans (ig_blank hc h))
            clear he h hc t62 n60
            go_wp2_with fail
            go_roundw
            case rel => exact ⟨q + 1, k, kd, go, gi, false, id, d, by go_num, rfl, by omega, by omega, by omega, HST, hO, hI, hbk, hB⟩
            case measure => simp [intOf]; omega
          · have HST := Lib.hid (he.out.trans (ig_blank hc h))
            clear he h hc t62 n60
            go_wp2_with fail
            go_roundw
            case rel => exact ⟨q + 1, k, kd, go, gi, false, id, d, by go_num, rfl, by omega, by omega, by omega, HST, hO, hI, hbk, hB⟩
            case measure => simp [intOf]; omega
          · by_cases h60 : c = 60
            · have hb1 : ((c.toNat : Int) != 60) = false := by rw [n60, h60]; rfl
              have HST := Lib.hid (he.out.trans (ig_open hc h h60))
              have hI2 := World.ownsRow_made (base := w.heap.size) (e := 5) (size := 1) wr #[] 0 hs (by unfold maxLen; omega) rfl
              have hO2 := hO.alloc (.cells #[] 5)
              have hB2 := hB.alloc hs (.cells #[] 5)
              clear he h hc t62 n60 h60 hO hI hB
              go_wp2_with fail
              go_roundw
              case rel => exact ⟨q + 1, k, 0, go, wr.heap.size, true, [], d, by go_num, rfl, by omega, by omega, by omega, HST, hO2, hI2, Lib.hid ⟨hbk.out.1, rfl, by omega⟩, hB2⟩
              case measure => simp [intOf]; omega
            · have hb1 : ((c.toNat : Int) != 60) = true := by rw [n60]; simp [h60]
              have HST := Lib.hid (he.out.trans (ig_bad hc h h60))
              clear he h hc t62 n60 h60
              go_wp2_with fail
              go_ret2
              exact ⟨idsOut_err HST.out rfl, hB⟩
        | true =>
          by_cases h62 : c = 62
          · have hb1 : ((c.toNat : Int) == 62) = true := by rw [t62, h62]; rfl
            obtain ⟨A, ca, rfl, hca, hcm, hRb, hil⟩ := own_slice hI
            by_cases hid0 : id = []
            · have HST := Lib.hid (he.out.trans (ig_empty hc h62 hid0))
              obtain rfl : kd = 0 := by rw [← hil, hid0]; rfl
              clear he hc t62 n60 h62 hid0 hRb hil hI
              go_wp2_with fail
              go_ret2
              exact ⟨idsOut_err HST.out rfl, hB⟩
            · have HST := Lib.hid (he.out.trans (ig_close hc h62 hid0))
              have hkp : 0 < kd := by
                rw [← hil]
                exact List.length_pos_iff.2 hid0
              have hk0 : ((kd : Int) == 0) = false := by rw [beq_eq_false_iff_ne]; omega
              have hcs := conv_str (P := Tryd.prog) (src := 34) (dst := 9) (c := ca) (n := kd) Tryd.underlying34 Tryd.underlying5 Tryd.underlying9 hRb hil
              clear he hc t62 n60 h62 hid0 hRb hil
              go_wp2_with (at_builtin; refine wpList_app rfl (.tmp 45) (.tmp 48) _ _ rfl TStr (hO.alloc (.cells #[sv id] 9)) rfl (Src_rv (news := [sv id]) Tryd.underlying29 rfl (Rv_new wr _ _ _ rfl) (by simp [Value.oneCell', sv]) (by omega)) rfl (by omega) (by simp; omega) ?_; intro v2 w2 hO2 hgr2 hat2; have hB2 := below_app (hB.alloc hs (.cells #[sv id] 9)) (hO.alloc _) hgr2 (by simp; omega) (Nat.le_refl _); have hI2 := own_other (hI.alloc (.cells #[sv id] 9)) hgr2 (by rw [hbk.out.2.1, hbk.out.1]; intro e; exact hbk.out.2.2 (Option.some.inj e).symm))
              have hbk2 : ∃ go', v2.ownBlock = some go' ∧ go' ≠ gi := by
                rcases hat2 with h | h
                · exact ⟨go, h.trans hbk.out.1, hbk.out.2.2⟩
                · refine ⟨_, h, ?_⟩
                  simp
                  omega
              obtain ⟨go', hg1, hg2⟩ := hbk2
              have HBK := Lib.hid (show v2.ownBlock = some go' ∧ (Value.slice A kd ca).ownBlock = some gi ∧ go' ≠ gi from ⟨hg1, hbk.out.2.1, hg2⟩)
              clear hg1 hg2 hat2 hgr2 hbk
              go_roundw
              case rel => exact ⟨q + 1, k + 1, kd, go', gi, false, id, d ++ [id], by go_num, rfl, by omega, by omega, by omega, HST, by rw [List.map_append]; exact hO2, hI2, HBK, hB2⟩
              case measure => simp [intOf]; omega
          · have hb1 : ((c.toNat : Int) == 62) = false := by rw [t62]; simp [h62]
            rcases idc_tests c with ⟨h, k1, k2, k3⟩ | ⟨h, k1⟩ | ⟨h, k1, k2⟩ | ⟨h, k1, k2, k3⟩
            · have HST := Lib.hid (he.out.trans (ig_more hc h62 h))
              clear he hc t62 n60 h62 h
              go_wp2_with (at_builtin; refine wpList_app rfl (.tmp 60) (.tmp 62) _ _ rfl TU8 (hI.alloc (.cells #[bv c] 5)) rfl (Src_rv (news := [bv c]) Tryd.underlying34 rfl (Rv_new wr _ _ _ rfl) (by simp [Value.oneCell', bv]) (by omega)) rfl (by omega) (by simp; omega) ?_; intro v2 w2 hI2 hgr2 hat2; have hB2 := below_app (hB.alloc hs (.cells #[bv c] 5)) (hI.alloc _) hgr2 (by simp; omega) (Nat.le_refl _); have hO2 := own_other (hO.alloc (.cells #[bv c] 5)) hgr2 (by rw [hbk.out.2.1, hbk.out.1]; intro e; exact hbk.out.2.2 (Option.some.inj e)))
              have hbk2 : ∃ gi', v2.ownBlock = some gi' ∧ go ≠ gi' := by
                rcases hat2 with h | h
                · exact ⟨gi, h.trans hbk.out.2.1, hbk.out.2.2⟩
                · refine ⟨_, h, ?_⟩
                  simp
                  omega
              obtain ⟨gi', hg1, hg2⟩ := hbk2
              have HBK := Lib.hid (show _ = some go ∧ v2.ownBlock = some gi' ∧ go ≠ gi' from ⟨hbk.out.1, hg1, hg2⟩)
              clear hg1 hg2 hat2 hgr2 hbk
              go_roundw
              case rel => exact ⟨q + 1, k, kd + 1, go, gi', true, id ++ [c], d, by go_num, rfl, by omega, by omega, by omega, HST, hO2, by rw [List.map_append]; exact hI2, HBK, hB2⟩
              case measure => simp [intOf]; omega
            all_goals
              have HST := Lib.hid (he.out.trans (ig_not hc h62 h))
              clear he hc t62 n60 h62 h
              go_wp2_with fail
              go_ret2
              exact ⟨idsOut_err HST.out rfl, hB⟩
      · have hst2 := he.out.trans (ig_end (by omega))
        have hk2 : d.length = k := by have : (d.map sv).length = k * 1 := hO.1; simpa using this
        cases ins with
        | false =>
          have HST := Lib.hid (show idsP l = .ok d from hst2)
          have HK2 := Lib.hid hk2
          clear hst2 he hk2 hI
          go_wp2_with fail
          go_ret2
          exact ⟨idsOut_ok HST.out rfl (by rw [HK2.out]; exact hO), hB⟩
        | true =>
          have HST := Lib.hid (show idsP l = .error 3 from hst2)
          clear hst2 he hk2 hI hO
          go_wp2_with fail
          go_ret2
          exact ⟨idsOut_err HST.out rfl, hB⟩
end Go.Proofs.YtnmkapaphbaomaaDoor
