/- The statement FieldBack: the walk of the law. -/
import Derived.Test.YtgohdohkikkeeaaDoorB11
namespace Go.Proofs.YtgohdohkikkeeaaDoor
set_option linter.unusedVariables false
set_option linter.unusedSimpArgs false
open Go.RowKit

theorem and1z (z : Int) : bits .and .i64 z 1 = z % 2 := by
  have h127 : (BitVec.ofInt 64 1).toNat = 2 ^ 1 - 1 := by decide
  have key : (BitVec.ofInt 64 z &&& BitVec.ofInt 64 1).toNat = (z % ((2 ^ 64 : Nat) : Int)).toNat % 2 ^ 1 := by
    rw [BitVec.toNat_and, BitVec.toNat_ofInt, h127, Nat.and_two_pow_sub_one_eq_mod]
  show IntKind.i64.wrap ((BitVec.ofInt 64 z &&& BitVec.ofInt 64 1).toNat : Nat) = z % 2
  rw [key, IntKind.wrap_i64]
  omega
/-- what stands ahead of place i -/
def prevB (l : List UInt8) (i : Nat) : UInt8 := if i = 0 then 10 else l.getD (i - 1) 0
/-- so far the lines may come so -/
def LoAt (all o : List UInt8) (i : Nat) : Prop := ∀ t, Lo (prevB all i) (all.drop i) t → Lo 10 all (o ++ t)
theorem LoAt.start (all : List UInt8) : LoAt all [] 0 := fun t h => h
theorem prevB_succ {l : List UInt8} {i : Nat} {c : UInt8} (h : l[i]? = some c) : prevB l (i + 1) = c := by
  unfold prevB
  rw [if_neg (by omega), Nat.add_sub_cancel, List.getD, h]
  rfl
theorem LoAt.drop {all o : List UInt8} {i : Nat} (h : LoAt all o i) (hc : all[i]? = some 13) : LoAt all o (i + 1) := fun t ht => by
  rw [prevB_succ hc] at ht
  exact h t (by rw [drop_cons hc]; exact Lo.drop _ _ _ ht)
theorem LoAt.keep {all o : List UInt8} {i : Nat} {c : UInt8} (h : LoAt all o i) (hc : all[i]? = some c) : LoAt all (o ++ [c]) (i + 1) := fun t ht => by
  rw [prevB_succ hc] at ht
  rw [List.append_assoc]
  exact h _ (by rw [drop_cons hc]; exact Lo.keep _ _ _ _ ht)
theorem LoAt.put {all o : List UInt8} {i : Nat} {c p : UInt8} (h : LoAt all o i) (hc : all[i]? = some c) (hi : 0 < i) (hp : all[i - 1]? = some p) (hb : blk c = true) (h1 : p ≠ 10) (h2 : p ≠ 58) : LoAt all (o ++ [13, 10, c]) (i + 1) := fun t ht => by
  rw [prevB_succ hc] at ht
  rw [List.append_assoc]
  have e : prevB all i = p := by
    unfold prevB
    rw [if_neg (by omega), List.getD, hp]
    rfl
  refine h _ ?_
  rw [drop_cons hc, e]
  exact Lo.put _ _ _ _ hb h1 h2 ht
theorem LoAt.done {all o : List UInt8} (h : LoAt all o all.length) : Lo 10 all o := by
  have := h [] (by rw [List.drop_length]; exact Lo.nil _)
  rwa [List.append_nil] at this

set_option maxRecDepth 100000 in
set_option maxHeartbeats 4000000 in
theorem back9_any (A B C : Option Addr) (fs : List (List UInt8 × List UInt8)) (rs : List UInt8) (zs : List Int) (n c m d u f : Nat) (w : World) (hn : fs.length = n) (hm : rs.length = m) (hu : zs.length = u) (hA : Rf w A fs) (hB : Rb w B rs) (hC : Rv w C (zs.map (Value.int .i64))) (hnc : n ≤ c) (hmd : m ≤ d) (huf : u ≤ f)
    (hs : ∀ p ∈ fs, p.1.length ≤ 9223372036854775807 ∧ p.2.length ≤ 9223372036854775807) :
    Calls Tryd.prog 3 #[.slice A n c, .slice B m d, .slice C u f] w fun e w' => e = .returned (.bool true) ∧ Below w.heap.size w w' := by
  have HN := Lib.hid hn
  have HM := Lib.hid hm
  have HU := Lib.hid hu
  have HS := Lib.hid hs
  clear hn hm hs hu
  have hpu : ∀ W, Sem.run Tryd.prog (pure #[] : Sem (Array Value)) W = .ok #[] W := fun _ => rfl
  have hst : ∀ a W, Sem.run Tryd.prog (storeCells a []) W = .ok () W := fun _ _ => rfl
  go_enter Tryd.func3, Tryd.ntmps3
  go_wp2_with fail
  refine (speaks9_any _).mono ?_
  rintro e w1 ⟨rfl, hB1⟩
  by_cases h1 : 30 < n
  · go_wp2_with fail
    go_ret
    exact ⟨rfl, hB1⟩
  by_cases h2 : 500 < m
  · go_wp2_with fail
    go_ret
    exact ⟨rfl, hB1⟩
  by_cases h3 : 20 < u
  · go_wp2_with fail
    go_ret
    exact ⟨rfl, hB1⟩
  go_wp2_with fail
  refine (right_any A fs n c w1 HN.out (hA.below hB1) hnc HS.out (by omega)).mono ?_
  rintro e w2 ⟨rfl, hd2⟩
  have hB2 := hB1.trans ((hd2.below _).mono hB1.size)
  cases hrt : (rightF fs && decide (fs.length ≤ 200)) with
  | false =>
    go_wp2_with fail
    go_ret
    exact ⟨rfl, hB2⟩
  | true =>
    rw [Bool.and_eq_true] at hrt
    have HRT := Lib.hid hrt.1
    clear hrt
    have hown0 := World.ownsRow_made (base := w.heap.size) (e := 5) (size := 1) w2 #[] 0 hB2.size (by unfold maxLen; omega) rfl
    have hB3 : Below w.heap.size w (w2.alloc (.cells #[] 5)) := hB2.alloc hB2.size _
    go_wp2_with fail
    go_loopw [7, 41] (fun x i wr => ∃ k N : Nat, i = .int .i64 k ∧ k ≤ n ∧ N ≤ 24646 * k ∧ wr.ownsRow w.heap.size 5 1 x N ((foldAll (fs.take k)).map bv) ∧ Below w.heap.size w wr) (fun _ i _ => n - (intOf i).toNat)
    case atStart => exact ⟨0, 0, rfl, by omega, by omega, hown0, hB3⟩
    case round =>
      obtain ⟨k, N, rfl, hk, hN, hown, hBr⟩ := hrel
      by_cases hlt : k < n
      · obtain ⟨b, o, p, rfl, hp, g0, g1⟩ := (hA.below hBr).one (k := k) (by rw [HN.out]; exact hlt)
        obtain ⟨hnm, hvl⟩ := right_at HRT.out hp.out
        obtain ⟨l1, l2⟩ := HS.out p (List.mem_of_getElem? hp.out)
        have hfl := foldF_len p.1 p.2
        have hnl := (nmOk_len hnm).2
        have hvll := vlOk_len hvl
        have hst2 : foldAll (fs.take (k + 1)) = foldAll (fs.take k) ++ foldF p.1 p.2 := by rw [take_succ_of hp.out, foldAll_snoc]
        have HST := Lib.hid hst2
        have HOK := Lib.hid (show (nmOk p.1 && vlOk p.2) = true by rw [hnm, hvl]; rfl)
        clear hst2 hnm hvl hown0
        have hB4 : Below w.heap.size w (wr.alloc (.cells #[.string (bs p.1), .string (bs p.2)] 28)) := hBr.alloc hBr.size _
        go_wp2_with fail
        refine (fold_any p.1 p.2 _ l1 l2).mono ?_
        rintro e w5 ⟨hfo, hb5⟩
        have hB5 := hB4.trans (hb5.mono hB4.size)
        have hs5 := hB5.size
        rcases hfo with ⟨_, _, x', rfl, hx'⟩ | ⟨hno, _⟩
        · obtain ⟨XA, xc, rfl, hxc, _, hXR, _⟩ := hx'.form
          have hown5 := own_below (hown.alloc (.cells #[.string (bs p.1), .string (bs p.2)] 28)) hb5
          have hXRb : Rb w5 XA (foldF p.1 p.2) := hXR
          generalize foldF p.1 p.2 = ff at *
          go_wp2_with (at_builtin; refine wpList_app rfl (.tmp 52) (.tmp 53) _ _ rfl TU8 hown5 rfl (Src_rb Tryd.underlying23 rfl hXRb) rfl (by omega) hs5 ?_; intro v6 w6 hown6 hgr6 hat6; have hB6 := below_app hB5 hown5 hgr6 hs5 (Nat.le_refl _))
          go_roundw
          case rel => exact ⟨k + 1, N + ff.length, by go_num, by omega, by omega, by rw [HST.out, List.map_append]; exact hown6, hB6⟩
          case measure => simp [intOf]; omega
        · rw [HOK.out] at hno
          cases hno
      · obtain rfl : k = n := by omega
        rw [List.take_of_length_le (by rw [HN.out]; omega)] at hown
        have hwhole := foldAll_whole fs HRT.out
        have hsr := hBr.size
        have HW := Lib.hid hwhole
        have hNl : (foldAll fs).length = N := by simpa using hown.1
        have HNL := Lib.hid hNl
        clear hwhole hown0 hlt hNl
        by_cases h4 : 20000 < N
        · have h4i : (20000 : Int) < (N : Int) := by omega
          clear h4
          have hown7 := hown
          obtain ⟨AA, ac, rfl, hac, _, hAR, _⟩ := own_form hown
          go_wp2_with fail
          go_ret
          exact ⟨rfl, hBr⟩
        · have h4i : ¬ (20000 : Int) < (N : Int) := by omega
          have hown7 := hown
          obtain ⟨AA, ac, rfl, hac, _, hAR, _⟩ := own_form hown
          obtain ⟨wA, rfl⟩ : ∃ wA : World, wA = wr := ⟨_, rfl⟩
          have hownL := World.ownsRow_made (base := wA.heap.size) (e := 5) (size := 1) wA #[] 0 (Nat.le_refl _) (by unfold maxLen; omega) rfl
          have hC0 : Below wA.heap.size wA (wA.alloc (.cells #[] 5)) := (Below.refl _ _).alloc (Nat.le_refl _) _
          have hRA : Rb wA AA (foldAll fs) := hAR
          generalize foldAll fs = al at *
          go_wp2_with fail
          go_loopw [12, 62] (fun x i wr => ∃ (q M : Nat) (o : List UInt8), i = .int .i64 q ∧ q ≤ N ∧ M ≤ 3 * q ∧ Hid (LoAt al o q) ∧ wr.ownsRow wA.heap.size 5 1 x M (o.map bv) ∧ Below wA.heap.size wA wr) (fun _ i _ => N - (intOf i).toNat)
          case atStart => exact ⟨0, 0, [], rfl, by omega, by omega, Lib.hid (LoAt.start al), hownL, hC0⟩
          case round =>
            obtain ⟨q, M, o, rfl, hq, hM, hlo, hownO, hCr⟩ := hrel
            have hsr2 := hCr.size
            clear hownL
            by_cases hlt : q < N
            · obtain ⟨ab, ao, ch, rfl, hch, hcc⟩ := (hRA.below hCr).one (k := q) (by rw [HNL.out]; exact hlt)
              have HKEEP := Lib.hid (hlo.out.keep hch.out)
              have hand := and1z (q : Int)
              by_cases h13 : ch = 13
              · have HDROP : ch = 13 → Hid (LoAt al o (q + 1)) := fun e => Lib.hid (hlo.out.drop (by rw [← e]; exact hch.out))
                have HDR := HDROP h13
                have h13i : (ch.toNat : Int) = 13 := by rw [h13]; rfl
                have h32b : ((ch.toNat : Int) == 32) = false := by rw [h13i]; rfl
                have h9b : ((ch.toNat : Int) == 9) = false := by rw [h13i]; rfl
                have h13b : ((ch.toNat : Int) == 13) = true := by rw [h13i]; rfl
                clear HDROP h13 h13i
                rcases (by omega : (q : Int) % 2 = 0 ∨ (q : Int) % 2 = 1) with hev | hev
                · have hevb : ((q : Int) % 2 == 0) = true := by rw [hev]; rfl
                  clear hev
                  go_wp2_with fail
                  go_roundw
                  case rel => exact ⟨q + 1, M, o, by go_num, by omega, by omega, HDR, hownO, hCr⟩
                  case measure => simp [intOf]; omega
                · have hevb : ((q : Int) % 2 == 0) = false := by rw [hev]; rfl
                  clear hev HDR
                  by_cases hq1 : 1 < q
                  · go_wp2_with (at_builtin; refine wpList_app rfl _ _ _ _ rfl TU8 (hownO.alloc (.cells #[bv ch] 5)) rfl (Src_rv (news := [bv ch]) Tryd.underlying23 rfl (Rv_new wr _ _ _ rfl) (by simp [Value.oneCell', bv]) (by omega)) rfl (by omega) (by simp; omega) ?_; intro v6 w6 hown6 hgr6 hat6; have hC6 := below_app (hCr.alloc hsr2 (.cells #[bv ch] 5)) (hownO.alloc _) hgr6 (by simp; omega) (Nat.le_refl _))
                    go_roundw
                    case rel => exact ⟨q + 1, M + 1, o ++ [ch], by go_num, by omega, by omega, HKEEP, by rw [List.map_append]; exact hown6, hC6⟩
                    case measure => simp [intOf]; omega

                  · go_wp2_with (at_builtin; refine wpList_app rfl _ _ _ _ rfl TU8 (hownO.alloc (.cells #[bv ch] 5)) rfl (Src_rv (news := [bv ch]) Tryd.underlying23 rfl (Rv_new wr _ _ _ rfl) (by simp [Value.oneCell', bv]) (by omega)) rfl (by omega) (by simp; omega) ?_; intro v6 w6 hown6 hgr6 hat6; have hC6 := below_app (hCr.alloc hsr2 (.cells #[bv ch] 5)) (hownO.alloc _) hgr6 (by simp; omega) (Nat.le_refl _))
                    go_roundw
                    case rel => exact ⟨q + 1, M + 1, o ++ [ch], by go_num, by omega, by omega, HKEEP, by rw [List.map_append]; exact hown6, hC6⟩
                    case measure => simp [intOf]; omega

              · have h13b : ((ch.toNat : Int) == 13) = false := by
                  rw [beq_eq_false_iff_ne]
                  intro e
                  exact h13 (UInt8.toNat_inj.1 (by show ch.toNat = 13; omega))
                clear h13
                by_cases hq1 : 1 < q
                · rcases blk_cases ch with ⟨hbk, hb2⟩ | ⟨hbk, hb2, hb3⟩
                  · obtain ⟨j, rfl⟩ : ∃ j, q = j + 1 := ⟨q - 1, by omega⟩
                    obtain ⟨pb, po, pc, e, hpc, hpcc⟩ := (hRA.below hCr).one (k := j) (by rw [HNL.out]; omega)
                    cases e
                    have hfacts : (((ch.toNat : Int) == 32) = true) ∨ (((ch.toNat : Int) == 32) = false ∧ ((ch.toNat : Int) == 9) = true) := by
                      rw [beq_iff_eq, beq_eq_false_iff_ne, beq_iff_eq]
                      exact hb2
                    clear hb2
                    rcases hfacts with h32b | ⟨h32b, h9b⟩
                    all_goals
                      by_cases hp10 : pc = 10
                      · have hp10b : ((pc.toNat : Int) != 10) = false := by rw [hp10]; rfl
                        clear hp10
                        go_wp2_with (at_builtin; refine wpList_app rfl _ _ _ _ rfl TU8 (hownO.alloc (.cells #[bv ch] 5)) rfl (Src_rv (news := [bv ch]) Tryd.underlying23 rfl (Rv_new wr _ _ _ rfl) (by simp [Value.oneCell', bv]) (by omega)) rfl (by omega) (by simp; omega) ?_; intro v6 w6 hown6 hgr6 hat6; have hC6 := below_app (hCr.alloc hsr2 (.cells #[bv ch] 5)) (hownO.alloc _) hgr6 (by simp; omega) (Nat.le_refl _))
                        go_roundw
                        case rel => exact ⟨j + 1 + 1, M + 1, o ++ [ch], by go_num, by omega, by omega, HKEEP, by rw [List.map_append]; exact hown6, hC6⟩
                        case measure => simp [intOf]; omega
                      · have hp10b : ((pc.toNat : Int) != 10) = true := by
                          rw [bne_iff_ne]
                          intro e
                          exact hp10 (UInt8.toNat_inj.1 (by show pc.toNat = 10; omega))
                        by_cases hp58 : pc = 58
                        · have hp58b : ((pc.toNat : Int) != 58) = false := by rw [hp58]; rfl
                          clear hp58 hp10
                          go_wp2_with (at_builtin; refine wpList_app rfl _ _ _ _ rfl TU8 (hownO.alloc (.cells #[bv ch] 5)) rfl (Src_rv (news := [bv ch]) Tryd.underlying23 rfl (Rv_new wr _ _ _ rfl) (by simp [Value.oneCell', bv]) (by omega)) rfl (by omega) (by simp; omega) ?_; intro v6 w6 hown6 hgr6 hat6; have hC6 := below_app (hCr.alloc hsr2 (.cells #[bv ch] 5)) (hownO.alloc _) hgr6 (by simp; omega) (Nat.le_refl _))
                          go_roundw
                          case rel => exact ⟨j + 1 + 1, M + 1, o ++ [ch], by go_num, by omega, by omega, HKEEP, by rw [List.map_append]; exact hown6, hC6⟩
                          case measure => simp [intOf]; omega
                        · have hp58b : ((pc.toNat : Int) != 58) = true := by
                            rw [bne_iff_ne]
                            intro e
                            exact hp58 (UInt8.toNat_inj.1 (by show pc.toNat = 58; omega))
                          by_cases hu0 : 0 < u
                          · obtain ⟨t, ht⟩ : ∃ t, (j + 1) % u = t := ⟨_, rfl⟩
                            have htu : t < u := by rw [← ht]; exact Nat.mod_lt _ hu0
                            have hmod : ((j : Int) + 1) % (u : Int) = (t : Int) := by rw [← ht]; simp
                            have hu0b : ((u : Int) == 0) = false := by rw [beq_eq_false_iff_ne]; omega
                            have hul : (zs.map (Value.int .i64)).length = u := by rw [List.length_map, HU.out]
                            obtain ⟨cb, co, zv, rfl, hzv, hcz⟩ := ((hC.below hBr).below hCr).one (k := t) (by rw [hul]; exact htu)
                            obtain ⟨zz, _, rfl⟩ : ∃ zz, zs[t]? = some zz ∧ zv = .int .i64 zz := by
                              have := hzv.out
                              simp only [List.getElem?_map, Option.map_eq_some_iff] at this
                              obtain ⟨g, h1, h2⟩ := this
                              exact ⟨g, h1, h2.symm⟩
                            have handz := and1z zz
                            have HPUT := Lib.hid (hlo.out.put (p := pc) hch.out (by omega) (by simpa using hpc.out) hbk hp10 hp58)
                            clear hp10 hp58 ht hul hzv
                            rcases (by omega : zz % 2 = 0 ∨ zz % 2 = 1) with hev | hev
                            · have hevz : (zz % 2 == 1) = false := by rw [hev]; rfl
                              clear hev HPUT
                              go_wp2_with (at_builtin; refine wpList_app rfl _ _ _ _ rfl TU8 (hownO.alloc (.cells #[bv ch] 5)) rfl (Src_rv (news := [bv ch]) Tryd.underlying23 rfl (Rv_new wr _ _ _ rfl) (by simp [Value.oneCell', bv]) (by omega)) rfl (by omega) (by simp; omega) ?_; intro v6 w6 hown6 hgr6 hat6; have hC6 := below_app (hCr.alloc hsr2 (.cells #[bv ch] 5)) (hownO.alloc _) hgr6 (by simp; omega) (Nat.le_refl _))
                              go_roundw
                              case rel => exact ⟨j + 1 + 1, M + 1, o ++ [ch], by go_num, by omega, by omega, HKEEP, by rw [List.map_append]; exact hown6, hC6⟩
                              case measure => simp [intOf]; omega
                            · have hevz : (zz % 2 == 1) = true := by rw [hev]; rfl
                              clear hev HKEEP
                              go_wp2_with (first
                                | (at_builtin; refine wpList_app rfl _ _ _ _ rfl TU8 (hownO.alloc (.cells #[bv 13, bv 10] 5)) rfl (Src_rv (news := [bv 13, bv 10]) Tryd.underlying23 rfl (Rv_new wr _ _ _ rfl) (by simp [Value.oneCell', bv]) (by omega)) rfl (by omega) (by simp; omega) ?_; intro v5 w5 hown5 hgr5 hat5; have hC5 := below_app (hCr.alloc hsr2 (.cells #[bv 13, bv 10] 5)) (hownO.alloc _) hgr5 (by simp; omega) (Nat.le_refl _); have hs5 := hC5.size)
                                | (at_builtin; refine wpList_app rfl _ _ _ _ rfl TU8 (hown5.alloc (.cells #[bv ch] 5)) rfl (Src_rv (news := [bv ch]) Tryd.underlying23 rfl (Rv_new w5 _ _ _ rfl) (by simp [Value.oneCell', bv]) (by omega)) rfl (by omega) (by simp; omega) ?_; intro v6 w6 hown6 hgr6 hat6; have hC6 := below_app (hC5.alloc hs5 (.cells #[bv ch] 5)) (hown5.alloc _) hgr6 (by simp; omega) (Nat.le_refl _)))
                              go_roundw
                              case rel => exact ⟨j + 1 + 1, M + 3, o ++ [13, 10, ch], by go_num, by omega, by omega, HPUT, (by simpa using hown6), hC6⟩
                              case measure => simp [intOf]; omega
                          · clear hp10 hp58
                            go_wp2_with (at_builtin; refine wpList_app rfl _ _ _ _ rfl TU8 (hownO.alloc (.cells #[bv ch] 5)) rfl (Src_rv (news := [bv ch]) Tryd.underlying23 rfl (Rv_new wr _ _ _ rfl) (by simp [Value.oneCell', bv]) (by omega)) rfl (by omega) (by simp; omega) ?_; intro v6 w6 hown6 hgr6 hat6; have hC6 := below_app (hCr.alloc hsr2 (.cells #[bv ch] 5)) (hownO.alloc _) hgr6 (by simp; omega) (Nat.le_refl _))
                            go_roundw
                            case rel => exact ⟨j + 1 + 1, M + 1, o ++ [ch], by go_num, by omega, by omega, HKEEP, by rw [List.map_append]; exact hown6, hC6⟩
                            case measure => simp [intOf]; omega
                  · have h32b : ((ch.toNat : Int) == 32) = false := by rw [beq_eq_false_iff_ne]; exact hb2
                    have h9b : ((ch.toNat : Int) == 9) = false := by rw [beq_eq_false_iff_ne]; exact hb3
                    clear hb2 hb3 hbk
                    go_wp2_with (at_builtin; refine wpList_app rfl _ _ _ _ rfl TU8 (hownO.alloc (.cells #[bv ch] 5)) rfl (Src_rv (news := [bv ch]) Tryd.underlying23 rfl (Rv_new wr _ _ _ rfl) (by simp [Value.oneCell', bv]) (by omega)) rfl (by omega) (by simp; omega) ?_; intro v6 w6 hown6 hgr6 hat6; have hC6 := below_app (hCr.alloc hsr2 (.cells #[bv ch] 5)) (hownO.alloc _) hgr6 (by simp; omega) (Nat.le_refl _))
                    go_roundw
                    case rel => exact ⟨q + 1, M + 1, o ++ [ch], by go_num, by omega, by omega, HKEEP, by rw [List.map_append]; exact hown6, hC6⟩
                    case measure => simp [intOf]; omega

                · go_wp2_with (at_builtin; refine wpList_app rfl _ _ _ _ rfl TU8 (hownO.alloc (.cells #[bv ch] 5)) rfl (Src_rv (news := [bv ch]) Tryd.underlying23 rfl (Rv_new wr _ _ _ rfl) (by simp [Value.oneCell', bv]) (by omega)) rfl (by omega) (by simp; omega) ?_; intro v6 w6 hown6 hgr6 hat6; have hC6 := below_app (hCr.alloc hsr2 (.cells #[bv ch] 5)) (hownO.alloc _) hgr6 (by simp; omega) (Nat.le_refl _))
                  go_roundw
                  case rel => exact ⟨q + 1, M + 1, o ++ [ch], by go_num, by omega, by omega, HKEEP, by rw [List.map_append]; exact hown6, hC6⟩
                  case measure => simp [intOf]; omega

            · have hqN : q = N := by omega
              have hlo2 : Lo 10 al o := LoAt.done (by have := hlo.out; rw [hqN, ← HNL.out] at this; exact this)
              have hfsl : fs.length ≤ 200 := by rw [HN.out]; omega
              have hrd1 : readGo [] (al ++ [13, 10] ++ rs) = .ok (fs, rs) := by
                have := readGo_head HW.out.toT [] true rs (by simpa using hfsl)
                simpa [eol] using this
              have hrd2 : readGo [] (o ++ [10] ++ rs) = .ok (fs, rs) := by
                have := readGo_head (lo_head HW.out o hlo2) [] false rs (by simpa using hfsl)
                simpa [eol] using this
              have HD1 := Lib.hid hrd1
              have HD2 := Lib.hid hrd2
              have hol : o.length = M := by simpa using hownO.1
              have HOL := Lib.hid hol
              have hlx := hownO
              obtain ⟨LA, lc, rfl, hlc, _, hLR, _⟩ := own_form hownO
              have hRAr := hRA.below hCr
              have hBw : Below w.heap.size w wr := hBr.trans (hCr.mono hsr)
              have hsw := hBw.size
              have hown8 := World.ownsRow_made (base := wr.heap.size) (e := 5) (size := 1) wr #[] 0 (Nat.le_refl _) (by unfold maxLen; omega) rfl
              have hD8 : Below wr.heap.size wr (wr.alloc (.cells #[] 5)) := (Below.refl _ _).alloc (Nat.le_refl _) _
              have hR8 : Rb (wr.alloc (.cells #[] 5)) AA al := hRAr.below hD8
              have hs8 := hD8.size
              clear hrd1 hrd2 hol hlo hlo2 hqN hown7 hownO
              go_wp2_with (first
                | (at_builtin; refine wpList_app rfl _ _ _ _ rfl TU8 hown8 rfl (Src_rb Tryd.underlying23 HNL.out hR8) rfl (by omega) hs8 ?_; intro v9 w9 hown9 hgr9 hat9; have hD9 := below_app hD8 hown8 hgr9 hs8 (Nat.le_refl _); have hs9 := hD9.size)
                | (at_builtin; refine wpList_app rfl _ _ _ _ rfl TU8 hown9 rfl (Src_str Tryd.underlying9 [13, 10]) rfl (by simp; omega) hs9 ?_; intro v10 w10 hown10 hgr10 hat10; have hD10 := below_app hD9 hown9 hgr10 hs9 (Nat.le_refl _); have hs10 := hD10.size; have hRB10 := hB.below (hBw.trans (hD10.mono hsw)))
                | (at_builtin; refine wpList_app rfl _ _ _ _ rfl TU8 hown10 rfl (Src_rb Tryd.underlying23 HM.out hRB10) rfl (by simp; omega) hs10 ?_; intro v11 w11 hown11 hgr11 hat11; have hD11 := below_app hD10 hown10 hgr11 hs10 (Nat.le_refl _); have hown12 := hown11; obtain ⟨TA, tc, rfl, htc, _, hTR, _⟩ := own_form hown11))
              have hTRb : Rb w11 TA (al ++ [13, 10] ++ rs) := by
                unfold Rb
                rw [List.map_append, List.map_append]
                exact hTR
              have hTl : (al ++ [13, 10] ++ rs).length = N + 2 + m := by rw [List.length_append, List.length_append, HNL.out, HM.out]; rfl
              have hplT := own_pl hown12
              have htc2 : N + 2 + m ≤ tc := by simpa using htc
              clear hown8 hown9 hown10 hown11 hown12 hTR hgr9 hgr10 hgr11 hat9 hat10 hat11 hR8 hRB10 htc
              refine (read_any TA (al ++ [13, 10] ++ rs) (N + 2 + m) tc w11 hTl hTRb htc2 hplT (by omega)).mono ?_
              rintro e w12 ⟨hro, hb12⟩
              rw [HD1.out] at hro
              obtain ⟨fv1, v1, rfl, hf1, hv1⟩ := hro
              rw [HN.out] at hf1
              have hD12 := hD11.trans (hb12.mono hD11.size)
              have hB12 := hBw.trans (hD12.mono hsw)
              obtain ⟨F1, f1c, rfl, _, _, hF1, _⟩ := own_form hf1
              obtain ⟨V1, v1c, rfl, _, _, hV1, _⟩ := own_form hv1
              clear hf1 hv1 hTl hTRb hplT
              go_wp2_with fail
              refine (samef_any F1 A fs _ f1c c w12 HN.out hF1 (hA.below hB12) (by omega)).mono ?_
              rintro e w13 ⟨rfl, hd13⟩
              have hB13 := hB12.trans ((hd13.below _).mono hB12.size)
              have hD13 := hD12.trans ((hd13.below _).mono hD12.size)
              go_wp2_with fail
              refine (same_any V1 B rs rs rs.length m v1c d w13 rfl HM.out (Rb.below (l := rs) hV1 (hd13.below _)) (hB.below hB13) (by rw [HM.out]; omega)).mono ?_
              rintro e w14 ⟨rfl, hd14⟩
              rw [decide_eq_true rfl]
              have hB14 := hB13.trans ((hd14.below _).mono hB13.size)
              have hD14 := hD13.trans ((hd14.below _).mono hD13.size)
              have hs14 := hD14.size
              have hs14w := hB14.size
              have hsc := hCr.size
              have hl14 := own_below hlx hD14
              go_wp2_with (first
                | (at_builtin; refine wpList_app rfl _ _ _ _ rfl TU8 (hl14.alloc (.cells #[bv 10] 5)) rfl (Src_rv (news := [bv 10]) Tryd.underlying23 rfl (Rv_new w14 _ _ _ rfl) (by simp [Value.oneCell', bv]) (by omega)) rfl (by omega) (by simp; omega) ?_; intro v16 w16 hown16 hgr16 hat16; have hB16 := below_app (hB14.alloc hs14w (.cells #[bv 10] 5)) (hl14.alloc _) hgr16 (by simp; omega) hsr; have hs16 : wA.heap.size ≤ w16.heap.size := (by have := hgr16.size; simp at this; omega); have hRB16 := hB.below hB16)
                | (at_builtin; refine wpList_app rfl _ _ _ _ rfl TU8 hown16 rfl (Src_rb Tryd.underlying23 HM.out hRB16) rfl (by omega) hs16 ?_; intro v17 w17 hown17 hgr17 hat17; have hB17 := below_app hB16 hown16 hgr17 hB16.size hsr; have hown18 := hown17; obtain ⟨UA, uc, rfl, huc, _, hUR, _⟩ := own_form hown17))
              have hURb : Rb w17 UA (o ++ [10] ++ rs) := by
                unfold Rb
                rw [List.map_append, List.map_append]
                exact hUR
              have hUl : (o ++ [10] ++ rs).length = M + 1 + m := by rw [List.length_append, List.length_append, HOL.out, HM.out]; rfl
              have hplU := own_pl hown18
              refine (read_any UA (o ++ [10] ++ rs) (M + 1 + m) uc w17 hUl hURb huc hplU (by omega)).mono ?_
              rintro e w18 ⟨hro2, hb18⟩
              rw [HD2.out] at hro2
              obtain ⟨fv2, v2, rfl, hf2, hv2⟩ := hro2
              rw [HN.out] at hf2
              have hB18 := hB17.trans (hb18.mono hB17.size)
              obtain ⟨F2, f2c, rfl, _, _, hF2, _⟩ := own_form hf2
              obtain ⟨V2, v2c, rfl, _, _, hV2, _⟩ := own_form hv2
              clear hf2 hv2 hUl hURb hplU hown18 hown17 hown16 hl14 hlx
              go_wp2_with fail
              refine (samef_any F2 A fs _ f2c c w18 HN.out hF2 (hA.below hB18) (by omega)).mono ?_
              rintro e w19 ⟨rfl, hd19⟩
              have hB19 := hB18.trans ((hd19.below _).mono hB18.size)
              go_wp2_with fail
              refine (same_any V2 B rs rs rs.length m v2c d w19 rfl HM.out (Rb.below (l := rs) hV2 (hd19.below _)) (hB.below hB19) (by rw [HM.out]; omega)).mono ?_
              rintro e w20 ⟨rfl, hd20⟩
              rw [decide_eq_true rfl]
              go_wp2_with fail
              go_ret
              exact ⟨rfl, hB19.trans ((hd20.below _).mono hB19.size)⟩
end Go.Proofs.YtgohdohkikkeeaaDoor
