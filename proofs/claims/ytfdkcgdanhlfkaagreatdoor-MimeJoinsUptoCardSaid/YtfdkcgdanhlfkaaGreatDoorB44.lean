/- MimeJoins' walk: rows of bytes with a boundary's lines between come back. -/
import Derived.Test.YtfdkcgdanhlfkaaGreatDoorB40
import Derived.Test.YtfdkcgdanhlfkaaGreatDoorB42
import Derived.Test.YtfdkcgdanhlfkaaGreatDoorB43
namespace Go.Proofs.YtfdkcgdanhlfkaaGreatDoor
set_option linter.unusedVariables false
set_option linter.unusedSimpArgs false
open Go.RowKit

theorem freshX (w : World) (base : Nat) (e : TypeId) (xs : List Value) (cs : Array Value) (hcs : cs = xs.toArray) (h : base ≤ w.heap.size) {n : Nat} (hn : xs.length = n) (hl : n ≤ maxLen) : OwnM (w.alloc (.cells cs e)) base e 1 (.slice (some ⟨w.heap.size, 0, none⟩) n n) n xs := by
  subst hcs
  subst hn
  exact ⟨by simp, .inr ⟨w.heap.size, xs.length, xs.toArray, (0, 0), rfl, h, World.alloc_heap_new w _, .inl rfl, Nat.le_refl _, hl, by simp, by simp only [Nat.mul_one, List.toList_toArray]; exact List.take_of_length_le (by simp)⟩⟩
/-- a row ahead of the rows -/
theorem RI.cons {w : World} {A A1 : Option Addr} {la : List UInt8} {n c : Nat} {vs : List Value} {ps : List (List UInt8)} (hn : la.length = n) (h1 : Rb w A1 la) (hc : n ≤ c) (hm : c ≤ maxLen) (hv : Rv w A ([.slice A1 n c] ++ vs)) (hl : vs.length = ps.length)
    (he : ∀ (j : Nat) (l : List UInt8), ps[j]? = some l → ∃ B c, vs[j]? = some (.slice B l.length c) ∧ l.length ≤ c ∧ c ≤ maxLen ∧ Rb w B l) : RI w A (la :: ps) := by
  subst hn
  refine ⟨_, hv, by simp [hl], fun j l hj => ?_⟩
  rcases j with _ | j
  · simp at hj
    subst hj
    exact ⟨A1, c, rfl, hc, hm, h1⟩
  · simp at hj
    obtain ⟨B, d, e1, e2⟩ := he j l hj
    exact ⟨B, d, by simpa using e1, e2⟩
/-- the first rows are right -/
def OkTo (L : List (List UInt8)) (j : Nat) : Prop := ∀ q < j, ∀ p, L[q]? = some p → okP p ∧ p.length ≤ 500
theorem OkTo.next {L : List (List UInt8)} {j : Nat} {p : List UInt8} (h : OkTo L j) (hp : L[j]? = some p) (hk : ∀ q < (lns p).length, ∀ t, (lns p)[q]? = some t → p.length ≤ 500 ∧ ¬ dd t.1) : OkTo L (j + 1) := by
  intro q hq p' hp'
  rcases Nat.lt_succ_iff_lt_or_eq.1 hq with h1 | rfl
  · exact h q h1 p' hp'
  · rw [hp] at hp'
    cases hp'
    refine ⟨fun t ht => ?_, ?_⟩
    · obtain ⟨i, hi⟩ := List.mem_iff_getElem?.1 ht
      exact (hk i (lt_of_get hi) t hi).2
    · by_cases h0 : 0 < (lns p).length
      · exact (hk 0 h0 _ (List.getElem?_eq_getElem h0)).1
      · have h2 := tot_lns p
        rw [List.eq_nil_of_length_eq_zero (show (lns p).length = 0 by omega)] at h2
        simp [tot] at h2
        omega
theorem dd_iff (l : List UInt8) : dd l ↔ 1 < l.length ∧ l[0]? = some 45 ∧ l[1]? = some 45 := by
  unfold dd
  rcases l with _ | ⟨x, _ | ⟨y, r⟩⟩ <;> simp
theorem own_cat {w : World} {base : Nat} {v : Value} {n : Nat} {L m : List UInt8} (h : OwnM w base 5 1 v n (L.map bv ++ m.map bv)) : OwnM w base 5 1 v n ((L ++ m).map bv) := by
  rw [List.map_append]
  exact h

theorem join_pre {w1 w2 : World} {A0 A1 : Option Addr} {n0 n1 c1 : Nat} {ps : List (List UInt8)} (hB2 : Below w1.heap.size w1 w2) (hR1 : RI w1 A0 ps) (h0 : ps.length = n0) :
    ∃ vs : List Value, Rv (w2.alloc (.cells #[.slice A1 n1 c1] 22)) A0 vs ∧ vs.length = n0 * 1 ∧ (∀ u ∈ vs, u.oneCell' = true) ∧ OwnM (w2.alloc (.cells #[.slice A1 n1 c1] 22)) w1.heap.size 22 1 (.slice (some ⟨w2.heap.size, 0, none⟩) 1 1) 1 [.slice A1 n1 c1] ∧
      w1.heap.size ≤ (w2.alloc (.cells #[.slice A1 n1 c1] 22)).heap.size ∧ Below w1.heap.size w1 (w2.alloc (.cells #[.slice A1 n1 c1] 22)) ∧
      ∀ (j : Nat) (l : List UInt8), ps[j]? = some l → ∃ B c, vs[j]? = some (.slice B l.length c) ∧ l.length ≤ c ∧ c ≤ maxLen ∧ Rb w1 B l := by
  have hs2 := hB2.size
  have hB3 : Below w1.heap.size w1 (w2.alloc (.cells #[.slice A1 n1 c1] 22)) := hB2.alloc hs2 _
  obtain ⟨vs, hvs, hvl, hve⟩ := hR1
  refine ⟨vs, hvs.below (hB3.mono (Nat.le_refl _)), by rw [hvl, h0, Nat.mul_one], ?_, freshX w2 w1.heap.size 22 [.slice A1 n1 c1] _ rfl hs2 rfl (by unfold maxLen; omega), hB3.size, hB3, hve⟩
  intro u hu
  obtain ⟨i, hi⟩ := List.mem_iff_getElem?.1 hu
  obtain ⟨l, hl⟩ : ∃ l, ps[i]? = some l := ⟨_, List.getElem?_eq_getElem (by rw [← hvl]; exact lt_of_get hi)⟩
  obtain ⟨B, c, e1, _⟩ := hve i l hl
  rw [hi] at e1
  obtain rfl := Option.some.inj e1
  rfl
theorem own_apart {w : World} {base e size n : Nat} {v : Value} {xs : List Value} (h : OwnM w base e size v n xs) : v.ownBlock = none ∨ v.ownBlock ≠ some w.heap.size := by
  cases hv : v.ownBlock with
  | none => exact .inl rfl
  | some k =>
    have := (h.lt k hv).2
    exact .inr (by simp; omega)

set_option maxRecDepth 100000 in
set_option maxHeartbeats 8000000 in
theorem mimeJoins_any (A0 A1 A2 : Option Addr) (ps : List (List UInt8)) (la lb s : List UInt8) (n0 c0 n1 c1 n2 c2 : Nat) (w : World) (h0 : ps.length = n0) (h1 : la.length = n1) (h2 : lb.length = n2)
    (hR : RI w A0 ps) (hA1 : Rb w A1 la) (hA2 : Rb w A2 lb) (k0 : n0 ≤ c0) (k1 : n1 ≤ c1) (k2 : n2 ≤ c2) (hm0 : c0 ≤ maxLen) (hm1 : c1 ≤ maxLen) (hm2 : c2 ≤ maxLen) (hps : ∀ p ∈ ps, p.length ≤ 1048576) (hs : s.length ≤ 9223372036854775807) :
    Calls Tryz.prog 4 #[.slice A0 n0 c0, .slice A1 n1 c1, .slice A2 n2 c2, .string (bs s)] w fun e w' => e = .returned (.bool true) ∧ Below w.heap.size w w' := by
  have H0 := Lib.hid h0
  have H1 := Lib.hid h1
  have H2 := Lib.hid h2
  clear h0 h1 h2
  have x0 : n0 ≤ 9223372036854775807 := by unfold maxLen at hm0; omega
  have x1 : n1 ≤ 9223372036854775807 := by unfold maxLen at hm1; omega
  have x2 : n2 ≤ 9223372036854775807 := by unfold maxLen at hm2; omega
  have hpu : ∀ W, Sem.run Tryz.prog (pure #[] : Sem (Array Value)) W = .ok #[] W := fun _ => rfl
  have hst : ∀ a W, Sem.run Tryz.prog (storeCells a []) W = .ok () W := fun _ _ => rfl
  have hsp := speaks_any w
  have hro := fun W => rboundary_any s W hs
  by_cases g0 : n0 = 0
  · have z0 : ((n0 : Int) == 0) = true := by simp [g0]
    go_enter Tryz.func4, Tryz.ntmps4
    go_wp2_with fail
    refine hsp.mono ?_
    rintro e w1 ⟨rfl, hb1⟩
    go_wp2_with fail
    go_ret
    exact ⟨rfl, hb1⟩
  have z0 : ((n0 : Int) == 0) = false := by simpa using g0
  by_cases g1 : 20 < n0
  · go_enter Tryz.func4, Tryz.ntmps4
    go_wp2_with fail
    refine hsp.mono ?_
    rintro e w1 ⟨rfl, hb1⟩
    go_wp2_with fail
    go_ret
    exact ⟨rfl, hb1⟩
  by_cases g2 : 500 < n1
  · go_enter Tryz.func4, Tryz.ntmps4
    go_wp2_with fail
    refine hsp.mono ?_
    rintro e w1 ⟨rfl, hb1⟩
    go_wp2_with fail
    go_ret
    exact ⟨rfl, hb1⟩
  by_cases g3 : 500 < n2
  · go_enter Tryz.func4, Tryz.ntmps4
    go_wp2_with fail
    refine hsp.mono ?_
    rintro e w1 ⟨rfl, hb1⟩
    go_wp2_with fail
    go_ret
    exact ⟨rfl, hb1⟩
  cases hok : bdOk s with
  | false =>
    rw [hok] at hro
    go_enter Tryz.func4, Tryz.ntmps4
    go_wp2_with fail
    refine hsp.mono ?_
    rintro e w1 ⟨rfl, hb1⟩
    go_wp2_with (go_at_call 11; refine (hro _).mono ?_; rintro e w6 ⟨rfl, rfl⟩)
    go_ret
    exact ⟨rfl, hb1⟩
  | true =>
    have HOK := Lib.hid hok
    have hs70 : s.length ≤ 70 := by
      have h := hok
      unfold bdOk at h
      simp only [Bool.and_eq_true, decide_eq_true_eq] at h
      exact h.1.2
    rw [hok] at hro
    clear hok
    go_enter Tryz.func4, Tryz.ntmps4
    go_wp2_with fail
    refine hsp.mono ?_
    rintro e w1 ⟨rfl, hb1⟩
    clear hsp
    have hA1w := hA1.below hb1
    have hR1 := hR.below hb1
    have hB0 : Below w1.heap.size w1 (w1.alloc (.cells #[] 5)) := (Below.refl _ _).alloc (Nat.le_refl _) _
    have hown := fresh0 w1 w1.heap.size 5 (Nat.le_refl _)
    have hAa := hA1w.below hB0
    have hbase : w1.heap.size ≤ (w1.alloc (.cells #[] 5)).heap.size := hB0.size
    have hbd : (0 + n1) * 1 ≤ 140737488355328 := by omega
    have hbd2 : (1 + n0) * 24 ≤ 140737488355328 := by omega
    obtain ⟨N, hN⟩ : ∃ N, 1 + n0 = N := ⟨_, rfl⟩
    have HN := Lib.hid hN
    have hNle : N ≤ 21 := by omega
    go_wp2_with (first | (go_at_call 11; refine (hro _).mono ?_; rintro e w6 ⟨rfl, rfl⟩) | (at_builtin; refine wpList_appM rfl _ _ _ _ rfl TU8 hown rfl (Src_rb Tryz.underlying22 H1.out hAa) rfl hbd hbase ?_; intro v2 w2 own2 gr2 at2; have hB2 : Below w1.heap.size w1 w2 := below_appM hB0 hown gr2 hbase (Nat.le_refl _); obtain ⟨Av, cv, hv, hvc, hvm, hRv, _, _, _⟩ := own2.form; subst hv; have hs2 := hB2.size; obtain ⟨vs, hvs, hvl2, hvone, hown3, hbase3, hB3, hve⟩ := join_pre (A1 := A1) (n1 := n1) (c1 := c1) hB2 hR1 H0.out) | (at_builtin; refine wpList_appM rfl _ _ _ _ rfl TBs hown3 rfl (Src_rv Tryz.underlying24 hvl2 hvs hvone Nat.one_pos) rfl hbd2 hbase3 ?_; intro v4 w4 own4 gr4 at4; rw [HN.out] at own4; obtain ⟨A4, c4, hv4, hc4, hm4, hR4, _, _, _⟩ := own4.form; subst hv4))
    have hB4 : Below w1.heap.size w1 w4 := below_appM hB3 hown3 gr4 hbase3 (Nat.le_refl _)
    have own4b : OwnM w4 w1.heap.size 5 1 (.slice Av n1 cv) n1 (la.map bv) := by
      have h := (own2.alloc (.cells #[.slice A1 n1 c1] 22)).kept gr4 (own_apart own2)
      rw [Nat.zero_add, List.nil_append] at h
      exact h
    have hRI : RI w4 A4 (la :: ps) := RI.cons H1.out (hA1w.below hB4) k1 hm1 hR4 (by rw [Nat.mul_one] at hvl2; rw [hvl2, H0.out]) fun j l hl => by
      obtain ⟨B, c, e1, e2, e3, e4⟩ := hve j l hl
      exact ⟨B, c, e1, e2, e3, e4.below hB4⟩
    have hall : Hid (∀ p ∈ la :: ps, p.length ≤ 1048576) := Lib.hid fun p hp => by
      rcases List.mem_cons.1 hp with rfl | hp
      · rw [H1.out]; omega
      · exact hps p hp
    have hsz4 := hB4.size
    clear own4 gr4 at4 hve hvone hvs hown3 hR4 own2 gr2 at2 hRv hown hAa hB0 hB2 hB3 hro hvl2 hbase hbase3 hbd hbd2 hps hN
    go_loopw [54] (fun i wr => ∃ j : Nat, i = .int .i64 j ∧ j ≤ N ∧ Hid (OkTo (la :: ps) j) ∧ Below w4.heap.size w4 wr) (fun i _ => N - (intOf i).toNat)
    case atStart => exact ⟨0, rfl, by omega, Lib.hid (fun q hq => by omega), Below.refl _ _⟩
    case round =>
      obtain ⟨j, rfl, hj, HO, hB⟩ := hrel
      by_cases hlt : j < N
      · obtain ⟨b, o, B, c, p, rfl, hp, cl, hpc, hpm, hRp⟩ := (hRI.below hB).one (k := j) (by have := HN.out; simp [H0.out]; omega)
        have hp20 : p.length ≤ 1048576 := hall.out p (List.mem_of_getElem? hp.out)
        obtain ⟨lp, hlp⟩ : ∃ lp, p.length = lp := ⟨_, rfl⟩
        have HLP := Lib.hid hlp
        rw [hlp] at cl hpc hp20
        have hli := rlines_any B p lp c wr hlp hRp hpc (by omega)
        clear hlp
        go_wp2_with fail
        refine hli.mono ?_
        rintro e w5 ⟨A5, c5, A6, c6, rfl, hc5, _, hr5, _, hb5⟩
        clear hli
        obtain ⟨m, hm⟩ : ∃ m, (lns p).length = m := ⟨_, rfl⟩
        have HM := Lib.hid hm
        have hml : m ≤ lp + 1 := by rw [← hm, ← HLP.out]; exact lnA_len p []
        rw [hm] at hc5 ⊢
        clear hm
        have hBw : Below w.heap.size w w5 := (hb1.trans ((hB4.trans (hB.mono hsz4)).mono hb1.size)).trans (hb5.mono (by have := hB.size; have := hb1.size; omega))
        go_wp2_with fail
        go_loop [66] (fun i => ∃ k : Nat, i = .int .i64 k ∧ k ≤ m ∧ Hid (∀ q < k, ∀ t, (lns p)[q]? = some t → p.length ≤ 500 ∧ ¬ dd t.1)) (fun i => m - (intOf i).toNat)
        case atStart => exact ⟨0, rfl, by omega, Lib.hid (fun q hq => by omega)⟩
        case round =>
          obtain ⟨k, rfl, hk, HK⟩ := hrel
          by_cases hkl : k < m
          · obtain ⟨b1, o1, B1, d1, l, rfl, hl, cl1, hld, hdm, _, _, hRl⟩ := hr5.one (k := k) (by rw [List.length_map, HM.out]; exact hkl)
            obtain ⟨t, ht, rfl⟩ := get_map hl.out
            have hKN : lp ≤ 500 → ¬ dd t.1 → Hid (∀ q < k + 1, ∀ t, (lns p)[q]? = some t → p.length ≤ 500 ∧ ¬ dd t.1) := fun a1 a2 => Lib.hid fun q hq t' ht' => by
              rcases Nat.lt_succ_iff_lt_or_eq.1 hq with h1 | rfl
              · exact HK.out q h1 t' ht'
              · rw [ht] at ht'
                cases ht'
                exact ⟨by rw [HLP.out]; exact a1, a2⟩
            have hddt := dd_iff t.1
            obtain ⟨lt1, hlt1⟩ : ∃ n, t.1.length = n := ⟨_, rfl⟩
            rw [hlt1] at cl1 hld hddt
            have q2 : lt1 ≤ 9223372036854775807 := by unfold maxLen at hdm; omega
            by_cases e1 : 500 < lp
            · clear hKN hddt ht hl
              go_wp2_with fail
              go_ret
              exact ⟨rfl, hBw⟩
            · by_cases e2 : 1 < lt1
              · obtain ⟨b2, o2, x, rfl, hx, cx⟩ := hRl.one (k := 0) (by omega)
                obtain ⟨b3, o3, y, he, hy, cy⟩ := hRl.one (k := 1) (by omega)
                cases he
                have cx0 : w5.cell? ⟨b2, o2, none⟩ = some (.int .u8 (x.toNat : Int)) := cx
                clear cx
                have hxt := hx.out
                have hyt := hy.out
                by_cases hx45 : x = 45
                · have tx : ((x.toNat : Int) == 45) = true := by rw [hx45]; rfl
                  by_cases hy45 : y = 45
                  · have ty : ((y.toNat : Int) == 45) = true := by rw [hy45]; rfl
                    clear hKN hddt ht hl hxt hyt hx hy hx45 hy45
                    go_wp2_with fail
                    go_ret
                    exact ⟨rfl, hBw⟩
                  · have ty : ((y.toNat : Int) == 45) = false := by rw [show (45 : Int) = ((45 : UInt8).toNat : Int) from rfl, u8_beq]; simpa using hy45
                    have HKN := hKN (by omega) (by rw [hddt, hyt]; simp [hy45])
                    clear hKN hddt ht hl hxt hyt hx hy hx45 hy45
                    go_wp2_with fail
                    go_round
                    case rel => exact ⟨k + 1, by go_num, by omega, HKN⟩
                    case measure => simp [intOf]; omega
                · have tx : ((x.toNat : Int) == 45) = false := by rw [show (45 : Int) = ((45 : UInt8).toNat : Int) from rfl, u8_beq]; simpa using hx45
                  have HKN := hKN (by omega) (by rw [hddt, hxt]; simp [hx45])
                  clear hKN hddt ht hl hxt hyt hx hy hx45
                  go_wp2_with fail
                  go_round
                  case rel => exact ⟨k + 1, by go_num, by omega, HKN⟩
                  case measure => simp [intOf]; omega
              · have HKN := hKN (by omega) (by rw [hddt]; omega)
                clear hKN hddt ht hl
                go_wp2_with fail
                go_round
                case rel => exact ⟨k + 1, by go_num, by omega, HKN⟩
                case measure => simp [intOf]; omega
          · obtain rfl : k = m := by omega
            have HNX : Hid (OkTo (la :: ps) (j + 1)) := Lib.hid (HO.out.next hp.out (by rw [HM.out]; exact HK.out))
            have hBn : Below w4.heap.size w4 w5 := hB.trans (hb5.mono hB.size)
            by_cases j0 : 0 < j
            · by_cases l0 : 0 < lp
              · obtain ⟨z, rfl⟩ : ∃ z, lp = z + 1 := ⟨lp - 1, by omega⟩
                obtain ⟨b2, o2, x, rfl, hx, cx⟩ := (hRp.below hb5).one (k := z) (by rw [HLP.out]; omega)
                by_cases hx13 : x = 13
                · have tx : ((x.toNat : Int) == 13) = true := by rw [hx13]; rfl
                  clear hx hx13
                  go_wp2_with fail
                  go_ret
                  exact ⟨rfl, hBw⟩
                · have tx : ((x.toNat : Int) == 13) = false := by rw [show (13 : Int) = ((13 : UInt8).toNat : Int) from rfl, u8_beq]; simpa using hx13
                  clear hx hx13
                  go_wp2_with fail
                  go_roundw
                  case rel => exact ⟨j + 1, by go_num, by omega, HNX, hBn⟩
                  case measure => simp [intOf]; omega
              · go_wp2_with fail
                go_roundw
                case rel => exact ⟨j + 1, by go_num, by omega, HNX, hBn⟩
                case measure => simp [intOf]; omega
            · go_wp2_with fail
              go_roundw
              case rel => exact ⟨j + 1, by go_num, by omega, HNX, hBn⟩
              case measure => simp [intOf]; omega
      · obtain rfl : j = N := by omega
        have hB1 : Below w1.heap.size w1 wr := hB4.trans (hB.mono hsz4)
        have hs1 := hB1.size
        have ownA : OwnM (wr.alloc (.cells #[.int .u8 10] 5)) w1.heap.size 5 1 (.slice Av n1 cv) n1 (la.map bv) := (own4b.below hB).alloc _
        have hrv : Rv (wr.alloc (.cells #[.int .u8 10] 5)) (some ⟨wr.heap.size, 0, none⟩) [bv 10] := Rv_new wr _ _ _ rfl
        have hone : ∀ u ∈ [bv 10], u.oneCell' = true := by simp [Value.oneCell', bv]
        have hbase5 : w1.heap.size ≤ (wr.alloc (.cells #[.int .u8 10] 5)).heap.size := by simp; omega
        have hbd5 : (n1 + 1) * 1 ≤ 140737488355328 := by omega
        have hnl : [bv 10].length = 1 * 1 := rfl
        obtain ⟨S0, hS0⟩ : ∃ S, [45, 45] ++ s = S := ⟨_, rfl⟩
        obtain ⟨S1, hS1⟩ : ∃ S, S0 ++ [13, 10] = S := ⟨_, rfl⟩
        obtain ⟨S2, hS2⟩ : ∃ S, S0 ++ [45, 45, 13, 10] = S := ⟨_, rfl⟩
        have hq1 : (⟨#[45, 45]⟩ : ByteArray) ++ bs s = bs S0 := by rw [← hS0]; exact bs_add [45, 45] s
        have hq2 : bs S0 ++ (⟨#[13, 10]⟩ : ByteArray) = bs S1 := by rw [← hS1]; exact bs_add S0 [13, 10]
        have hq3 : bs S0 ++ (⟨#[45, 45, 13, 10]⟩ : ByteArray) = bs S2 := by rw [← hS2]; exact bs_add S0 [45, 45, 13, 10]
        obtain ⟨N1, hN1⟩ : ∃ N, S1.length = N := ⟨_, rfl⟩
        obtain ⟨N2, hN2⟩ : ∃ N, S2.length = N := ⟨_, rfl⟩
        have lS0 : S0.length ≤ 72 := by rw [← hS0]; simp; omega
        have lN1 : N1 ≤ 74 := by rw [← hN1, ← hS1, ← hS0]; simp; omega
        have lN2 : N2 ≤ 76 := by rw [← hN2, ← hS2, ← hS0]; simp; omega
        have HS : Hid (([45, 45] ++ s ++ [13, 10] = S1 ∧ [45, 45] ++ s ++ [45, 45, 13, 10] = S2) ∧ S1.length = N1 ∧ S2.length = N2) := Lib.hid ⟨⟨by rw [hS0, hS1], by rw [hS0, hS2]⟩, hN1, hN2⟩
        clear hS0 hS1 hS2 hN1 hN2
        go_wp2_with (at_builtin; refine wpList_appM rfl _ _ _ _ rfl TU8 ownA rfl (Src_rv Tryz.underlying22 hnl hrv hone Nat.one_pos) rfl hbd5 hbase5 ?_; intro v6 w6 own6 gr6 at6; obtain ⟨A6, c6, hv6, hc6, hm6, _, _, _, _⟩ := own6.form; subst hv6)
        have hB6 : Below w1.heap.size w1 w6 := below_appM (hB1.alloc hs1 _) ownA gr6 hbase5 (Nat.le_refl _)
        have own6b : OwnM w6 w1.heap.size 5 1 (.slice A6 (n1 + 1) c6) (n1 + 1) ((la ++ [10]).map bv) := own_cat (m := [10]) own6
        clear own6 gr6 at6 ownA hrv hone
        go_loopw [9, 113] (fun v i wr => ∃ (j k : Nat) (L : List UInt8) (A : Option Addr) (c : Nat), i = .int .i64 j ∧ j ≤ n0 ∧ v = .slice A k c ∧ k ≤ n1 + 1 + j * 580 ∧ Hid (L.length = k ∧ L = la ++ [10] ++ bld s (ps.take j)) ∧ Hid (OwnM wr w1.heap.size 5 1 (.slice A k c) k (L.map bv)) ∧ Below w1.heap.size w1 wr) (fun _ i _ => n0 - (intOf i).toNat)
        case atStart => exact ⟨0, n1 + 1, la ++ [10], A6, c6, rfl, by omega, rfl, by omega, Lib.hid ⟨by simp [H1.out], by simp [bld]⟩, Lib.hid own6b, hB6⟩
        case round =>
          clear own6b hB6
          obtain ⟨j, k, L, A, c, rfl, hj2, rfl, hk, HL, HO3, hB⟩ := hrel
          have hO := HO3.out
          have hs := hB.size
          by_cases hlt2 : j < n0
          · obtain ⟨b, o, B, d, p, rfl, hp, cl0, hpc, hpm, hRp⟩ := hR1.one (k := j) (by rw [H0.out]; exact hlt2)
            have cl := (hB.cell (p := ⟨b, o + j, none⟩) (cell_lt cl0)).trans cl0
            have hp500 : p.length ≤ 500 := (HO.out (j + 1) (by have := HN.out; omega) p (by simpa using hp.out)).2
            obtain ⟨lp, hlp⟩ : ∃ lp, p.length = lp := ⟨_, rfl⟩
            have HLP := Lib.hid hlp
            rw [hlp] at cl hp500
            clear hlp cl0
            have hsrc1 : Src Tryz.prog 1 9 (.string (bs S1)) N1 (S1.map bv) wr := by
              have h := Src_str (P := Tryz.prog) (w := wr) Tryz.underlying9 S1
              rw [HS.out.2.1] at h
              exact h
            have hbd1 : (k + N1) * 1 ≤ 140737488355328 := by omega
            have hbd2 : (k + N1 + lp) * 1 ≤ 140737488355328 := by omega
            have hbd3 : (k + N1 + lp + 2) * 1 ≤ 140737488355328 := by omega
            have hnl2 : [bv 13, bv 10].length = 2 * 1 := rfl
            have hone2 : ∀ u ∈ [bv 13, bv 10], u.oneCell' = true := by simp [Value.oneCell', bv]
            go_wp2_with (first | (at_builtin; refine wpList_appM rfl _ _ _ _ rfl TU8 hO rfl hsrc1 rfl hbd1 hs ?_; intro v7 w7 own7 gr7 at7; obtain ⟨A7, c7, hv7, _, _, _, _, _, _⟩ := own7.form; subst hv7; have hB7 : Below w1.heap.size w1 w7 := below_appM hB hO gr7 hs (Nat.le_refl _); have hs7 := hB7.size; have hRp7 : Rb w7 B p := hRp.below hB7; have own7b := own_cat own7) | (at_builtin; refine wpList_appM rfl _ _ _ _ rfl TU8 own7b rfl (Src_rb Tryz.underlying22 HLP.out hRp7) rfl hbd2 hs7 ?_; intro v8 w8 own8 gr8 at8; obtain ⟨A8, c8, hv8, _, _, _, _, _, _⟩ := own8.form; subst hv8; have hB8 : Below w1.heap.size w1 w8 := below_appM hB7 own7b gr8 hs7 (Nat.le_refl _); have hs8 := hB8.size; have own9 : OwnM (w8.alloc (.cells #[.int .u8 13, .int .u8 10] 5)) w1.heap.size 5 1 (.slice A8 (k + N1 + lp) c8) (k + N1 + lp) ((L ++ S1 ++ p).map bv) := (own_cat own8).alloc _; have hrv9 : Rv (w8.alloc (.cells #[.int .u8 13, .int .u8 10] 5)) (some ⟨w8.heap.size, 0, none⟩) [bv 13, bv 10] := Rv_new w8 _ _ _ rfl; have hB9 := hB8.alloc hs8 (.cells #[.int .u8 13, .int .u8 10] 5); have hs9 := hB9.size) | (at_builtin; refine wpList_appM rfl _ _ _ _ rfl TU8 own9 rfl (Src_rv Tryz.underlying22 hnl2 hrv9 hone2 Nat.one_pos) rfl hbd3 hs9 ?_; intro v10 w10 own10 gr10 at10; obtain ⟨A10, c10, hv10, _, _, _, _, _, _⟩ := own10.form; subst hv10))
            go_roundw
            case rel => exact ⟨j + 1, k + N1 + lp + 2, L ++ S1 ++ p ++ [13, 10], A10, c10, by go_num, by omega, rfl, by omega, Lib.hid ⟨by simp only [List.length_append, HL.out.1, HS.out.2.1, HLP.out, List.length_cons, List.length_nil], by rw [take_succ_of hp.out, bld_snoc, HL.out.2, HS.out.1.1]; simp only [List.append_assoc]⟩, Lib.hid (own_cat (m := [13, 10]) own10), below_appM hB9 own9 gr10 hs9 (Nat.le_refl _)⟩
            case measure => simp [intOf]; omega
          · obtain rfl : n0 = j := by omega
            have HW : Hid (L ++ S2 ++ lb = whole la s ps lb) := Lib.hid (by
              rw [HL.out.2, List.take_of_length_le (by rw [H0.out]; exact Nat.le_refl _), ← HS.out.1.2]
              unfold whole
              simp only [List.append_assoc])
            have hsrc2 : Src Tryz.prog 1 9 (.string (bs S2)) N2 (S2.map bv) wr := by
              have h := Src_str (P := Tryz.prog) (w := wr) Tryz.underlying9 S2
              rw [HS.out.2.2] at h
              exact h
            have hbd1 : (k + N2) * 1 ≤ 140737488355328 := by omega
            have hbd2 : (k + N2 + n2) * 1 ≤ 140737488355328 := by omega
            have hA2w := hA2.below hb1
            have HLl := Lib.hid HL.out.1
            clear HL
            go_wp2_with (first | (at_builtin; refine wpList_appM rfl _ _ _ _ rfl TU8 hO rfl hsrc2 rfl hbd1 hs ?_; intro v7 w7 own7 gr7 at7; obtain ⟨A7, c7, hv7, _, _, _, _, _, _⟩ := own7.form; subst hv7; have hB7 : Below w1.heap.size w1 w7 := below_appM hB hO gr7 hs (Nat.le_refl _); have hs7 := hB7.size; have hRp7 : Rb w7 A2 lb := hA2w.below hB7; have own7b := own_cat own7) | (at_builtin; refine wpList_appM rfl _ _ _ _ rfl TU8 own7b rfl (Src_rb Tryz.underlying22 H2.out hRp7) rfl hbd2 hs7 ?_; intro v8 w8 own8 gr8 at8; obtain ⟨A8, c8, hv8, hc8, hm8, _, _, hn8, hp8⟩ := own8.form; subst hv8))
            have hB8 : Below w1.heap.size w1 w8 := below_appM hB7 own7b gr8 hs7 (Nat.le_refl _)
            have own8b := own_cat own8
            obtain ⟨_, _, e8, _, _, hR8, _, _, _⟩ := own8b.form
            cases e8
            have hPl : Pl A8 c8 := by
              rcases hp8 with h | ⟨g, h⟩
              · exact .inl ⟨h, hn8 h⟩
              · exact .inr ⟨g, 0, h⟩
            have hspl := split_any A8 (L ++ S2 ++ lb) s (k + N2 + n2) c8 w8 (by rw [List.length_append, List.length_append, HLl.out, HS.out.2.2, H2.out]) hR8 hPl hc8 hm8 (by omega) (by omega)
            rw [HW.out] at hspl
            unfold RSpl at hspl
            rw [split_whole HOK.out (fun e => g0 (by rw [← H0.out, e]; rfl)) (HO.out 0 (by have := HN.out; omega) la rfl).1 (fun p hp => by
              obtain ⟨i, hi⟩ := List.mem_iff_getElem?.1 hp
              have hil := lt_of_get hi
              rw [H0.out] at hil
              exact (HO.out (i + 1) (by have := HN.out; omega) p (by simpa using hi)).1)] at hspl
            simp only [H0.out] at hspl
            clear own8 own8b gr8 at8 hR8 hPl own7 own7b gr7 at7 hRp7 hsrc2 hO HO3
            refine hspl.mono ?_
            rintro e w9 ⟨A9, c9, rfl, hc9, hr9, hb9⟩
            have hB9 := hB8.trans (hb9.mono hB8.size)
            have hR9 := hR1.below hB9
            clear hspl hR1 hRI hA1 hA2 hA1w hA2w hR
            go_wp2_with fail
            go_loopw [152] (fun i wr => ∃ j : Nat, i = .int .i64 j ∧ j ≤ n0 ∧ Dn w9 wr) (fun i _ => n0 - (intOf i).toNat)
            case atStart => exact ⟨0, rfl, by omega, Dn.refl _⟩
            case round =>
              obtain ⟨j, rfl, hj3, hD⟩ := hrel
              by_cases hlt3 : j < n0
              · have hBr := hD.below w9.heap.size
                obtain ⟨b1, o1, B1, d1, l, rfl, hl, cl1, hld1, hdm1, _, _, hR1⟩ := (hr9.below hBr).one (k := j) (by rw [H0.out]; exact hlt3)
                obtain ⟨b2, o2, B2, d2, l2, rfl, hl2, cl2, hld2, hdm2, hR2⟩ := (hR9.below hBr).one (k := j) (by rw [H0.out]; exact hlt3)
                obtain rfl : l2 = l := Option.some.inj (hl2.out.symm.trans hl.out)
                have hlm : l2.length ≤ 9223372036854775807 := by unfold maxLen at hdm1; omega
                have hsame : ∀ n, Calls Tryz.prog 12 #[.slice B1 l2.length d1, .slice B2 l2.length d2] (wr.drewN n) fun e w' => e = .returned (.bool true) ∧ ∃ m, w' = (wr.drewN n).drewN m := fun n =>
                  (same_any B1 B2 l2 l2 l2.length l2.length d1 d2 _ rfl rfl (hR1.drewN n) (hR2.drewN n) hlm).mono fun e w' h => ⟨by rw [h.1]; simp, h.2⟩
                clear hl hl2
                go_wp2_with fail
                go_quiet ((go_at_call 12; exact Calls.quiet_of (hsame _)))
                rename_i nq
                go_wp2_with fail
                go_roundw
                case rel => exact ⟨j + 1, by go_num, by omega, hD.drewN nq⟩
                case measure => simp [intOf]; omega
              · obtain rfl : n0 = j := by omega
                go_wp2_with fail
                go_ret
                exact ⟨rfl, hb1.trans ((hB9.mono hb1.size).trans (hD.below _))⟩
end Go.Proofs.YtfdkcgdanhlfkaaGreatDoor
