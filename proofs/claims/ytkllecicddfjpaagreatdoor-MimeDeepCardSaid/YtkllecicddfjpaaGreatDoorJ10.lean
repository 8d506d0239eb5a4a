/- A value without its comments: the program's Bare. -/
import Derived.Test.YtkllecicddfjpaaGreatDoorJ09
import Derived.Test.YtkllecicddfjpaaGreatDoorHand
import Derived.WalkMore
import Derived.ScopeJumps
namespace Go.Proofs.YtkllecicddfjpaaGreatDoor
namespace Tk
set_option linter.unusedVariables false
set_option linter.unusedSimpArgs false
open Go.RowKit

/-- what Bare hands back -/
def BareOut (r : Except Nat (List UInt8)) (e : Ending) : Prop := match r with
  | .ok o => e = .returned (.tuple #[.string (bs o), .int .i64 0])
  | .error k => e = .returned (.tuple #[.string (bs []), .int .i64 k])
theorem bareOut_ok {r : Except Nat (List UInt8)} {o : List UInt8} {e : Ending} (h : r = .ok o) (he : e = .returned (.tuple #[.string (bs o), .int .i64 0])) : BareOut r e := by rw [h]; exact he
theorem bareOut_err {r : Except Nat (List UInt8)} {k : Nat} {e : Ending} (h : r = .error k) (he : e = .returned (.tuple #[.string (bs []), .int .i64 k])) : BareOut r e := by rw [h]; exact he

/-- what is told so far, ahead of what the rest comes to -/
def bareFrom (l o : List UInt8) (q : Nat) : Except Nat (List UInt8) := (bareP (l.drop q)).map fun p => o ++ p
theorem bareFrom_0 (l : List UInt8) : bareP l = bareFrom l [] 0 := by
  unfold bareFrom
  rw [List.drop_zero]
  cases bareP l <;> simp [Except.map]
theorem bareFrom_out {l o : List UInt8} {q : Nat} (h : l.length ≤ q) : bareFrom l o q = .ok o := by
  unfold bareFrom
  rw [List.drop_of_length_le h]
  simp [bareP, bareN, Except.map]
theorem map_map' (r : Except Nat (List UInt8)) (a b : List UInt8) : (r.map fun p => b ++ p).map (fun p => a ++ p) = r.map fun p => (a ++ b) ++ p := by cases r <;> simp [Except.map]
theorem bareFrom_err {l o : List UInt8} {q : Nat} {c : UInt8} {k : Nat} (h : l[q]? = some c) (hc : c = 40) (hk : comAt (l.drop q) 0 0 = .error k) : bareFrom l o q = .error k := by
  unfold bareFrom
  rw [drop_at h, bareP_cons, if_pos hc]
  unfold comAt at hk
  rw [List.drop_zero, drop_at h, cmtGo.eq_def] at hk
  simp only at hk
  rw [if_neg (by rw [hc]; decide), if_pos hc, if_neg (by decide)] at hk
  cases hg : cmtGo 1 (l.drop (q + 1)) with
  | ok t => rw [hg] at hk; cases hk
  | error e => rw [hg] at hk; cases hk; rfl
theorem bareFrom_com {l o : List UInt8} {q : Nat} {c : UInt8} {n : Nat} (h : l[q]? = some c) (hc : c = 40) (hk : comAt (l.drop q) 0 0 = .ok n) : bareFrom l o q = bareFrom l (o ++ [32]) (q + n) ∧ 2 ≤ n ∧ q + n ≤ l.length := by
  have hq := lt_of_get h
  unfold bareFrom
  rw [drop_at h, bareP_cons, if_pos hc]
  unfold comAt at hk
  rw [List.drop_zero, List.length_drop, drop_at h, cmtGo.eq_def] at hk
  simp only at hk
  rw [if_neg (by rw [hc]; decide), if_pos hc, if_neg (by decide)] at hk
  cases hg : cmtGo 1 (l.drop (q + 1)) with
  | error e => rw [hg] at hk; cases hk
  | ok t =>
    rw [hg] at hk
    simp only at hk
    have hlen := cmtGo_len _ _ _ _ (Nat.le_refl _) hg
    obtain ⟨u, hu⟩ := cmtGo_suf _ _ _ _ (Nat.le_refl _) hg
    rw [List.length_drop] at hlen
    have hn : l.length - q - t.length = n := by injection hk
    have ht : l.drop (q + n) = t := by
      have e1 : l.drop (q + n) = (l.drop (q + 1)).drop (n - 1) := by rw [List.drop_drop]; congr 1; omega
      have e2 : u.length + t.length = l.length - (q + 1) := by
        have := congrArg List.length hu
        rw [List.length_drop, List.length_append] at this
        omega
      rw [e1, hu, List.drop_left' (by omega)]
    refine ⟨?_, by omega, by omega⟩
    simp only
    rw [ht]
    exact map_map' (bareP t) o [32]
theorem bareFrom_quoNo {l o : List UInt8} {q : Nat} {c : UInt8} (h : l[q]? = some c) (hc : c = 34) (hk : quoAt (l.drop q) 1 = none) : bareFrom l o q = .error 3 := by
  unfold bareFrom
  rw [drop_at h, bareP_cons, if_neg (by rw [hc]; decide), if_pos hc]
  unfold quoAt at hk
  rw [drop_at h] at hk
  simp only [List.drop_succ_cons, List.drop_zero, Option.map_eq_none_iff] at hk
  rw [hk]
  rfl
theorem bareFrom_quo {l o : List UInt8} {q : Nat} {c : UInt8} {n : Nat} (h : l[q]? = some c) (hc : c = 34) (hk : quoAt (l.drop q) 1 = some n) : bareFrom l o q = bareFrom l (o ++ (l.drop q).take n) (q + n) ∧ 2 ≤ n ∧ q + n ≤ l.length := by
  have hq := lt_of_get h
  unfold bareFrom
  unfold quoAt at hk
  rw [drop_at h] at hk ⊢
  simp only [List.drop_succ_cons, List.drop_zero, Option.map_eq_some_iff] at hk
  obtain ⟨⟨a, t⟩, hg, hn⟩ := hk
  simp only at hn
  obtain ⟨hu, ha⟩ := qGo_len _ _ _ _ (Nat.le_refl _) hg
  have e2 : a.length + t.length = l.length - (q + 1) := by
    have := congrArg List.length hu
    rw [List.length_drop, List.length_append] at this
    omega
  have ht : l.drop (q + n) = t := by
    have e1 : l.drop (q + n) = (l.drop (q + 1)).drop (n - 1) := by rw [List.drop_drop]; congr 1; omega
    rw [e1, hu, List.drop_left' (by omega)]
  refine ⟨?_, by omega, by omega⟩
  rw [bareP_cons, if_neg (by rw [hc]; decide), if_pos hc, hg]
  simp only
  rw [ht, ← hn, Nat.add_comm 1, List.take_succ_cons, hu, List.take_left' rfl, hc]
  exact map_map' (bareP t) o (34 :: a)
theorem bareFrom_close {l o : List UInt8} {q : Nat} {c : UInt8} (h : l[q]? = some c) (hc : c = 41) : bareFrom l o q = .error 3 := by
  unfold bareFrom
  rw [drop_at h, bareP_cons, if_neg (by rw [hc]; decide), if_neg (by rw [hc]; decide), if_pos hc]
  rfl
theorem bareFrom_more {l o : List UInt8} {q : Nat} {c : UInt8} (h : l[q]? = some c) (h1 : c ≠ 40) (h2 : c ≠ 34) (h3 : c ≠ 41) : bareFrom l o q = bareFrom l (o ++ [c]) (q + 1) := by
  unfold bareFrom
  rw [drop_at h, bareP_cons, if_neg h1, if_neg h2, if_neg h3]
  exact map_map' (bareP (l.drop (q + 1))) o [c]
theorem byteCells_add (o : List UInt8) (c : UInt8) : Lib.byteCells o ++ [.int .u8 (c.toNat : Int)] = Lib.byteCells (o ++ [c]) := by simp [Lib.byteCells]
theorem byteCells_str (o m : List UInt8) : Lib.byteCells o ++ Lib.strCells (bs m) = Lib.byteCells (o ++ m) := by simp [Lib.byteCells, Lib.strCells, bs]

theorem cmtGo_err : ∀ (n : Nat) (l : List UInt8) (d k : Nat), l.length ≤ n → cmtGo d l = .error k → k = 3 ∨ k = 5
  | _, [], _, _, _, h => by
    simp only [cmtGo] at h
    cases h
    exact .inl rfl
  | 0, c :: l, _, _, hl, _ => by simp at hl
  | n + 1, c :: l, d, k, hl, h => by
    simp only [List.length_cons] at hl
    rw [cmtGo.eq_def] at h
    simp only at h
    split at h
    · split at h
      · cases h
        exact .inl rfl
      · exact cmtGo_err n _ d k (by simp at hl; omega) h
    · split at h
      · split at h
        · cases h
          exact .inr rfl
        · exact cmtGo_err n _ _ k (by omega) h
      · split at h
        · split at h
          · cases h
          · exact cmtGo_err n _ _ k (by omega) h
        · exact cmtGo_err n _ _ k (by omega) h
theorem comAt_err {l : List UInt8} {d q k : Nat} (h : comAt l d q = .error k) : k = 3 ∨ k = 5 := by
  unfold comAt at h
  cases hg : cmtGo d (l.drop q) with
  | ok t => rw [hg] at h; cases h
  | error e =>
    rw [hg] at h
    cases h
    exact cmtGo_err _ _ _ _ (Nat.le_refl _) hg
theorem bareP_err : ∀ (n : Nat) (l : List UInt8) (k : Nat), l.length ≤ n → bareP l = .error k → k = 3 ∨ k = 5
  | _, [], _, _, h => by simp [bareP, bareN] at h
  | 0, c :: l, _, hl, _ => by simp at hl
  | n + 1, c :: r, k, hl, h => by
    simp only [List.length_cons] at hl
    have key : ∀ (t : List UInt8) (f : List UInt8 → List UInt8), t.length ≤ n → (bareP t).map f = .error k → k = 3 ∨ k = 5 := fun t f ht hm => by
      cases hb : bareP t with
      | ok p => rw [hb] at hm; cases hm
      | error e =>
        rw [hb] at hm
        cases hm
        exact bareP_err n t k ht hb
    rw [bareP_cons] at h
    split at h
    · cases hg : cmtGo 1 r with
      | error e =>
        rw [hg] at h
        cases h
        exact cmtGo_err _ _ _ _ (Nat.le_refl _) hg
      | ok t =>
        rw [hg] at h
        have := cmtGo_len _ _ _ _ (Nat.le_refl _) hg
        exact key t _ (by omega) h
    · split at h
      · cases hg : qGo r with
        | none =>
          rw [hg] at h
          cases h
          exact .inl rfl
        | some p =>
          obtain ⟨a, t⟩ := p
          rw [hg] at h
          have := (qGo_len _ _ _ _ (Nat.le_refl _) hg).1
          have hl2 : t.length ≤ r.length := by rw [this]; simp
          exact key t _ (by omega) h
      · split at h
        · cases h
          exact .inl rfl
        · exact key r _ (by omega) h
theorem comOut_elim {r : Except Nat Nat} {e : Ending} (h : ComOut r e) : (∃ n, r = .ok n ∧ e = .returned (.tuple #[.int .i64 (n : Int), .int .i64 0])) ∨ ∃ k, r = .error k ∧ e = .returned (.tuple #[.int .i64 0, .int .i64 (k : Int)]) := by
  cases r with
  | ok n => exact .inl ⟨n, rfl, h⟩
  | error k => exact .inr ⟨k, rfl, h⟩
theorem quoOut_elim {r : Option Nat} {e : Ending} (h : QuoOut r e) : (∃ n, r = some n ∧ e = .returned (.tuple #[.int .i64 (n : Int), .bool true])) ∨ (r = none ∧ e = .returned (.tuple #[.int .i64 0, .bool false])) := by
  cases r with
  | some n => exact .inl ⟨n, rfl, h⟩
  | none => exact .inr ⟨rfl, h⟩

theorem wp_scope_jumps_one {P : Program} {a : Act} {w : World} {Q : Exit → Act → World → Prop} {c rest : Code} (k : Nat) (J : Act → World → Prop) (μ : Act → World → Nat) (hf : findLabel c k = some (Code.skip.seq rest))
    (pass : ∀ a w, J a w → rest.wp P (Exit.jump k (fun a' w' => J a' w' ∧ μ a' w' < μ a w) Q) a w)
    (first : (∀ a w, J a w → rest.wp P (Exit.jump k J Q) a w) → c.wp P (Exit.jump k J Q) a w) : (Code.scope c).wp P Q a w :=
  wp_scope_jumps k J μ hf (first fun a w h => Code.wp_mono (fun e a w hq => by cases e <;> first | exact hq | exact ⟨hq.1, hq.2.1⟩) (pass a w h)) fun a w h => wp_seq (wp_skip (pass a w h))

set_option maxRecDepth 100000 in
set_option maxHeartbeats 4000000 in
theorem bare_any (l : List UInt8) (w : World) (hl : l.length ≤ 1000000000) :
    Calls Tryz.prog 130 #[.string (bs l)] w fun e w' => BareOut (bareP l) e ∧ Below w.heap.size w w' := by
  obtain ⟨B, hBB⟩ : ∃ B, w.heap.size = B := ⟨_, rfl⟩
  have hfresh := Lib.fresh_isBuilder 216 5 w
  have hal : Below w.heap.size w (w.alloc (.cells #[.pointer none, .slice none 0 0] 216)) := (Below.refl _ _).alloc (Nat.le_refl _) _
  rw [hBB] at hfresh hal ⊢
  go_enter Tryz.func130, Tryz.ntmps130
  go_wp2_with fail
  refine wp_scope_jumps_one 0 (fun a' wr => ∃ (q : Nat) (o : List UInt8) (i5 u2 u3 u6 u7 u8 u9 u10 u11 u12 u13 u14 u15 u16 u17 u18 u19 u20 u21 u22 u23 u24 u25 u26 u27 u28 u29 u30 u31 u32 u33 u34 u35 u36 u37 u38 u39 u40 u41 u42 u43 u44 u45 u46 u47 u48 u49 u50 u51 u52 u53 u54 u55 u56 u57 u58 u59 u60 u61 u62 : Value), a' = { tmps := #[.string (bs l), undef, u2, u3, .pointer (some ⟨B, 0, none⟩), i5, u6, u7, u8, u9, u10, u11, u12, u13, u14, u15, u16, u17, u18, u19, u20, u21, u22, u23, u24, u25, u26, u27, u28, u29, u30, u31, u32, u33, u34, u35, u36, u37, u38, u39, u40, u41, u42, u43, u44, u45, u46, u47, u48, u49, u50, u51, u52, u53, u54, u55, u56, u57, u58, u59, u60, u61, u62], defers := [] } ∧
    i5 = .int .i64 q ∧ q ≤ l.length ∧ o.length ≤ q ∧ Hid (bareP l = bareFrom l o q) ∧ Hid (Lib.IsBuilder 216 5 B B (Lib.byteCells o) wr) ∧ Below B w wr) (fun a' _ => l.length - (intOf (a'.tmps.getD 5 undef)).toNat) rfl ?_ ?_
  · rintro a' w' ⟨p, o, i5, u2, u3, u6, u7, u8, u9, u10, u11, u12, u13, u14, u15, u16, u17, u18, u19, u20, u21, u22, u23, u24, u25, u26, u27, u28, u29, u30, u31, u32, u33, u34, u35, u36, u37, u38, u39, u40, u41, u42, u43, u44, u45, u46, u47, u48, u49, u50, u51, u52, u53, u54, u55, u56, u57, u58, u59, u60, u61, u62, rfl, rfl, hp, ho, he, hbu, hB⟩
    have HBB := Lib.hid hBB
    clear hfresh hal hBB
    go_wp2_with fail
    go_loopw [5] (fun i wr => ∃ (q : Nat) (o : List UInt8), i = .int .i64 q ∧ p ≤ q ∧ q ≤ l.length ∧ o.length ≤ q ∧ Hid (bareP l = bareFrom l o q) ∧ Hid (Lib.IsBuilder 216 5 B B (Lib.byteCells o) wr) ∧ Below B w wr) (fun i _ => l.length - (intOf i).toNat)
    case atStart => exact ⟨p, o, rfl, by omega, hp, ho, he, hbu, hB⟩
    case round =>
      clear he hbu hB ho
      obtain ⟨q, o, rfl, hpq, hq, ho, he, hbu, hB⟩ := hrel
      have hs : B ≤ wr.heap.size := by rw [← HBB.out]; exact hB.size
      have f0 : (0 : Int) ≤ (q : Int) := by omega
      have f1 : (q : Int) ≤ (l.length : Int) := by omega
      by_cases hlt : q < l.length
      · obtain ⟨c, hc⟩ : ∃ c, l[q]? = some c := ⟨_, List.getElem?_eq_getElem hlt⟩
        have hi := str_index (P := Tryz.prog) Tryz.underlying9 hc .i64
        have htk : (l.drop q).take (l.length - q) = l.drop q := List.take_of_length_le (by rw [List.length_drop]; omega)
        have t40 : ((c.toNat : Int) == 40) = (c == 40) := u8_test c 40 rfl
        have t34 : ((c.toNat : Int) == 34) = (c == 34) := u8_test c 34 rfl
        have t41 : ((c.toNat : Int) == 41) = (c == 41) := u8_test c 41 rfl
        by_cases h1 : c = 40
        · have hb : ((c.toNat : Int) == 40) = true := by rw [t40, h1]; rfl
          have hd0 : (l.drop q)[0]? = some 40 := by rw [List.getElem?_drop, Nat.add_zero, hc, h1]
          have hcall := fun W => comment_any (l.drop q) W (by rw [List.length_drop]; omega) hd0
          have kerr : ∀ k, comAt (l.drop q) 0 0 = .error k → Hid (bareP l = .error k) ∧ ((k : Int) != 0) = true := fun k hk => ⟨Lib.hid (he.out.trans (bareFrom_err hc h1 hk)), by have := comAt_err hk; rw [bne_iff_ne]; omega⟩
          have kok : ∀ n, comAt (l.drop q) 0 0 = .ok n → Hid (bareP l = bareFrom l (o ++ [32]) (q + n)) ∧ 2 ≤ n ∧ q + n ≤ l.length := fun n hk => by
            obtain ⟨e1, e2, e3⟩ := bareFrom_com (o := o) hc h1 hk
            exact ⟨Lib.hid (he.out.trans e1), e2, e3⟩
          generalize comAt (l.drop q) 0 0 = rc at *
          clear t40 t34 t41 hc h1 hd0 he
          go_wp2_with fail
          try simp only [htk]
          refine (hcall _).mono ?_
          rintro e w1 ⟨hco, rfl⟩
          rcases comOut_elim hco with ⟨n, hr, rfl⟩ | ⟨k, hr, rfl⟩
          · obtain ⟨hst, hn2, hnl⟩ := kok n hr
            clear kerr kok hr hco hcall htk
            go_wp2_with fail
            refine (Tryz.Builder_WriteByte B B (Lib.byteCells o) 32 _ hbu.out (by rw [Lib.byteCells_length]; omega) hs).mono ?_
            rintro e w2 ⟨rfl, hb2, hBw⟩
            have hbu2 := Lib.hid (show Lib.IsBuilder 216 5 B B (Lib.byteCells (o ++ [32])) w2 by rw [← byteCells_add]; exact .inr hb2)
            have hB2 := hB.trans hBw
            clear hb2 hBw hbu
            go_wp2_with fail
            go_step3
            refine ⟨rfl, ⟨q + n, o ++ [32], _, _, _, _, _, _, _, _, _, _, _, _, _, _, _, _, _, _, _, _, _, _, _, _, _, _, _, _, _, _, _, _, _, _, _, _, _, _, _, _, _, _, _, _, _, _, _, _, _, _, _, _, _, _, _, _, _, _, _, _, rfl, by go_num, hnl, by simp; omega, hst, hbu2, hB2⟩, ?_⟩
            simp [intOf]
            omega
          · obtain ⟨hst, hne⟩ := kerr k hr
            clear kerr kok hr hco hcall htk
            go_wp2_with fail
            simp only [Exit.jump]
            go_ret2
            exact ⟨bareOut_err hst.out rfl, hB⟩
        · have hb : ((c.toNat : Int) == 40) = false := by rw [t40]; simp [h1]
          by_cases h2 : c = 34
          · have hb2 : ((c.toNat : Int) == 34) = true := by rw [t34, h2]; rfl
            have hcall := fun W => quoted_any (l.drop q) W (by rw [List.length_drop]; omega)
            have kno : quoAt (l.drop q) 1 = none → Hid (bareP l = .error 3) := fun hk => Lib.hid (he.out.trans (bareFrom_quoNo hc h2 hk))
            have kok : ∀ n, quoAt (l.drop q) 1 = some n → Hid (bareP l = bareFrom l (o ++ (l.drop q).take n) (q + n)) ∧ 2 ≤ n ∧ q + n ≤ l.length := fun n hk => by
              obtain ⟨e1, e2, e3⟩ := bareFrom_quo (o := o) hc h2 hk
              exact ⟨Lib.hid (he.out.trans e1), e2, e3⟩
            generalize quoAt (l.drop q) 1 = rc at *
            clear t40 t34 t41 hc h1 h2 he
            go_wp2_with fail
            try simp only [htk]
            refine (hcall _).mono ?_
            rintro e w1 ⟨hco, rfl⟩
            rcases quoOut_elim hco with ⟨n, hr, rfl⟩ | ⟨hr, rfl⟩
            · obtain ⟨hst, hn2, hnl⟩ := kok n hr
              have f2 : (0 : Int) ≤ (q : Int) + (n : Int) := by omega
              have f3 : (q : Int) ≤ (q : Int) + (n : Int) := by omega
              have f4 : (q : Int) + (n : Int) ≤ (l.length : Int) := by omega
              have f5 : IntKind.i64.wrap ((q : Int) + (n : Int)) = (q : Int) + (n : Int) := by rw [IntKind.wrap_i64]; omega
              have htk2 : q + n - q = n := by omega
              have hlen : ((l.drop q).take n).length = n := by rw [List.length_take, List.length_drop]; omega
              have htk3 : ((q : Int) + (n : Int)).toNat = q + n := by omega
              clear kno kok hr hco hcall htk
              generalize hmm : (l.drop q).take n = mm at *
              go_wp2_with fail
              try simp only [htk3, htk2, hmm]
              refine (Tryz.Builder_WriteString B B (Lib.byteCells o) (bs mm) _ hbu.out (by rw [Lib.byteCells_length, bs_size]; omega) hs).mono ?_
              rintro e w2 ⟨rfl, hb2, hBw⟩
              have hbu2 := Lib.hid (show Lib.IsBuilder 216 5 B B (Lib.byteCells (o ++ mm)) w2 by rw [← byteCells_str]; exact .inr hb2)
              have hB2 := hB.trans hBw
              clear hb2 hBw hbu
              go_wp2_with fail
              go_step3
              refine ⟨rfl, ⟨q + n, o ++ mm, _, _, _, _, _, _, _, _, _, _, _, _, _, _, _, _, _, _, _, _, _, _, _, _, _, _, _, _, _, _, _, _, _, _, _, _, _, _, _, _, _, _, _, _, _, _, _, _, _, _, _, _, _, _, _, _, _, _, _, _, rfl, by go_num, hnl, by simp; omega, hst, hbu2, hB2⟩, ?_⟩
              simp [intOf]
              omega
            · have hst := kno hr
              clear kno kok hr hco hcall htk
              go_wp2_with fail
              simp only [Exit.jump]
              go_ret2
              exact ⟨bareOut_err hst.out rfl, hB⟩
          · have hb2 : ((c.toNat : Int) == 34) = false := by rw [t34]; simp [h2]
            by_cases h3 : c = 41
            · have hb3 : ((c.toNat : Int) == 41) = true := by rw [t41, h3]; rfl
              have hst := Lib.hid (he.out.trans (bareFrom_close hc h3))
              clear t40 t34 t41 hc h1 h2 h3 he htk
              go_wp2_with fail
              simp only [Exit.jump]
              go_ret2
              exact ⟨bareOut_err hst.out rfl, hB⟩
            · have hb3 : ((c.toNat : Int) == 41) = false := by rw [t41]; simp [h3]
              have hst := Lib.hid (he.out.trans (bareFrom_more hc h1 h2 h3))
              clear t40 t34 t41 hc h1 h2 h3 he htk
              go_wp2_with fail
              refine (Tryz.Builder_WriteByte B B (Lib.byteCells o) (c.toNat : Int) _ hbu.out (by rw [Lib.byteCells_length]; omega) hs).mono ?_
              rintro e w2 ⟨rfl, hb2, hBw⟩
              have hbu2 := Lib.hid (show Lib.IsBuilder 216 5 B B (Lib.byteCells (o ++ [c])) w2 by rw [← byteCells_add]; exact .inr hb2)
              have hB2 := hB.trans hBw
              clear hb2 hBw hbu
              go_wp2_with fail
              go_roundw
              case rel => exact ⟨q + 1, o ++ [c], by go_num, by omega, by omega, by simp; omega, hst, hbu2, hB2⟩
              case measure => simp [intOf]; omega
      · have hst := Lib.hid (he.out.trans (bareFrom_out (by omega)))
        clear he
        go_wp2_with fail
        refine (Tryz.Builder_String_any B B o _ hbu.out hs).mono ?_
        rintro e w2 ⟨rfl, hBw⟩
        go_wp2_with fail
        simp only [Exit.jump]
        go_ret2
        exact ⟨bareOut_ok hst.out rfl, hB.trans hBw⟩
  · intro h
    go_wp2_with fail
    go_step3
    rename_i ha
    refine ha _ _ (h _ _ ⟨0, [], .int .i64 0, _, _, _, _, _, _, _, _, _, _, _, _, _, _, _, _, _, _, _, _, _, _, _, _, _, _, _, _, _, _, _, _, _, _, _, _, _, _, _, _, _, _, _, _, _, _, _, _, _, _, _, _, _, _, _, _, _, _, _, rfl, rfl, by omega, by simp, Lib.hid (bareFrom_0 l), Lib.hid hfresh, hal⟩)
end Tk
end Go.Proofs.YtkllecicddfjpaaGreatDoor
