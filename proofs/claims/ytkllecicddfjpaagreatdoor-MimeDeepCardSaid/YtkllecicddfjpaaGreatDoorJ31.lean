/- Bytes without blanks, in plain words: what one step of the decoder of runes takes. Nothing of the program. · The library's bytes.FieldsFunc at armor's blanks: the pieces between blanks. · The library's bytes.FieldsFunc at armor's blanks: the walk. -/
import Derived.Test.YtkllecicddfjpaaGreatDoorJ01
import Derived.Test.YtkllecicddfjpaaGreatDoorJ02
import Derived.Test.YtkllecicddfjpaaGreatDoorShelf
import Derived.Shelf.Spec.DecodeRune
import Derived.Test.YtkllecicddfjpaaGreatDoorJ03
namespace Go.Proofs.YtkllecicddfjpaaGreatDoor
namespace Ar
set_option linter.unusedVariables false
set_option linter.unusedSimpArgs false

/-- a blank -/
def isb (n : Nat) : Bool := n == 32 || n == 9 || n == 13 || n == 10
/-- the bytes without blanks -/
def nob (l : List UInt8) : List UInt8 := l.filter fun c => !isb c.toNat
theorem nob_append (l m : List UInt8) : nob (l ++ m) = nob l ++ nob m := by simp [nob]
theorem nob_all {l : List UInt8} (h : ∀ c ∈ l, isb c.toNat = false) : nob l = l := by
  unfold nob
  rw [List.filter_eq_self]
  intro c hc
  rw [h c hc]
  rfl
theorem nob_one {c : UInt8} (h : isb c.toNat = true) : nob [c] = [] := by simp [nob, h]

theorem bs_get (l : List UInt8) (k : Nat) : (bs l).get! k = l.getD k 0 := by
  unfold bs ByteArray.get!
  simp [List.getD, Array.getElem!_eq_getD]
  rfl

/-- one step of the decoder -/
theorem dec_step (l : List UInt8) (h : 0 < l.length) (R K : Nat) (hd : Utf8.decode (bs l) 0 = (R, K)) :
    1 ≤ K ∧ K ≤ l.length ∧ R < 2147483648 ∧ (isb R = true → nob (l.take K) = []) ∧ (isb R = false → nob (l.take K) = l.take K) := by
  have hb : ∀ k, isb k = true → k < 128 := by intro k hk; simp [isb] at hk; omega
  have hnb : ∀ k, 128 ≤ k → isb k = false := by
    intro k hk
    cases e : isb k
    · rfl
    · have := hb k e; omega
  have get : ∀ k, k < l.length → l.getD k 0 = l[k]?.getD 0 := fun k _ => by simp [List.getD]
  have pre : ∀ K, K ≤ l.length → (∀ k, k < K → 128 ≤ (l.getD k 0).toNat) → nob (l.take K) = l.take K := by
    intro K hK hall
    apply nob_all
    intro c hc
    obtain ⟨k, hk, rfl⟩ := List.getElem_of_mem hc
    simp only [List.length_take] at hk
    have := hall k (by omega)
    rw [List.getElem_take]
    have e : l.getD k 0 = l[k]'(by omega) := by simp [List.getD, List.getElem?_eq_getElem (show k < l.length by omega)]
    rw [e] at this
    exact hnb _ this
  have one : l.take 1 = [l.getD 0 0] := by
    rcases l with _ | ⟨a, r⟩
    · simp at h
    · simp
  unfold Utf8.decode at hd
  simp only [Nat.zero_add, bs_get, bs_size] at hd
  generalize h0 : (l.getD 0 0).toNat = b0 at *
  have hb0 : b0 < 256 := by rw [← h0]; exact UInt8.toNat_lt _
  by_cases c1 : b0 < 128
  · rw [if_pos c1] at hd
    cases hd
    refine ⟨by omega, h, by omega, fun hi => ?_, fun hi => ?_⟩
    · rw [one]; exact nob_one (by rw [h0]; exact hi)
    · rw [one]; exact nob_all (by intro c hc; simp at hc; subst hc; simpa [List.getD] using (by rw [h0]; exact hi : isb (l.getD 0 0).toNat = false))
  · rw [if_neg c1] at hd
    have err : (R, K) = (Utf8.runeError, 1) → 1 ≤ K ∧ K ≤ l.length ∧ R < 2147483648 ∧ (isb R = true → nob (l.take K) = []) ∧ (isb R = false → nob (l.take K) = l.take K) := by
      intro e
      cases e
      refine ⟨by omega, h, by decide, fun hi => absurd hi (by decide), fun _ => ?_⟩
      exact pre 1 h (fun k hk => by obtain rfl : k = 0 := (by omega); rw [h0]; omega)
    have good : ∀ c q, (R, K) = (c, q) → 1 ≤ q → q ≤ l.length → 128 ≤ c → c < 2147483648 → (∀ k, k < q → 128 ≤ (l.getD k 0).toNat) → 1 ≤ K ∧ K ≤ l.length ∧ R < 2147483648 ∧ (isb R = true → nob (l.take K) = []) ∧ (isb R = false → nob (l.take K) = l.take K) := by
      intro c q e q1 q2 hc hc2 hall
      cases e
      exact ⟨q1, q2, hc2, fun hi => (by rw [hnb _ hc] at hi; cases hi), fun _ => pre _ q2 hall⟩
    split at hd
    · rename_i g
      simp only [Bool.and_eq_true, beq_iff_eq, decide_eq_true_eq] at g
      split at hd
      · rename_i g2
        refine good _ _ hd.symm (by omega) (by omega) g2 (by omega) (fun k hk => ?_)
        rcases (by omega : k = 0 ∨ k = 1) with rfl | rfl <;> omega
      · exact err hd.symm
    · split at hd
      · rename_i g
        simp only [Bool.and_eq_true, beq_iff_eq, decide_eq_true_eq] at g
        split at hd
        · rename_i g2
          simp only [Bool.and_eq_true, decide_eq_true_eq] at g2
          refine good _ _ hd.symm (by omega) (by omega) (by omega) (by omega) (fun k hk => ?_)
          rcases (by omega : k = 0 ∨ k = 1 ∨ k = 2) with rfl | rfl | rfl <;> omega
        · exact err hd.symm
      · split at hd
        · rename_i g
          simp only [Bool.and_eq_true, beq_iff_eq, decide_eq_true_eq] at g
          split at hd
          · rename_i g2
            simp only [Bool.and_eq_true, decide_eq_true_eq] at g2
            refine good _ _ hd.symm (by omega) (by omega) (by omega) (by omega) (fun k hk => ?_)
            rcases (by omega : k = 0 ∨ k = 1 ∨ k = 2 ∨ k = 3) with rfl | rfl | rfl | rfl <;> omega
          · exact err hd.symm
        · exact err hd.symm
end Ar
end Go.Proofs.YtkllecicddfjpaaGreatDoor

namespace Go.Proofs.YtkllecicddfjpaaGreatDoor
namespace Ar
set_option linter.unusedVariables false
set_option linter.unusedSimpArgs false
open Go.RowKit

theorem rune_any (b o c : Nat) (l : List UInt8) (n : Nat) (w : World) (hT : Lib.Utf8Tabs 2 3 w) (hn : l.length = n) (h0 : 0 < n) (hr : Rb w (some ⟨b, o, none⟩) l) :
    Calls Tryz.prog 163 #[.slice (some ⟨b, o, none⟩) n c] w fun e w' => (∃ R K : Nat, e = .returned (.tuple #[.int .i32 R, .int .i64 K]) ∧
      1 ≤ K ∧ K ≤ n ∧ R < 2147483648 ∧ (isb R = true → nob (l.take K) = []) ∧ (isb R = false → nob (l.take K) = l.take K)) ∧ Below w.heap.size w w' := by
  subst hn
  have h := Any7.utf8_DecodeRune Tryz.lays7n32 (bs l) b o c w hT (fun j hj => by
    rw [bs_size] at hj
    obtain ⟨b', o', x, e, hx, hc⟩ := hr.one hj
    cases e
    rw [hc, bs_get]
    simp [List.getD, hx.out])
  rw [bs_size] at h
  refine h.mono ?_
  rintro e w' ⟨rfl, hb⟩
  have hd : Lib.decodeGo (bs l) = Utf8.decode (bs l) 0 := by unfold Lib.decodeGo; rw [if_neg (by rw [bs_size]; omega)]
  rw [hd]
  generalize hq : Utf8.decode (bs l) 0 = q
  obtain ⟨R, K⟩ := q
  obtain ⟨s1, s2, s3, s4, s5⟩ := dec_step l h0 R K hq
  exact ⟨⟨R, K, rfl, s1, s2, s3, s4, s5⟩, hb⟩

set_option maxHeartbeats 400000 in
theorem blank_any (R : Nat) (w : World) (hR : R < 2147483648) :
    Calls Tryz.prog 93 #[.int .i32 R] w fun e w' => e = .returned (.bool (isb R)) ∧ w = w' := by
  have h1 : ((R : Int) == 32) = (R == 32) := by rw [Bool.eq_iff_iff]; simp; omega
  have h2 : ((R : Int) == 9) = (R == 9) := by rw [Bool.eq_iff_iff]; simp; omega
  have h3 : ((R : Int) == 13) = (R == 13) := by rw [Bool.eq_iff_iff]; simp; omega
  have h4 : ((R : Int) == 10) = (R == 10) := by rw [Bool.eq_iff_iff]; simp; omega
  have e : isb R = (((R : Int) == 32) || ((R : Int) == 9) || ((R : Int) == 13) || ((R : Int) == 10)) := by rw [h1, h2, h3, h4]; rfl
  rw [e]
  clear e h1 h2 h3 h4
  rcases Bool.eq_false_or_eq_true ((R : Int) == 32) with h | h
  · go_enter Tryz.func93, Tryz.ntmps93
    go_wp2
    all_goals (go_ret; exact ⟨ret_bool (by rw [h]; rfl), rfl⟩)
  rcases Bool.eq_false_or_eq_true ((R : Int) == 9) with h' | h'
  · go_enter Tryz.func93, Tryz.ntmps93
    go_wp2
    all_goals (go_ret; exact ⟨ret_bool (by rw [h, h']; rfl), rfl⟩)
  rcases Bool.eq_false_or_eq_true ((R : Int) == 13) with h2 | h2
  · go_enter Tryz.func93, Tryz.ntmps93
    go_wp2
    all_goals (go_ret; exact ⟨ret_bool (by rw [h, h', h2]; rfl), rfl⟩)
  · go_enter Tryz.func93, Tryz.ntmps93
    go_wp2
    all_goals (go_ret; exact ⟨ret_bool (by rw [h, h', h2]; rfl), rfl⟩)

end Ar
end Go.Proofs.YtkllecicddfjpaaGreatDoor

namespace Go.Proofs.YtkllecicddfjpaaGreatDoor
namespace Ar
set_option linter.unusedVariables false
set_option linter.unusedSimpArgs false
open Go.RowKit

/-- the cells of spans -/
def spc (sp : List (Nat × Nat)) : List Value := sp.flatMap fun p => [.int .i64 (p.1 : Int), .int .i64 (p.2 : Int)]
theorem spc_length (sp : List (Nat × Nat)) : (spc sp).length = sp.length * 2 := by
  induction sp with
  | nil => rfl
  | cons p sp ih => simp only [spc, List.flatMap_cons, List.length_append, List.length_cons, List.length_nil] at ih ⊢; omega
/-- the bytes of a span -/
def pcs (l : List UInt8) (p : Nat × Nat) : List UInt8 := (l.drop p.1).take (p.2 - p.1)
/-- what is open: a span that begins at st -/
def opn (l : List UInt8) (st : Int) (q : Nat) : List UInt8 := if st < 0 then [] else (l.drop st.toNat).take (q - st.toNat)
theorem take_mid (l : List UInt8) (a q K : Nat) (h : a ≤ q) : (l.drop a).take (q + K - a) = (l.drop a).take (q - a) ++ (l.drop q).take K := by
  have e : q + K - a = (q - a) + K := by omega
  rw [e, List.take_add, List.drop_drop]
  congr 3
  omega

theorem TSp : ElT Tryz.prog 184 188 2 16 := ElT.mk' (z := .agg #[.int .i64 0, .int .i64 0]) Tryz.underlying184 (by omega) (by omega) rfl (by kernel_rfl)

/-- the slice value of a span -/
def pcv (A : Option Addr) (p : Nat × Nat) : Value := match A with
  | some ⟨b, o, _⟩ => .slice (some ⟨b, o + p.1, none⟩) (p.2 - p.1 : Nat) (p.2 - p.1 : Nat)
  | none => .slice none 0 0
theorem spc_at {sp : List (Nat × Nat)} {k : Nat} {p : Nat × Nat} (h : sp[k]? = some p) : (spc sp)[k * 2]? = some (.int .i64 (p.1 : Int)) ∧ (spc sp)[k * 2 + 1]? = some (.int .i64 (p.2 : Int)) := by
  induction sp generalizing k with
  | nil => simp at h
  | cons a sp ih =>
    have e : spc (a :: sp) = [.int .i64 (a.1 : Int), .int .i64 (a.2 : Int)] ++ spc sp := rfl
    rcases k with _ | k
    · simp at h
      subst h
      simp [e]
    · simp at h
      have := ih h
      have e2 : (k + 1) * 2 = k * 2 + 1 + 1 := by omega
      rw [e2]
      simpa [e] using this
theorem parts_of {w : World} {g e : Nat} {A : Option Addr} {l : List UInt8} {n : Nat} {sp : List (Nat × Nat)} (hn : l.length = n) (hr : Row w g e (sp.map (pcv A))) (hA : Rb w A l) (ha : ∀ p ∈ sp, p.1 < p.2 ∧ p.2 ≤ n) :
    Lib.PartsAt w ⟨g, 0, none⟩ (sp.map (pcv A)) (sp.map (pcs l)) := by
  have pl : ∀ (b o j : Nat), (⟨b, o, none⟩ : Addr).add j = ⟨b, o + j, none⟩ := fun b o j => by unfold Addr.add; split <;> simp_all
  refine ⟨by simp, fun i v hv => ?_, fun i v x hv hx => ?_⟩
  · rw [pl, Nat.zero_add]
    exact hr.cell hv
  · simp only [List.getElem?_map, Option.map_eq_some_iff] at hv hx
    obtain ⟨p, hp, rfl⟩ := hv
    obtain ⟨p', hp', rfl⟩ := hx
    obtain rfl : p = p' := by rw [hp] at hp'; exact Option.some.inj hp'
    have hpm := ha p (List.mem_of_getElem? hp)
    obtain ⟨b, o, e, hc⟩ := hA (by simp; omega)
    subst e
    have hlen : (pcs l p).length = p.2 - p.1 := by simp [pcs]; omega
    refine ⟨some ⟨b, o + p.1, none⟩, p.2 - p.1, by rw [hlen]; rfl, by simp, ?_⟩
    rintro a' ea j x hj
    cases ea
    rw [pl, Nat.add_assoc]
    refine hc (p.1 + j) (bv x) ?_
    rw [pcs, List.getElem?_take] at hj
    split at hj
    · rw [List.getElem?_drop] at hj
      rw [List.getElem?_map, hj]
      rfl
    · simp at hj
theorem TSB : ElT Tryz.prog 66 22 1 24 := ElT.mk' (z := .slice none 0 0) Tryz.underlying66 (by omega) (by omega) rfl (by kernel_rfl)

set_option maxRecDepth 100000 in
set_option maxHeartbeats 2000000 in
theorem fields_any (A : Option Addr) (l : List UInt8) (n c : Nat) (w : World) (hT : Lib.Utf8Tabs 2 3 w) (hn : l.length = n) (hA : Rb w A l) (hnc : n ≤ c) (hb : n ≤ 1000000000) :
    Calls Tryz.prog 92 #[.slice A n c, .func (.func 93) #[] #[]] w fun e w' => (∃ g vs ls c', e = .returned (.slice (some ⟨g, 0, none⟩) ls.length c') ∧ ls.length ≤ c' ∧ ls.length ≤ n + 1 ∧ Lib.PartsAt w' ⟨g, 0, none⟩ vs ls ∧ ls.flatten = nob l) ∧ Below w.heap.size w w' := by
  have HN := Lib.hid hn
  clear hn
  obtain ⟨X, hX, hmk⟩ := make0 (P := Tryz.prog) (t := 184) (e := 188) TSp.und (TSp.ex.choose_spec.choose_spec.1) (TSp.ex.choose_spec.choose_spec.2.1) (TSp.ex.choose_spec.choose_spec.2.2.1) (TSp.ex.choose_spec.choose_spec.2.2.2.1) (TSp.ex.choose_spec.choose_spec.2.2.2.2) .i64 .i64 32 32 rfl (by omega) (by omega)
  have HX := Lib.hid hX
  clear hX
  go_enter Tryz.func92, Tryz.ntmps92
  have hown0 := World.ownsRow_made (base := w.heap.size) (e := 188) (size := 2) w X 32 (Nat.le_refl _) (by unfold maxLen; omega) HX.out
  go_wp2_with fail
  go_loopw [5, 6, 7] (fun v s i wr => ∃ (q : Nat) (st : Int) (sp : List (Nat × Nat)), i = .int .i64 q ∧ s = .int .i64 st ∧ q ≤ n ∧ -1 ≤ st ∧ st < q ∧ wr.ownsRow w.heap.size 188 2 v sp.length (spc sp) ∧ Below w.heap.size w wr ∧
    (∀ p ∈ sp, p.1 < p.2 ∧ p.2 ≤ n) ∧ (sp.map (pcs l)).flatten ++ opn l st q = nob (l.take q) ∧ sp.length ≤ q) (fun _ _ i _ => n - (intOf i).toNat)
  case atStart => exact ⟨0, -1, [], rfl, rfl, by omega, by omega, by omega, hown0, (Below.refl _ _).alloc (Nat.le_refl _) _, by simp, rfl, by simp⟩
  case round =>
    obtain ⟨q, st, sp, rfl, rfl, hqn, hst1, hst2, hown, hB, hall, hpc, hspl⟩ := hrel
    have HALL := Lib.hid hall
    have HPC := Lib.hid hpc
    clear hall hpc hown0
    obtain ⟨wo, rfl⟩ : ∃ wo : World, wo = wr := ⟨_, rfl⟩
    by_cases hlt : q < n
    · obtain ⟨b, o, x, rfl, _, _⟩ := hA.one (k := q) (by rw [HN.out]; exact hlt)
      have hAq : Rb wo (some ⟨b, o + q, none⟩) (l.drop q) := (hA.below hB).drop q
      have hdl : (l.drop q).length = n - q := by rw [List.length_drop, HN.out]
      have HDL := Lib.hid hdl
      clear hdl
      go_wp2_with fail
      refine (rune_any _ _ _ (l.drop q) _ _ (tabs_below hT hB) HDL.out (by omega) hAq).mono ?_
      rintro e w1 ⟨⟨R, K, rfl, hK1, hK2, hR, hbl, hnbl⟩, hb1⟩
      have HBL := Lib.hid hbl
      have HNBL := Lib.hid hnbl
      clear hbl hnbl
      have hown1 := own_below hown hb1
      have hB1 := hB.trans (hb1.mono hB.size)
      have hs1 := hB1.size
      have hblank := blank_any R w1 hR
      have hcut : l.take (q + K) = l.take q ++ (l.drop q).take K := List.take_add
      have HCUT := Lib.hid hcut
      clear hcut
      rcases Bool.eq_false_or_eq_true (isb R) with hi | hi
      · rw [hi] at hblank
        have HI := Lib.hid hi
        have HB := Lib.hid hblank
        clear hi hblank
        have e1 : nob (l.take (q + K)) = nob (l.take q) := by rw [HCUT.out, nob_append, HBL.out HI.out, List.append_nil]
        have E1 := Lib.hid e1
        clear e1
        rcases (by omega : st = -1 ∨ 0 ≤ st) with rfl | h0
        · go_wp2_with fail
          refine HB.out.mono ?_
          rintro e w' ⟨rfl, rfl⟩
          go_wp2
          go_roundw
          case rel => exact ⟨q + K, -1, sp, by go_num, rfl, by omega, by omega, by omega, hown1, hB1, HALL.out, by rw [E1.out, ← HPC.out]; rfl, by omega⟩
          case measure => simp [intOf]; omega
        · obtain ⟨a, rfl⟩ := Int.eq_ofNat_of_zero_le h0
          go_wp2_with fail
          refine HB.out.mono ?_
          rintro e w' ⟨rfl, rfl⟩
          have hsrc : Src Tryz.prog 2 184 (.slice (some ⟨w1.heap.size, 0, none⟩) 1 1) 1 [.int .i64 (a : Int), .int .i64 (q : Int)] (w1.alloc (.cells #[.int .i64 (a : Int), .int .i64 (q : Int)] 188)) :=
            Src_rv TSp.und rfl (Rv_new w1 _ _ _ rfl) (by simp [Value.oneCell']) (by omega)
          go_wp2_with (at_builtin; refine wpList_app rfl (.tmp 30) (.tmp 34) _ _ rfl TSp (hown1.alloc _) rfl hsrc rfl (by omega) (by simp; omega) ?_; intro v2 w2 hown2 hgr2 hat2)
          have hB2 := below_app (hB1.alloc hs1 (.cells #[.int .i64 (a : Int), .int .i64 (q : Int)] 188)) (hown1.alloc _) hgr2 (by simp; omega) (Nat.le_refl _)
          have hown3 : w2.ownsRow w.heap.size 188 2 v2 (sp ++ [(a, q)]).length (spc (sp ++ [(a, q)])) := by
            have e : spc (sp ++ [(a, q)]) = spc sp ++ [.int .i64 (a : Int), .int .i64 (q : Int)] := by simp [spc]
            rw [e, List.length_append]
            exact hown2
          go_roundw
          case rel =>
            refine ⟨q + K, -1, sp ++ [(a, q)], by go_num, rfl, by omega, by omega, by omega, hown3, hB2, fun p hp => ?_, ?_, by simp; omega⟩
            · rcases List.mem_append.1 hp with h | h
              · exact HALL.out p h
              · simp at h
                subst h
                exact ⟨by simp; omega, by simp; omega⟩
            · rw [E1.out, ← HPC.out]
              simp [opn, pcs, show ¬ ((a : Int) < 0) from by omega]
          case measure => simp [intOf]; omega
      · rw [hi] at hblank
        have HI := Lib.hid hi
        have HB := Lib.hid hblank
        clear hi hblank
        have e1 : nob (l.take (q + K)) = nob (l.take q) ++ (l.drop q).take K := by rw [HCUT.out, nob_append, HNBL.out HI.out]
        have E1 := Lib.hid e1
        clear e1
        rcases (by omega : st = -1 ∨ 0 ≤ st) with rfl | h0
        · go_wp2_with fail
          refine HB.out.mono ?_
          rintro e w' ⟨rfl, rfl⟩
          go_wp2
          go_roundw
          case rel => exact ⟨q + K, q, sp, by go_num, rfl, by omega, by omega, by omega, hown1, hB1, HALL.out, by rw [E1.out, ← HPC.out]; simp [opn, show ¬ ((q : Int) < 0) from by omega], by omega⟩
          case measure => simp [intOf]; omega
        · obtain ⟨a, rfl⟩ := Int.eq_ofNat_of_zero_le h0
          go_wp2_with fail
          refine HB.out.mono ?_
          rintro e w' ⟨rfl, rfl⟩
          go_wp2
          go_roundw
          case rel => exact ⟨q + K, a, sp, by go_num, rfl, by omega, by omega, by omega, hown1, hB1, HALL.out, by
            rw [E1.out, ← HPC.out]
            simp only [opn, show ¬ ((a : Int) < 0) from by omega, if_false, Int.toNat_natCast]
            rw [take_mid l a q K (by omega), List.append_assoc], by omega⟩
          case measure => simp [intOf]; omega
    · have hqe : q = n := by omega
      subst hqe
      clear hlt
      have htn : l.take q = l := take_all l (by rw [HN.out]; omega)
      have HTN := Lib.hid htn
      clear htn
      rcases (by omega : st = -1 ∨ 0 ≤ st) with rfl | h0
      · have hpf : (sp.map (pcs l)).flatten = nob l := by rw [← HTN.out, ← HPC.out]; simp [opn, HTN.out]
        have HPF := Lib.hid hpf
        clear hpf
        obtain ⟨A5, c5, rfl, hc5, hc5m, hR5, hl5⟩ := own_form hown
        obtain ⟨w4, rfl⟩ : ∃ w4 : World, w4 = wo := ⟨_, rfl⟩
        have hsq : sp.length ≤ 2 * q + 2 := by omega
        obtain ⟨XM, hXM, hmk2⟩ := makeN (P := Tryz.prog) (t := 66) (e := 22) (by first | rfl | exact Tryz.underlying66) (TSB.ex.choose_spec.choose_spec.1) (TSB.ex.choose_spec.choose_spec.2.1) (TSB.ex.choose_spec.choose_spec.2.2.1) (TSB.ex.choose_spec.choose_spec.2.2.2.1) .i64 .i64 sp.length (by omega) (by omega)
        have HXM := Lib.hid hXM
        clear hXM
        go_wp2_with fail
        have hrow0 := Row.new w4 XM 22
        have hb40 : Below w4.heap.size w4 (w4.alloc (.cells XM 22)) := (Below.refl _ _).alloc (Nat.le_refl _) _
        go_loopw [56] (fun i wr => ∃ k : Nat, i = .int .i64 k ∧ k ≤ sp.length ∧ Row wr w4.heap.size 22 ((sp.take k).map (pcv A) ++ XM.toList.drop k) ∧ Below w4.heap.size w4 wr) (fun i _ => sp.length - (intOf i).toNat)
        case atStart => exact ⟨0, rfl, by omega, by simpa using hrow0, hb40⟩
        case round =>
          obtain ⟨k, rfl, hk, hrow, hbr⟩ := hrel
          by_cases hlt : k < sp.length
          · obtain ⟨p, hp⟩ : ∃ p, sp[k]? = some p := ⟨_, List.getElem?_eq_getElem hlt⟩
            have hpm := HALL.out p (List.mem_of_getElem? hp)
            have hs := spc_at hp
            have hR5k := hR5
            obtain ⟨b5, o5, rfl, h5⟩ := hR5 (by rw [hl5]; omega)
            have h51 := h5 _ _ hs.1
            have h52 := h5 _ _ hs.2
            have hc1 := (hbr.cell (p := ⟨b5, o5 + k * 2, none⟩) (cell_lt h51)).trans h51
            have hc2 := (hbr.cell (p := ⟨b5, o5 + (k * 2 + 1), none⟩) (cell_lt h52)).trans h52
            obtain ⟨b, o, x, rfl, _, _⟩ := hA.one (k := p.1) (by rw [HN.out]; omega)
            have HP := Lib.hid hp
            clear hp hs h5 h51 h52
            obtain ⟨p1, p2⟩ := p
            simp only at hpm hc1 hc2
            rw [← Nat.add_assoc] at hc2
            have hcg : ∃ u, ((sp.take k).map (pcv (some ⟨b, o, none⟩)) ++ XM.toList.drop k)[k]? = some u := by
              refine ⟨_, List.getElem?_eq_getElem ?_⟩
              simp [HXM.out]; omega
            obtain ⟨u, hcg⟩ := hcg
            have HCG := Lib.hid hcg
            clear hcg
            have hra := hrow.alloc (.cells #[.int .i64 (p1 : Int), .int .i64 (p2 : Int)] 188)
            have hcell := hra.cell HCG.out
            have hfr := hra.frozen k
            have hne : wr.heap.size ≠ w4.heap.size := by have := hrow.lt; omega
            go_wp2_with fail
            go_roundw
            case rel =>
              refine ⟨k + 1, by go_num, by omega, ?_, ?_⟩
              · rw [← set_step (pcv (some ⟨b, o, none⟩)) HP.out (by simpa using HXM.out)]
                exact hra.set k _
              · exact (hbr.alloc hbr.size _).setCell (p := ⟨w4.heap.size, k, none⟩) (Nat.le_refl _) _
            case measure => simp [intOf]; omega
          · have hke : k = sp.length := by omega
            subst hke
            go_wp2_with fail
            go_ret
            rw [List.take_length, List.drop_eq_nil_of_le (by simp [HXM.out]), List.append_nil] at hrow
            have hl : (sp.map (pcs l)).length = sp.length := by simp
            refine ⟨⟨w4.heap.size, sp.map (pcv A), sp.map (pcs l), sp.length, by rw [hl]; rfl, by rw [hl]; omega, by rw [hl]; omega, parts_of HN.out hrow (hA.below (hB.trans (hbr.mono hB.size))) HALL.out, HPF.out⟩, hB.trans (hbr.mono hB.size)⟩
      · obtain ⟨a, rfl⟩ := Int.eq_ofNat_of_zero_le h0
        have hown5 := hown
        obtain ⟨w4, rfl⟩ : ∃ w4 : World, w4 = wo := ⟨_, rfl⟩
        have hsrc : Src Tryz.prog 2 184 (.slice (some ⟨w4.heap.size, 0, none⟩) 1 1) 1 [.int .i64 (a : Int), .int .i64 (q : Int)] (w4.alloc (.cells #[.int .i64 (a : Int), .int .i64 (q : Int)] 188)) :=
          Src_rv TSp.und rfl (Rv_new w4 _ _ _ rfl) (by simp [Value.oneCell']) (by omega)
        have hs4 := hB.size
        obtain ⟨sq, hsq⟩ : ∃ sq, sp ++ [(a, q)] = sq := ⟨_, rfl⟩
        have hql : sq.length = sp.length + 1 := by rw [← hsq]; simp
        have hall2 : ∀ p ∈ sq, p.1 < p.2 ∧ p.2 ≤ q := by
          rw [← hsq]
          intro p hp
          rcases List.mem_append.1 hp with h | h
          · exact HALL.out p h
          · simp at h
            subst h
            exact ⟨by simp; omega, by simp⟩
        have hpf : (sq.map (pcs l)).flatten = nob l := by
          rw [← hsq]
          have := HPC.out
          rw [HTN.out] at this
          rw [← this]
          simp [opn, pcs, show ¬ ((a : Int) < 0) from by omega]
        have hcs : spc sq = spc sp ++ [.int .i64 (a : Int), .int .i64 (q : Int)] := by rw [← hsq]; simp [spc]
        have HALL2 := Lib.hid hall2
        have HPF := Lib.hid hpf
        have HCS := Lib.hid hcs
        have HQL := Lib.hid hql
        have hql1 : sq.length ≤ q + 1 := by omega
        clear hall2 hpf hcs hsq hql
        go_wp2_with (at_builtin; refine wpList_app rfl (.tmp 44) (.tmp 49) _ _ rfl TSp (hown.alloc _) rfl hsrc rfl (by omega) (by simp; omega) ?_; intro v2 w2 hown2 hgr2 hat2; have hB2 := below_app (hB.alloc hs4 (.cells #[.int .i64 (a : Int), .int .i64 (q : Int)] 188)) (hown.alloc _) hgr2 (by simp; omega) (Nat.le_refl _); rw [← HCS.out, ← HQL.out] at hown2; obtain ⟨A5, c5, rfl, hc5, hc5m, hR6, hl6⟩ := own_form hown2; obtain ⟨XM, hXM, hmk2⟩ := makeN (P := Tryz.prog) (t := 66) (e := 22) (by first | rfl | exact Tryz.underlying66) (TSB.ex.choose_spec.choose_spec.1) (TSB.ex.choose_spec.choose_spec.2.1) (TSB.ex.choose_spec.choose_spec.2.2.1) (TSB.ex.choose_spec.choose_spec.2.2.2.1) .i64 .i64 sq.length (by omega) (by omega); have HXM := Lib.hid hXM; clear hXM)
        have hrow0 := Row.new w2 XM 22
        have hb20 : Below w2.heap.size w2 (w2.alloc (.cells XM 22)) := (Below.refl _ _).alloc (Nat.le_refl _) _
        go_loopw [56] (fun i wr => ∃ k : Nat, i = .int .i64 k ∧ k ≤ sq.length ∧ Row wr w2.heap.size 22 ((sq.take k).map (pcv A) ++ XM.toList.drop k) ∧ Below w2.heap.size w2 wr) (fun i _ => sq.length - (intOf i).toNat)
        case atStart => exact ⟨0, rfl, by omega, by simpa using hrow0, hb20⟩
        case round =>
          obtain ⟨k, rfl, hk, hrow, hbr⟩ := hrel
          by_cases hlt : k < sq.length
          · obtain ⟨p, hp⟩ : ∃ p, sq[k]? = some p := ⟨_, List.getElem?_eq_getElem hlt⟩
            have hpm := HALL2.out p (List.mem_of_getElem? hp)
            have hs := spc_at hp
            have hR6k := hR6
            obtain ⟨b5, o5, rfl, h5⟩ := hR6 (by rw [hl6]; omega)
            have h51 := h5 _ _ hs.1
            have h52 := h5 _ _ hs.2
            have hc1 := (hbr.cell (p := ⟨b5, o5 + k * 2, none⟩) (cell_lt h51)).trans h51
            have hc2 := (hbr.cell (p := ⟨b5, o5 + (k * 2 + 1), none⟩) (cell_lt h52)).trans h52
            obtain ⟨b, o, x, rfl, _, _⟩ := hA.one (k := p.1) (by rw [HN.out]; omega)
            have HP := Lib.hid hp
            clear hp hs h5 h51 h52
            obtain ⟨p1, p2⟩ := p
            simp only at hpm hc1 hc2
            rw [← Nat.add_assoc] at hc2
            have hcg : ∃ u, ((sq.take k).map (pcv (some ⟨b, o, none⟩)) ++ XM.toList.drop k)[k]? = some u := by
              refine ⟨_, List.getElem?_eq_getElem ?_⟩
              simp [HXM.out]; omega
            obtain ⟨u, hcg⟩ := hcg
            have HCG := Lib.hid hcg
            clear hcg
            have hra := hrow.alloc (.cells #[.int .i64 (p1 : Int), .int .i64 (p2 : Int)] 188)
            have hcell := hra.cell HCG.out
            have hfr := hra.frozen k
            have hne : wr.heap.size ≠ w2.heap.size := by have := hrow.lt; omega
            go_wp2_with fail
            go_roundw
            case rel =>
              refine ⟨k + 1, by go_num, by omega, ?_, ?_⟩
              · rw [← set_step (pcv (some ⟨b, o, none⟩)) HP.out (by simpa using HXM.out)]
                exact hra.set k _
              · exact (hbr.alloc hbr.size _).setCell (p := ⟨w2.heap.size, k, none⟩) (Nat.le_refl _) _
            case measure => simp [intOf]; omega
          · have hke : k = sq.length := by omega
            subst hke
            go_wp2_with fail
            go_ret
            rw [List.take_length, List.drop_eq_nil_of_le (by simp [HXM.out]), List.append_nil] at hrow
            have hl : (sq.map (pcs l)).length = sq.length := by simp
            refine ⟨⟨w2.heap.size, sq.map (pcv A), sq.map (pcs l), sq.length, by rw [hl]; rfl, by rw [hl]; omega, by rw [hl]; omega, parts_of HN.out hrow (hA.below (hB2.trans (hbr.mono hB2.size))) HALL2.out, HPF.out⟩, hB2.trans (hbr.mono hB2.size)⟩
end Ar
end Go.Proofs.YtkllecicddfjpaaGreatDoor
