/- The document's lines, and which are a boundary's. · Many rows of one's own at once: each is told, their blocks lie apart, and rows of bytes that are held by them lie apart from all. Nothing of the program but its types' numbers. -/
import Derived.Test.YtfdkcgdanhlfkaaGreatDoorJ03
import Derived.Test.YtfdkcgdanhlfkaaGreatDoorJ12
import Derived.Test.YtfdkcgdanhlfkaaGreatDoorJ06
import Derived.Test.YtfdkcgdanhlfkaaGreatDoorChecked
namespace Go.Proofs.YtfdkcgdanhlfkaaGreatDoor
set_option linter.unusedVariables false
set_option linter.unusedSimpArgs false
open Go.RowKit

theorem trimE_nil : trimE [] = [] := rfl
theorem trimE_snoc (l : List UInt8) (x : UInt8) : trimE (l ++ [x]) = if x = 32 ∨ x = 9 then trimE l else l ++ [x] := by
  unfold trimE Lib.trimRightS
  rw [List.reverse_append, List.reverse_singleton, List.singleton_append, List.dropWhile_cons]
  by_cases h : x = 32 ∨ x = 9
  · rw [if_pos h, if_pos (by rcases h with rfl | rfl <;> rfl)]
  · rw [if_neg h, if_neg (by simpa [not_or] using h)]
    simp

set_option maxRecDepth 100000 in
set_option maxHeartbeats 2000000 in
theorem rmark_any (A : Option Addr) (l bd : List UInt8) (n c : Nat) (w : World) (hn : l.length = n) (hA : Rb w A l) (hnc : n ≤ c) (hb : n ≤ 1000000) (hbd : bd.length ≤ 1000000) :
    Calls Tryz.prog 20 #[.slice A n c, .string (bs bd)] w fun e w' => e = .returned (.int .i64 (mk bd l)) ∧ w = w' := by
  have HN := Lib.hid hn
  clear hn
  go_enter Tryz.func20, Tryz.ntmps20
  go_upto_block 0 with fail
  go_cut [5] from 8 to 27 (fun s5 wx => (s5 = .int .i64 ((trimE l).length : Int) ∧ Hid (l.take (trimE l).length = trimE l ∧ (trimE l).length ≤ n)) ∧ wx = w)
  case first =>
    go_wp2_with fail
    go_loop [5] (fun i => ∃ k : Nat, k ≤ n ∧ i = .int .i64 k ∧ Hid (trimE l = trimE (l.take k))) (fun i => (intOf i).toNat)
    case atStart => exact ⟨n, Nat.le_refl _, rfl, Lib.hid (by rw [List.take_of_length_le (by rw [HN.out]; exact Nat.le_refl _)])⟩
    case round =>
      obtain ⟨k, hk, rfl, HT⟩ := hrel
      by_cases h0 : 0 < k
      · obtain ⟨m, rfl⟩ : ∃ m, k = m + 1 := ⟨k - 1, by omega⟩
        obtain ⟨b, o, x, rfl, HX, hxk⟩ := hA.one (k := m) (by rw [HN.out]; omega)
        have hsn := trimE_snoc (l.take m) x
        rw [← take_succ_of HX.out] at hsn
        have HS := Lib.hid hsn
        clear hsn
        have e1 : (((m + 1 : Nat) : Int) - 1) = (m : Int) := by omega
        have hm0 : (0 : Int) < ((m + 1 : Nat) : Int) := by omega
        have t32 : ((x.toNat : Int) == 32) = (x == 32) := u8_beq x 32
        have t9 : ((x.toNat : Int) == 9) = (x == 9) := u8_beq x 9
        by_cases hb : x = 32 ∨ x = 9
        · have HT2 := Lib.hid (show trimE l = trimE (l.take m) by rw [HT.out, HS.out, if_pos hb])
          by_cases h32 : x = 32
          · have hb1 : ((x.toNat : Int) == 32) = true := by rw [t32, h32]; rfl
            clear t32 t9 hb h32
            go_wp2_with fail
            go_round
            case rel => exact ⟨m, by omega, by go_num, HT2⟩
            case measure => simp [intOf]
          · have hb1 : ((x.toNat : Int) == 32) = false := by rw [t32]; simpa using h32
            have hb2 : ((x.toNat : Int) == 9) = true := by rw [t9]; rcases hb with h | h; exact absurd h h32; rw [h]; rfl
            clear t32 t9 hb h32
            go_wp2_with fail
            go_round
            case rel => exact ⟨m, by omega, by go_num, HT2⟩
            case measure => simp [intOf]
        · have hb1 : ((x.toNat : Int) == 32) = false := by rw [t32]; simpa using fun h => hb (.inl h)
          have hb2 : ((x.toNat : Int) == 9) = false := by rw [t9]; simpa using fun h => hb (.inr h)
          have HT2 := Lib.hid (show trimE l = l.take (m + 1) by rw [HT.out, HS.out, if_neg hb, take_succ_of HX.out])
          clear t32 t9 hb
          go_wp2_with fail
          go_meet
          have hl : (trimE l).length = m + 1 := by rw [HT2.out, List.length_take, HN.out]; omega
          exact ⟨⟨by rw [hl]; go_num, Lib.hid ⟨by rw [hl, HT2.out], by omega⟩⟩, rfl⟩
      · obtain rfl : k = 0 := by omega
        have HT2 := Lib.hid (show trimE l = [] by rw [HT.out]; rfl)
        go_wp2_with fail
        go_meet
        exact ⟨⟨by rw [HT2.out]; rfl, Lib.hid ⟨by rw [HT2.out]; rfl, by rw [HT2.out]; exact Nat.zero_le _⟩⟩, rfl⟩
  case rest =>
    obtain ⟨⟨rfl, HT⟩, rfl⟩ := hcut
    obtain ⟨hT, hTn⟩ := HT.out
    have hRt : Rb wc A (trimE l) := by rw [← hT]; exact hA.take _
    have hsl := slice_to (P := Tryz.prog) Tryz.underlying22 (s := 1) (fun w => Tryz.sizeOf5 w) A n c (trimE l).length (by omega)
    have hcv := fun W (h : Rb W A (trimE l)) => conv_str (P := Tryz.prog) (src := 22) (dst := 9) (e := 5) Tryz.underlying22 Tryz.underlying5 Tryz.underlying9 (A := A) (l := trimE l) (c := c) h rfl
    have hcv2 := hcv wc hRt
    have hdd : ∀ a : List UInt8, (⟨#[45, 45]⟩ : ByteArray) ++ bs a = bs ([45, 45] ++ a) := fun a => bs_add [45, 45] a
    have hdd2 : ∀ a : List UInt8, bs a ++ (⟨#[45, 45]⟩ : ByteArray) = bs (a ++ [45, 45]) := fun a => bs_add a [45, 45]
    clear hcv hT HT
    by_cases h1 : trimE l = [45, 45] ++ bd
    · have e1 : (trimE l == 45 :: 45 :: bd) = true := by simpa using h1
      have HM := Lib.hid (mk_one.2 h1)
      have H1 := Lib.hid h1
      clear h1
      go_wp2_with fail
      go_ret
      exact ⟨ret_int (by rw [HM.out]; rfl), rfl⟩
    · have e1 : (trimE l == 45 :: 45 :: bd) = false := by simpa using h1
      by_cases h2 : trimE l = [45, 45] ++ bd ++ [45, 45]
      · have e2 : (trimE l == 45 :: 45 :: (bd ++ [45, 45])) = true := by simpa using h2
        have HM := Lib.hid (mk_two.2 h2)
        have H2 := Lib.hid h2
        clear h1 h2
        go_wp2_with fail
        go_ret
        exact ⟨ret_int (by rw [HM.out]; rfl), rfl⟩
      · have e2 : (trimE l == 45 :: 45 :: (bd ++ [45, 45])) = false := by simpa using h2
        have HM := Lib.hid (mk_zero.2 ⟨h1, h2⟩)
        clear h1 h2
        go_wp2_with fail
        go_ret
        exact ⟨ret_int (by rw [HM.out]; rfl), rfl⟩
end Go.Proofs.YtfdkcgdanhlfkaaGreatDoor

namespace Go.Proofs.YtfdkcgdanhlfkaaGreatDoor
set_option linter.unusedVariables false
set_option linter.unusedSimpArgs false
open Go.RowKit

/-- a row of one's own: element's type, its size, the value, how many, what cells -/
structure Ow where
  e : TypeId
  size : Nat
  v : Value
  n : Nat
  xs : List Value
/-- a row of bytes -/
def obs (v : Value) (l : List UInt8) : Ow := ⟨5, 1, v, l.length, l.map bv⟩
/-- a row of rows of bytes -/
def orr (v : Value) (ts : List Tl) : Ow := ⟨22, 1, v, ts.length, ts.map (·.2)⟩
structure Mem (w : World) (base : Nat) (vs : List Ow) (T : List Tl) : Prop where
  own : ∀ o ∈ vs, OwnM w base o.e o.size o.v o.n o.xs
  sep : Sep (vs.map (·.v))
  ls : LsOk w base (vs.map (·.v)) T
section
variable {w w' : World} {base : Nat} {vs : List Ow} {T : List Tl} {i : Nat} {o o' : Ow}
theorem Mem.get (h : Mem w base vs T) (hi : vs[i]? = some o) : OwnM w base o.e o.size o.v o.n o.xs := h.own o (List.mem_of_getElem? hi)
theorem Mem.lt (h : Mem w base vs T) : ∀ u ∈ vs.map (·.v), ∀ k, nb u k → k < w.heap.size := by
  intro u hu k hk
  obtain ⟨o, ho, rfl⟩ := List.mem_map.1 hu
  exact ((h.own o ho).lt k hk).2
theorem Mem.below (h : Mem w base vs T) (hb : Below w.heap.size w w') : Mem w' base vs T := ⟨fun o ho => (h.own o ho).below hb, h.sep, h.ls.below hb⟩
/-- one row is another -/
theorem Mem.upd (h : Mem w base vs T) (hi : vs[i]? = some o) (hx : Ext (fun k => nb o.v k) w w') (ho : OwnM w' base o'.e o'.size o'.v o'.n o'.xs) (hv : ∀ k, nb o'.v k → nb o.v k ∨ w.heap.size ≤ k) : Mem w' base (vs.set i o') T := by
  have him : (vs.map (·.v))[i]? = some o.v := by rw [List.getElem?_map, hi]; rfl
  refine ⟨fun u hu => ?_, ?_, ?_⟩
  · obtain ⟨j, hj⟩ := List.mem_iff_getElem?.1 hu
    rw [List.getElem?_set] at hj
    by_cases hij : i = j
    · rw [if_pos hij] at hj
      split at hj
      · cases hj
        exact ho
      · cases hj
    · rw [if_neg hij] at hj
      refine hx.own (h.own u (List.mem_of_getElem? hj)) fun k h1 h2 => ?_
      exact h.sep i j o.v u.v hij him (by rw [List.getElem?_map, hj]; rfl) k h2 h1
  · rw [List.map_set]
    exact h.sep.upd him h.lt hv
  · rw [List.map_set]
    exact h.ls.next hx (fun k _ hk => ⟨o.v, List.mem_of_getElem? him, hk⟩) (mem_upd him hv)
/-- a row of bytes goes among those that are held; another one stands in its place -/
theorem Mem.push (h : Mem w base vs T) {v : Value} {l : List UInt8} (hi : vs[i]? = some (obs v l)) (hb : Below w.heap.size w w') (ho : OwnM w' base o'.e o'.size o'.v o'.n o'.xs) (hv : ∀ k, nb o'.v k → w.heap.size ≤ k) : Mem w' base (vs.set i o') (T ++ [(l, v)]) := by
  have him : (vs.map (·.v))[i]? = some v := by rw [List.getElem?_map, hi]; rfl
  have h2 := h.upd (o' := o') hi (Ext.of_below _ hb) ho (fun k hk => .inr (hv k hk))
  refine ⟨h2.own, h2.sep, fun t ht => ?_⟩
  rcases List.mem_append.1 ht with ht | ht
  · exact h2.ls t ht
  · simp only [List.mem_singleton] at ht
    subst ht
    have h3 := h.get hi
    refine ⟨h3.below hb, fun k hk u hu hku => ?_⟩
    have hkl := (h3.lt k hk).2
    obtain ⟨j, hj⟩ := List.mem_iff_getElem?.1 hu
    rw [List.map_set, List.getElem?_set] at hj
    by_cases hij : i = j
    · rw [if_pos hij] at hj
      split at hj
      · cases hj
        have := hv k hku
        omega
      · cases hj
    · rw [if_neg hij] at hj
      exact h.sep i j v u hij him hj k hk hku
/-- a fresh row of bytes is held, too -/
theorem Mem.add (h : Mem w base vs T) {v : Value} {l : List UInt8} (hb : Below w.heap.size w w') (ho : OwnM w' base 5 1 v l.length (l.map bv)) (hv : ∀ k, nb v k → w.heap.size ≤ k) : Mem w' base vs (T ++ [(l, v)]) := by
  have h2 := h.below hb
  refine ⟨h2.own, h2.sep, fun t ht => ?_⟩
  rcases List.mem_append.1 ht with ht | ht
  · exact h2.ls t ht
  · simp only [List.mem_singleton] at ht
    subst ht
    refine ⟨ho, fun k hk u hu hku => ?_⟩
    have := h.lt u hu k hku
    have := hv k hk
    omega
/-- another row of one's own -/
theorem Mem.cons (h : Mem w base vs T) (hb : Below w.heap.size w w') (ho : OwnM w' base o'.e o'.size o'.v o'.n o'.xs) (hv : ∀ k, nb o'.v k → w.heap.size ≤ k) : Mem w' base (vs ++ [o']) T := by
  have h2 := h.below hb
  refine ⟨fun u hu => ?_, fun a b x y hab hx hy k hk1 hk2 => ?_, fun t ht => ⟨(h2.ls t ht).1, fun k hk u hu hku => ?_⟩⟩
  · rcases List.mem_append.1 hu with hu | hu
    · exact h2.own u hu
    · simp only [List.mem_singleton] at hu
      subst hu
      exact ho
  · rw [List.map_append, List.getElem?_append] at hx hy
    simp only [List.map_cons, List.map_nil] at hx hy
    split at hx <;> split at hy
    · exact h.sep a b x y hab hx hy k hk1 hk2
    · rename_i h3 h4
      rcases hb0 : b - (vs.map (·.v)).length with _ | b'
      · rw [hb0] at hy
        cases hy
        have := hv k hk2
        have := h.lt x (List.mem_of_getElem? hx) k hk1
        omega
      · rw [hb0] at hy
        simp at hy
    · rename_i h3 h4
      rcases ha0 : a - (vs.map (·.v)).length with _ | a'
      · rw [ha0] at hx
        cases hx
        have := hv k hk1
        have := h.lt y (List.mem_of_getElem? hy) k hk2
        omega
      · rw [ha0] at hx
        simp at hx
    · rename_i h3 h4
      rcases ha0 : a - (vs.map (·.v)).length with _ | a'
      · rcases hb0 : b - (vs.map (·.v)).length with _ | b'
        · omega
        · rw [hb0] at hy
          simp at hy
      · rw [ha0] at hx
        simp at hx
  · rw [List.map_append] at hu
    rcases List.mem_append.1 hu with hu | hu
    · exact (h2.ls t ht).2 k hk u hu hku
    · simp only [List.map_cons, List.map_nil, List.mem_singleton] at hu
      subst hu
      have := hv k hku
      have := (((h.ls t ht).1).lt k hk).2
      omega
end
theorem Mem.nil (w : World) (base : Nat) : Mem w base [] [] := ⟨(fun _ h => by cases h), (fun i j u v _ h => by simp at h), (fun _ h => by cases h)⟩
/-- less of a row -/
theorem OwnM.cut {w : World} {base : Nat} {e : TypeId} {A : Option Addr} {n c k : Nat} {xs : List Value} (h : OwnM w base e 1 (.slice A n c) n xs) (hk : k ≤ n) : OwnM w base e 1 (.slice A k c) k (xs.take k) := by
  refine ⟨by have := h.1; simp at this ⊢; omega, ?_⟩
  rcases h.2 with ⟨hv, h0⟩ | ⟨g, cap, cur, fz, hv, hb, hg, hfz, h1, h2, h3, h4⟩
  · cases hv
    exact .inl ⟨by rw [show k = 0 by omega], by omega⟩
  · cases hv
    refine .inr ⟨g, c, cur, fz, rfl, hb, hg, hfz, by omega, h2, h3, ?_⟩
    rw [← h4, List.take_take]
    congr 1
    omega

/-- rows of bytes, as they are read -/
def RR (w : World) (A : Option Addr) (ls : List (List UInt8)) : Prop := ∃ vs : List Value, Rv w A vs ∧ vs.length = ls.length ∧ ∀ (j : Nat) (l : List UInt8), ls[j]? = some l → ∃ B c, vs[j]? = some (.slice B l.length c) ∧ l.length ≤ c ∧ c ≤ maxLen ∧ (B = none → c = 0) ∧ (B = none ∨ ∃ b o, B = some ⟨b, o, none⟩) ∧ Rb w B l
theorem RR.below {w w' : World} {A : Option Addr} {ls : List (List UInt8)} (h : RR w A ls) (hb : Below w.heap.size w w') : RR w' A ls := by
  obtain ⟨vs, h1, h2, h3⟩ := h
  refine ⟨vs, Rv.below h1 hb, h2, fun j l hl => ?_⟩
  obtain ⟨B, c, a1, a2, a3, a4, a5, a6⟩ := h3 j l hl
  exact ⟨B, c, a1, a2, a3, a4, a5, a6.below hb⟩
theorem RR.one {w : World} {A : Option Addr} {ls : List (List UInt8)} (h : RR w A ls) {k : Nat} (hk : k < ls.length) :
    ∃ b o B c l, A = some ⟨b, o, none⟩ ∧ Hid (ls[k]? = some l) ∧ w.cell? ⟨b, o + k, none⟩ = some (.slice B l.length c) ∧ l.length ≤ c ∧ c ≤ maxLen ∧ (B = none → c = 0) ∧ (B = none ∨ ∃ b o, B = some ⟨b, o, none⟩) ∧ Rb w B l := by
  obtain ⟨vs, h1, h2, h3⟩ := h
  obtain ⟨b, o, e, hc⟩ := h1 (by omega)
  have hl : ls[k]? = some ls[k] := List.getElem?_eq_getElem hk
  obtain ⟨B, c, a1, a2, a3, a4, a5, a6⟩ := h3 k _ hl
  exact ⟨b, o, B, c, ls[k], e, Lib.hid hl, hc k _ a1, a2, a3, a4, a5, a6⟩
/-- rows that are held read so -/
theorem RR_of {w : World} {base : Nat} {A : Option Addr} {n c : Nat} {ts T : List Tl} {vs : List Value} (ho : OwnM w base 22 1 (.slice A n c) n (ts.map (·.2))) (hl : LsOk w base vs T) (hs : ∀ t ∈ ts, t ∈ T) : RR w A (ts.map (·.1)) := by
  obtain ⟨A', c', e, _, _, hr, _, _, _⟩ := ho.form
  cases e
  refine ⟨ts.map (·.2), hr, by simp, fun j l hj => ?_⟩
  rw [List.getElem?_map, Option.map_eq_some_iff] at hj
  obtain ⟨t, ht, rfl⟩ := hj
  obtain ⟨B, d, e2, h1, h2, h3, _, h4, h5⟩ := ((hl t (hs t (List.mem_of_getElem? ht))).1).form
  refine ⟨B, d, by rw [List.getElem?_map, ht]; exact congrArg some e2, h1, h2, h4, ?_, h3⟩
  rcases h5 with h5 | ⟨b, h5⟩
  · exact .inl h5
  · exact .inr ⟨b, 0, h5⟩
end Go.Proofs.YtfdkcgdanhlfkaaGreatDoor
