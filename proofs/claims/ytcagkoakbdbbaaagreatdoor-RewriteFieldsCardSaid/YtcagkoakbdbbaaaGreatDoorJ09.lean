/- The program's text: a line without its end. · A mail's fields as a row of slices that each read as bytes; append onto a slice with no room. · Plain: lines' ends made whole, and bare: what RewriteEnds says of them. -/
import Derived.Test.YtcagkoakbdbbaaaGreatDoorJ08
import Derived.Lib.SlBytesConst
import Derived.Lib.SlBytesRowKit2
import Derived.Test.YtcagkoakbdbbaaaGreatDoorJ07
namespace Go.Proofs.YtcagkoakbdbbaaaGreatDoor
set_option linter.unusedVariables false
set_option linter.unusedSimpArgs false
open Go.RowKit Go.Shelf

theorem suf1 (l : List UInt8) (x : UInt8) : Lib.hasSuffix l [x] = decide (l.getLast? = some x) := by
  unfold Lib.hasSuffix
  rw [Bool.eq_iff_iff, List.isSuffixOf_iff_suffix, decide_eq_true_eq]
  constructor
  · rintro ⟨t, rfl⟩
    simp
  · intro h
    obtain ⟨t, rfl⟩ := List.getLast?_eq_some_iff.1 h
    exact ⟨t, rfl⟩
theorem mark_below (w : World) (C : Array Value) (e : TypeId) (fr : Nat × Nat) : Below w.heap.size w (w.alloc (.cells C e fr)) := (Below.refl _ _).alloc (Nat.le_refl _) _

theorem cutsuf_any (A : Option Addr) (l : List UInt8) (x : UInt8) (B : Nat) (n c d : Nat) (w : World) (hn : l.length = n) (hA : Rb w A l) (hnc : n ≤ c) (hb : n ≤ 1000000000) (hx : Rb w (some ⟨B, 0, none⟩) [x]) :
    Calls Tryz.prog 56 #[.slice A n c, .slice (some ⟨B, 0, none⟩) 1 d] w fun e w' => e = .returned (.tuple #[.slice A (cutC x l).length c, .bool (decide (l.getLast? = some x))]) ∧ w' = w := by
  subst hn
  have h := Tryz.bytes_CutSuffix_all A (some ⟨B, 0, none⟩) l.length c 1 d (nums l) (nums [x]) w (nums_len l) rfl hnc (by omega) (bytesIn_of hA) (bytesIn_of hx)
  rw [trimSuffixV_eq (nums_len l) (bytesIn_of hA), bytesOf_nums, bytesOf_nums, suf1] at h
  refine h.mono ?_
  rintro e w' ⟨rfl, rfl⟩
  refine ⟨?_, rfl⟩
  unfold cutC
  by_cases hl : l.getLast? = some x
  · rw [if_pos hl]
    simp [hl, nums]
  · rw [if_neg hl]
    simp [hl]
theorem trimsuf_any (A : Option Addr) (l : List UInt8) (x : UInt8) (B : Nat) (n c d : Nat) (w : World) (hn : l.length = n) (hA : Rb w A l) (hnc : n ≤ c) (hb : n ≤ 1000000000) (hx : Rb w (some ⟨B, 0, none⟩) [x]) :
    Calls Tryz.prog 57 #[.slice A n c, .slice (some ⟨B, 0, none⟩) 1 d] w fun e w' => e = .returned (.slice A (cutC x l).length c) ∧ w' = w := by
  subst hn
  have h := Tryz.bytes_TrimSuffix_all A (some ⟨B, 0, none⟩) l.length c 1 d (nums l) (nums [x]) w (nums_len l) rfl hnc (by omega) (bytesIn_of hA) (bytesIn_of hx)
  rw [trimSuffixV_eq (nums_len l) (bytesIn_of hA), bytesOf_nums, bytesOf_nums, suf1] at h
  refine h.mono ?_
  rintro e w' ⟨rfl, rfl⟩
  refine ⟨?_, rfl⟩
  unfold cutC
  by_cases hl : l.getLast? = some x
  · rw [if_pos hl]
    simp [hl, nums]
  · rw [if_neg hl]
    simp [hl]

set_option maxRecDepth 100000 in
theorem text_any (A : Option Addr) (l : List UInt8) (n c : Nat) (w : World) (hn : l.length = n) (hA : Rb w A l) (hnc : n ≤ c) (hb : n ≤ 1000000000) :
    Calls Tryz.prog 31 #[.slice A n c] w fun e w' => e = .returned (.slice A (textL l).length c) ∧ Below w.heap.size w w' := by
  have HN := Lib.hid hn
  clear hn
  have hcv := Lib.run_convert_bytes_const (P := Tryz.prog) w 22 5 #[.int .u8 10] 1 1 Tryz.underlying22 Tryz.underlying5
  have hb1 := mark_below w #[.int .u8 10] 5 (1, 2)
  have hx1 : Rb (w.alloc (.cells #[.int .u8 10] 5 (1, 2))) (some ⟨w.heap.size, 0, none⟩) [10] := Rb_new w [10] _ _ rfl 1 (1, 2)
  have hcs := cutsuf_any A l 10 w.heap.size n c 1 _ HN.out (hA.below hb1) hnc hb hx1
  by_cases hl : l.getLast? = some 10
  · have HT : Hid (textL l = cutC 13 l.dropLast) := Lib.hid (by unfold textL; rw [if_pos hl])
    have e1 : cutC 10 l = l.dropLast := by unfold cutC; rw [if_pos hl]
    rw [e1, decide_eq_true hl] at hcs
    obtain ⟨m, hm⟩ : ∃ m, l.dropLast.length = m := ⟨_, rfl⟩
    have HM := Lib.hid hm
    rw [hm] at hcs
    have hmn : m ≤ n := by rw [← hm, List.length_dropLast, HN.out]; omega
    have hcv2 := Lib.run_convert_bytes_const (P := Tryz.prog) (w.alloc (.cells #[.int .u8 10] 5 (1, 2))) 22 5 #[.int .u8 13] 1 1 Tryz.underlying22 Tryz.underlying5
    have hb2 := hb1.trans ((mark_below (w.alloc (.cells #[.int .u8 10] 5 (1, 2))) #[.int .u8 13] 5 (1, 2)).mono hb1.size)
    have hx2 : Rb ((w.alloc (.cells #[.int .u8 10] 5 (1, 2))).alloc (.cells #[.int .u8 13] 5 (1, 2))) (some ⟨(w.alloc (.cells #[.int .u8 10] 5 (1, 2))).heap.size, 0, none⟩) [13] := Rb_new _ [13] _ _ rfl 1 (1, 2)
    have hAd : Rb w A l.dropLast := by
      rw [List.dropLast_eq_take]
      exact hA.take _
    have hts := trimsuf_any A l.dropLast 13 _ m c 1 _ HM.out (hAd.below hb2) (by omega) (by omega) hx2
    clear hm hl e1
    rw [World.size_alloc] at hts hcv2
    go_enter Tryz.func31, Tryz.ntmps31
    go_wp2_with fail
    refine hcs.mono ?_
    rintro e w1 ⟨rfl, rfl⟩
    go_wp2_with fail
    refine hts.mono ?_
    rintro e w2 ⟨rfl, rfl⟩
    go_wp2_with fail
    go_ret
    exact ⟨by rw [HT.out]; rfl, hb2⟩
  · have HT : Hid (textL l = l) := Lib.hid (by unfold textL; rw [if_neg hl])
    have e1 : cutC 10 l = l := by unfold cutC; rw [if_neg hl]
    rw [e1, decide_eq_false hl, HN.out] at hcs
    clear hl e1
    go_enter Tryz.func31, Tryz.ntmps31
    go_wp2_with fail
    refine hcs.mono ?_
    rintro e w1 ⟨rfl, rfl⟩
    go_wp2_with fail
    go_ret
    exact ⟨by rw [HT.out, HN.out]; rfl, hb1⟩
end Go.Proofs.YtcagkoakbdbbaaaGreatDoor

namespace Go.Proofs.YtcagkoakbdbbaaaGreatDoor
set_option linter.unusedVariables false
set_option linter.unusedSimpArgs false
open Go.RowKit

section
variable {P : Program} {w : World}
/-- a slice without room: a new row -/
theorem run_app_full {t tx ty e : TypeId} {bytes : Nat} (T : ElT P t e 1 bytes) {A : Option Addr} {n : Nat} {xs : List Value} (hr : Rv w A xs) (hn : xs.length = n)
    {x : Value} {m : Nat} {news : List Value} (hs : Src P 1 tx x m news w) (hm : 0 < m) (hb : (n + m) * bytes ≤ 140737488355328) :
    ∃ c' w', (Builtin.append_ #[t, tx] ty #[.slice A n n, x]).run P w = .ok (.slice (some ⟨w.heap.size, 0, none⟩) (n + m) c') w' ∧ w'.ownsRow w.heap.size e 1 (.slice (some ⟨w.heap.size, 0, none⟩) (n + m) c') (n + m) (xs ++ news) ∧ Below w.heap.size w w' := by
  obtain ⟨ht, _, hbp, i, z, hi, hz, hi1, rfl, hzs⟩ := T
  have hnm : n + m ≤ (n + m) * i.bytes := Nat.le_mul_of_pos_right _ hbp
  have h63 : n + m ≤ maxLen := by unfold maxLen; omega
  have hl := hs.newsLen
  have hlen : (xs ++ news).length = n + m := by rw [List.length_append, hn, hl, Nat.mul_one]
  have hold : (Builtin.firstCells i.size n (.slice A n n)).run P w.drew = .ok xs.toArray w.drew := by
    rw [hi1]
    rcases A with _ | a
    · rcases Nat.eq_zero_or_pos n with h0 | h0
      · subst h0
        obtain rfl := List.eq_nil_of_length_eq_zero hn
        exact run_firstCells_none w.drew 1 0 0 0
      · obtain ⟨_, _, e, _⟩ := hr (by omega)
        cases e
    · refine run_firstCells_some w.drew 1 n _ n n xs (by omega) fun j u hj => ?_
      obtain ⟨b, o, e, hc⟩ := hr (by have := lt_of_get hj; omega)
      cases e
      have hplain : (⟨b, o, none⟩ : Addr).add j = ⟨b, o + j, none⟩ := by unfold Addr.add; split <;> simp_all
      rw [hplain]
      exact hc j u hj
  have hrun := run_append_grow_src (P := P) w t tx ty e i z ht hi hz A n n xs hold x m news (by rw [hi1]; exact hs) (by omega) (by omega) (growslice_fits (by omega) hb)
  have hge := grownCap_ge w (n + m) n e
  have hcm : grownCap w (n + m) n e ≤ maxLen := grownCap_le_maxLen w (n + m) n e h63
  refine ⟨_, _, hrun, ⟨by rw [hlen, Nat.mul_one], .inr ⟨w.heap.size, _, _, rfl, Nat.le_refl _, heap_alloc_new w.drew _, hge, hcm, ?_, ?_⟩⟩, ?_⟩
  · simp only [Array.size_append, List.size_toArray, size_zeroCells, hzs, hlen]
    omega
  · simp only [Array.toList_append, Nat.mul_one]
    rw [← hlen]
    exact List.take_left
  · exact ((Below.refl _ w).drew).alloc (Nat.le_refl _) _
theorem wp_app_full {o : Oper} {a : Act} {K : Act → World → Prop} {Q : Exit → Act → World → Prop} (s x : Operand) (t tx : TypeId)
    (ho : o.op = .call { callee := .builtin .append, args := #[s, x], argTypes := #[t, tx] }) {e : TypeId} {bytes : Nat} (T : ElT P t e 1 bytes) {A : Option Addr} {n : Nat} {xs : List Value}
    (hr : Rv w A xs) (hn : xs.length = n) (hs : a.eval s = .slice A n n) {y : Value} {m : Nat} {news : List Value} (hsrc : Src P 1 tx y m news w) (hx : a.eval x = y) (hm : 0 < m) (hb : (n + m) * bytes ≤ 140737488355328)
    (h : ∀ c' w', w'.ownsRow w.heap.size e 1 (.slice (some ⟨w.heap.size, 0, none⟩) (n + m) c') (n + m) (xs ++ news) → Below w.heap.size w w' → K (a.put o.dst (.slice (some ⟨w.heap.size, 0, none⟩) (n + m) c')) w') : o.wp P a w K Q := by
  obtain ⟨c', w', hrun, h2, h3⟩ := run_app_full (ty := o.type) T hr hn hsrc hm hb
  unfold Oper.wp execOp
  simp only [ho, resolve, invoke, builtin, Sem.run_bind, Sem.run_pure, Result.andThen_ok, List.map_toArray, List.map_cons, List.map_nil, hs, hx, hrun]
  exact h c' w' h2 h3
theorem step_app_full {ops : Array Oper} {o : Oper} {a : Act} {K : Act → World → Prop} {Q : Exit → Act → World → Prop} {E : Prop} (hgd : o.guard = none) (s x : Operand) (t tx : TypeId)
    (ho : o.op = .call { callee := .builtin .append, args := #[s, x], argTypes := #[t, tx] }) {e : TypeId} {bytes : Nat} (T : ElT P t e 1 bytes) {A : Option Addr} {n : Nat} {xs : List Value}
    (hr : Rv w A xs) (hn : xs.length = n) (hs : a.eval s = .slice A n n) {y : Value} {m : Nat} {news : List Value} (hsrc : Src P 1 tx y m news w) (hx : a.eval x = y) (hm : 0 < m) (hb : (n + m) * bytes ≤ 140737488355328)
    (h : ∀ c' w', w'.ownsRow w.heap.size e 1 (.slice (some ⟨w.heap.size, 0, none⟩) (n + m) c') (n + m) (xs ++ news) → Below w.heap.size w w' → K (a.put o.dst (.slice (some ⟨w.heap.size, 0, none⟩) (n + m) c')) w') :
    if Region.wanted o (yielded ops a.tmps) = true then Oper.wp P o a w K Q else E := by
  have hw : Region.wanted o (yielded ops a.tmps) = true := by simp [Region.wanted, hgd]
  rw [if_pos hw]
  exact wp_app_full s x t tx ho T hr hn hs hsrc hx hm hb h
end

/-- a cell of a row of one's own is written -/
theorem own_setAt {w : World} {base e g n c k : Nat} {xs : List Value} (h : w.ownsRow base e 1 (.slice (some ⟨g, 0, none⟩) n c) n xs) (hk : k < n) (u : Value) :
    (w.setCell ⟨g, k, none⟩ u).ownsRow base e 1 (.slice (some ⟨g, 0, none⟩) n c) n (xs.set k u) := by
  obtain ⟨hl, hr⟩ := h
  refine ⟨by rw [List.length_set]; exact hl, ?_⟩
  rcases hr with ⟨hv, _⟩ | ⟨g', cap, cur, hv, hb, hg, h1, h2, h3, h4⟩
  · cases hv
  · cases hv
    refine .inr ⟨g, c, cur.setIfInBounds k u, rfl, hb, ?_, h1, h2, by simpa using h3, ?_⟩
    · obtain ⟨hlt, hk2⟩ := Array.getElem?_eq_some_iff.1 hg
      show (w.heap.modify g _)[g]? = _
      rw [Array.getElem?_eq_getElem (by rw [Array.size_modify]; exact hlt), Array.getElem_modify_self, hk2]
      rfl
    · rw [Array.toList_setIfInBounds, List.take_set, h4]

/-- fields: a row of one's own of slices, each with its bytes, none in the row itself -/
def FR (W : World) (B : Nat) (fv : Value) (fs : List (List UInt8)) : Prop :=
  ∃ vs : List Value, W.ownsRow B 22 1 fv fs.length vs ∧ ∀ (j : Nat) (l : List UInt8), fs[j]? = some l → ∃ b o c, vs[j]? = some (.slice (some ⟨b, o, none⟩) l.length c) ∧ l.length ≤ c ∧ l ≠ [] ∧ Rb W (some ⟨b, o, none⟩) l ∧ ¬ nb fv b
theorem FR.nil (W : World) (B : Nat) : FR W B (.slice none 0 0) [] := ⟨[], World.ownsRow_nil _ _ _ _, fun j l h => by simp at h⟩
theorem rb_notR {w : World} {g : Nat} {t : TypeId} {cs : List Value} {b o : Nat} {l : List UInt8} (hr : Row w g t cs) (h : Rb w (some ⟨b, o, none⟩) l) (h0 : l ≠ []) (hc : ∀ v ∈ cs, ∀ x : UInt8, v ≠ bv x) : b ≠ g := by
  rintro rfl
  obtain ⟨b1, o1, x, e, _, hcl⟩ := h.one (k := 0) (List.length_pos_iff.2 h0)
  cases e
  simp only [World.cell?, show w.heap[b]? = _ from hr] at hcl
  simp at hcl
  exact hc _ (List.mem_of_getElem? hcl) x rfl
theorem rb_lt {W : World} {b o : Nat} {l : List UInt8} (h : Rb W (some ⟨b, o, none⟩) l) (h0 : l ≠ []) : b < W.heap.size := by
  obtain ⟨b1, o1, x, e, _, hc⟩ := h.one (k := 0) (List.length_pos_iff.2 h0)
  cases e
  exact cell_lt hc
theorem own_ext1 {S : Nat → Prop} {W W' : World} {base e size n : Nat} {v : Value} {xs : List Value} (h : W.ownsRow base e size v n xs) (hx : Ext S W W') (hS : ∀ k, nb v k → ¬ S k) : W'.ownsRow base e size v n xs := by
  refine ⟨h.1, ?_⟩
  rcases h.2 with hn | ⟨g, cap, cur, hv, hb, hg, rest⟩
  · exact .inl hn
  · exact .inr ⟨g, cap, cur, hv, hb, (hx.block g (Array.getElem?_eq_some_iff.1 hg).1 (hS g (by rw [hv]; simp [nb, Value.ownBlock]))).trans hg, rest⟩
theorem rb_ext1 {S : Nat → Prop} {W W' : World} {b o : Nat} {l : List UInt8} (h : Rb W (some ⟨b, o, none⟩) l) (h0 : l ≠ []) (hx : Ext S W W') (hS : ¬ S b) : Rb W' (some ⟨b, o, none⟩) l := fun hp => by
  obtain ⟨b1, o1, e, hc⟩ := h hp
  cases e
  exact ⟨b, o, rfl, fun j v hj => (World.cell?_of_block (w := W) (hx.block b (rb_lt h h0) hS)).trans (hc j v hj)⟩
theorem FR.ext {S : Nat → Prop} {W W' : World} {B : Nat} {fv : Value} {fs : List (List UInt8)} (h : FR W B fv fs) (hx : Ext S W W') (h1 : ∀ k, nb fv k → ¬ S k) (h2 : ∀ b o l, l ≠ [] → Rb W (some ⟨b, o, none⟩) l → ¬ nb fv b → ¬ S b) : FR W' B fv fs := by
  obtain ⟨vs, ho, he⟩ := h
  refine ⟨vs, own_ext1 ho hx h1, fun j l hj => ?_⟩
  obtain ⟨b, o, c, k1, k2, k3, k4, k5⟩ := he j l hj
  exact ⟨b, o, c, k1, k2, k3, rb_ext1 k4 k3 hx (h2 b o l k3 k4 k5), k5⟩
theorem FR.below {W W' : World} {B : Nat} {fv : Value} {fs : List (List UInt8)} (h : FR W B fv fs) (hb : Below W.heap.size W W') : FR W' B fv fs :=
  h.ext (S := fun _ => False) (Ext.of_below _ hb) (fun _ _ h => h) (fun _ _ _ _ _ _ h => h)
/-- a box of slices is written -/
theorem FR.setRow {W : World} {B g : Nat} {t : TypeId} {cs : List Value} {fv : Value} {fs : List (List UInt8)} (h : FR W B fv fs) (hr : Row W g t cs) (hc : ∀ v ∈ cs, ∀ x : UInt8, v ≠ bv x) (hg : g < B) (j : Nat) (v : Value) : FR (W.setCell ⟨g, j, none⟩ v) B fv fs :=
  h.ext (S := fun k => k = g) (Ext.setCell _ W ⟨g, j, none⟩ v rfl) (fun k hk e => by
    obtain ⟨vs, ho, _⟩ := h
    have := ho.lt k hk
    omega) (fun b o l h0 hb _ e => by
    exact absurd e (rb_notR hr hb h0 hc))
end Go.Proofs.YtcagkoakbdbbaaaGreatDoor

namespace Go.Proofs.YtcagkoakbdbbaaaGreatDoor
set_option linter.unusedVariables false
set_option linter.unusedSimpArgs false

/-- each LF has a CR ahead -/
def fullL : UInt8 → List UInt8 → List UInt8
  | _, [] => []
  | last, c :: r => (if c = 10 ∧ last ≠ 13 then [13, c] else [c]) ++ fullL c r
/-- CR LF is LF -/
def bareL : List UInt8 → List UInt8
  | [] => []
  | [c] => [c]
  | c :: d :: r => if c = 13 ∧ d = 10 then 10 :: bareL r else c :: bareL (d :: r)
/-- no LF stands by itself -/
def endsOk : UInt8 → List UInt8 → Bool
  | _, [] => true
  | last, c :: r => (c != 10 || last == 13) && endsOk c r
/-- a CR stands by itself -/
def loneCR : List UInt8 → Bool
  | [] => false
  | [c] => c == 13
  | c :: d :: r => (c == 13 && d != 10) || loneCR (d :: r)

theorem endsOk_full (l : List UInt8) : ∀ last, endsOk last (fullL last l) = true := by
  induction l with
  | nil => intro last; rfl
  | cons c r ih =>
    intro last
    unfold fullL
    split
    · next h =>
      obtain ⟨rfl, _⟩ := h
      show (((13 : UInt8) != 10 || last == 13) && (((10 : UInt8) != 10 || (13 : UInt8) == 13) && endsOk 10 (fullL 10 r))) = true
      rw [ih 10]
      simp
    · next h =>
      show ((c != 10 || last == 13) && endsOk c (fullL c r)) = true
      rw [ih c]
      by_cases h1 : c = 10
      · by_cases h2 : last = 13
        · simp [h2]
        · exact absurd ⟨h1, h2⟩ h
      · simp [h1]
theorem full_ok (l : List UInt8) : ∀ last, endsOk last l = true → fullL last l = l := by
  induction l with
  | nil => intro last _; rfl
  | cons c r ih =>
    intro last h
    simp only [endsOk, Bool.and_eq_true, Bool.or_eq_true, bne_iff_ne, beq_iff_eq] at h
    unfold fullL
    rw [if_neg (by rintro ⟨a, b⟩; rcases h.1 with h | h; exact h a; exact b h), ih c h.2]
    rfl
theorem bare_cons {c : UInt8} (h : c ≠ 13) (l : List UInt8) : bareL (c :: l) = c :: bareL l := by
  cases l with
  | nil => rfl
  | cons d r => unfold bareL; rw [if_neg (by rintro ⟨a, _⟩; exact h a)]; cases r <;> rfl
theorem bare_crlf (l : List UInt8) : bareL (13 :: 10 :: l) = 10 :: bareL l := by
  rw [bareL, if_pos ⟨rfl, rfl⟩]
theorem full_bare (n : Nat) : ∀ (l : List UInt8), l.length ≤ n → ∀ last, last ≠ 13 → loneCR l = false → fullL last (bareL (fullL last l)) = fullL last l := by
  induction n with
  | zero =>
    intro l hl last _ _
    obtain rfl := List.eq_nil_of_length_eq_zero (by omega : l.length = 0)
    rfl
  | succ n ih =>
    intro l hl last h1 h2
    match l with
    | [] => rfl
    | c :: r =>
      have hr : r.length ≤ n := by simp at hl; omega
      have h3 : loneCR r = false := by
        cases r with
        | nil => rfl
        | cons d r => simp only [loneCR, Bool.or_eq_false_iff] at h2; exact h2.2
      by_cases h10 : c = 10
      · subst h10
        have e : fullL last (10 :: r) = 13 :: 10 :: fullL 10 r := by rw [fullL, if_pos ⟨rfl, h1⟩]; rfl
        rw [e, bare_crlf]
        have e2 : fullL last (10 :: bareL (fullL 10 r)) = 13 :: 10 :: fullL 10 (bareL (fullL 10 r)) := by rw [fullL, if_pos ⟨rfl, h1⟩]; rfl
        rw [e2, ih r hr 10 (by decide) h3]
      · by_cases h13 : c = 13
        · subst h13
          match r, h2, hr, h3 with
          | [], h2, _, _ => simp [loneCR] at h2
          | d :: r, h2, hr, h3 =>
            simp only [loneCR, Bool.or_eq_false_iff, beq_self_eq_true, Bool.true_and] at h2
            obtain rfl : d = 10 := by simpa using h2.1
            have h4 : loneCR r = false := by
              cases r with
              | nil => rfl
              | cons d r => have := h2.2; simp only [loneCR, Bool.or_eq_false_iff] at this; exact this.2
            have e : fullL last (13 :: 10 :: r) = 13 :: 10 :: fullL 10 r := by
              rw [fullL, if_neg (by rintro ⟨a, _⟩; exact absurd a (by decide)), fullL, if_neg (by rintro ⟨_, a⟩; exact a rfl)]; rfl
            rw [e, bare_crlf]
            have e2 : fullL last (10 :: bareL (fullL 10 r)) = 13 :: 10 :: fullL 10 (bareL (fullL 10 r)) := by rw [fullL, if_pos ⟨rfl, h1⟩]; rfl
            rw [e2, ih r (by simp at hr; omega) 10 (by decide) h4]
        · have e : ∀ x, fullL last (c :: x) = c :: fullL c x := fun x => by rw [fullL, if_neg (by rintro ⟨a, _⟩; exact h10 a)]; rfl
          rw [e, bare_cons h13, e, ih r hr c h13 h3]

/-- the law's looks, by places -/
theorem endsOk_at {l : List UInt8} : ∀ {last : UInt8} {i : Nat}, endsOk last l = true → l[i]? = some 10 → (last :: l)[i]? = some 13 := by
  induction l with
  | nil => intro last i _ h; simp at h
  | cons c r ih =>
    intro last i h hi
    simp only [endsOk, Bool.and_eq_true, Bool.or_eq_true, bne_iff_ne, beq_iff_eq] at h
    cases i with
    | zero =>
      simp at hi
      rcases h.1 with h' | h'
      · exact absurd hi h'
      · simp [h']
    | succ i =>
      have := ih (last := c) (i := i) h.2 (by simpa using hi)
      simpa using this
theorem lone_at {l : List UInt8} : loneCR l = true ↔ ∃ i : Nat, l[i]? = some 13 ∧ l[i + 1]? ≠ some 10 := by
  induction l with
  | nil =>
    constructor
    · intro h; cases h
    · rintro ⟨i, h, _⟩; cases h
  | cons c r ih =>
    cases r with
    | nil =>
      constructor
      · intro h
        obtain rfl : c = 13 := by simpa [loneCR] using h
        exact ⟨0, rfl, by simp⟩
      · rintro ⟨i, h, _⟩
        cases i with
        | zero =>
          obtain rfl : c = 13 := Option.some.inj h
          rfl
        | succ i => cases h
    | cons d r =>
      rw [loneCR, Bool.or_eq_true, ih]
      constructor
      · rintro (h | ⟨i, h1, h2⟩)
        · simp only [Bool.and_eq_true, beq_iff_eq, bne_iff_ne] at h
          obtain ⟨rfl, h⟩ := h
          exact ⟨0, rfl, fun e => h (Option.some.inj e)⟩
        · exact ⟨i + 1, h1, h2⟩
      · rintro ⟨i, h1, h2⟩
        cases i with
        | zero =>
          obtain rfl : c = 13 := Option.some.inj h1
          refine .inl ?_
          simp only [beq_self_eq_true, Bool.true_and, bne_iff_ne]
          intro e
          exact h2 (by rw [e]; rfl)
        | succ i => exact .inr ⟨i, h1, h2⟩
theorem full_len (l : List UInt8) : ∀ last, (fullL last l).length ≤ 2 * l.length := by
  induction l with
  | nil => intro last; simp [fullL]
  | cons c r ih =>
    intro last
    have := ih c
    unfold fullL
    split <;> simp <;> omega
theorem bare_len (n : Nat) : ∀ l : List UInt8, l.length ≤ n → (bareL l).length ≤ l.length := by
  induction n with
  | zero => intro l h; obtain rfl := List.eq_nil_of_length_eq_zero (by omega : l.length = 0); simp [bareL]
  | succ n ih =>
    intro l h
    match l with
    | [] => simp [bareL]
    | [c] => simp [bareL]
    | c :: d :: r =>
      simp at h
      have h1 := ih r (by omega)
      have h2 := ih (d :: r) (by simp; omega)
      unfold bareL
      split <;> simp at * <;> omega
end Go.Proofs.YtcagkoakbdbbaaaGreatDoor
