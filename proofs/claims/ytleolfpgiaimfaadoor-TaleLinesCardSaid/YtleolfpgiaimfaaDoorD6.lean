/- Events in memory; numerals by strconv; the functions that tell a field's place; the fields' functions. -/
import Derived.Test.YtleolfpgiaimfaaDoorD5
import Derived.Laws.EntriesVeiled
namespace Go.Proofs.YtleolfpgiaimfaaDoor
set_option linter.unusedVariables false
set_option linter.unusedSimpArgs false
open Go.RowKit Go.Shelf

theorem results_cell {fn : Func} {p : Tmp} {ty : TypeId} (h : fn.results = #[.cell p ty]) (tmps : Array Value) (P : Program) (w : World) :
    (results fn tmps).run P w = ((asAddr (tmps.getD p undef)).run P w).andThen fun a w₁ => (loadVar ty a).run P w₁ := by
  simp only [results, h]
  simp [Sem.run_bind, Result.andThen]
/-- what the library's variables hold -/
structure Gt (w : World) : Prop where
  pow : Lib.TabIs Tryd.prog w "internal/strconv.uint64pow10" .u64 Lib.pow10Tab
  esy : ∃ te pe, w.cell? ⟨0, 0, none⟩ = some (.iface te pe)
  era : ∃ te pe, w.cell? ⟨1, 0, none⟩ = some (.iface te pe)
  mx : ∃ m : Int, w.cell? ⟨2, 0, none⟩ = some (.int .i64 m)
theorem gpow : Tryd.prog.globalNamed "internal/strconv.uint64pow10" = some 3 := by kernel_rfl
theorem Gt.lt {w : World} (h : Gt w) : 3 < w.heap.size := by
  have h1 := h.pow
  unfold Lib.TabIs World.var? at h1
  rw [gpow, Option.bind_some] at h1
  rcases Nat.lt_or_ge 3 w.heap.size with h2 | h2
  · exact h2
  · rw [Array.getElem?_eq_none h2] at h1
    cases h1
theorem Gt.below {w w' : World} (h : Gt w) (hb : Below w.heap.size w w') : Gt w' := by
  obtain ⟨a, b, h1⟩ := h.esy
  obtain ⟨c, d, h2⟩ := h.era
  obtain ⟨m, h3⟩ := h.mx
  refine ⟨?_, ⟨a, b, (hb.cell (p := ⟨_, 0, none⟩) (cell_lt h1)).trans h1⟩, ⟨c, d, (hb.cell (p := ⟨_, 0, none⟩) (cell_lt h2)).trans h2⟩, ⟨m, (hb.cell (p := ⟨_, 0, none⟩) (cell_lt h3)).trans h3⟩⟩
  have h4 := h.pow
  unfold Lib.TabIs World.var? at h4 ⊢
  rw [gpow, Option.bind_some] at h4 ⊢
  rw [hb.block _ h.lt]
  exact h4
theorem Gt.belowN {w w' : World} (h : Gt w) {n : Nat} (hn : w.heap.size = n) (hb : Below n w w') : Gt w' := h.below (hn ▸ hb)

theorem below_grow (w : World) (os : Array Obj) : Below w.heap.size w (Sort.grow w os) := ⟨rfl, rfl, rfl, by simp, fun k hk => by
  show (w.heap ++ os)[k]? = _
  rw [Array.getElem?_append_left hk]⟩
theorem itoa_any (z : Int) (w : World) (hz : isInt z) (hG : Gt w) : Calls Tryd.prog 31 #[.int .i64 z] w fun e w' => e = .returned (.string (bs (Lib.itoa z))) ∧ Below w.heap.size w w' := by
  refine (Tryd.strconv_Itoa z hz.1 hz.2 w hG.pow).mono ?_
  rintro e w' ⟨rfl, k, os, rfl⟩
  exact ⟨rfl, ((Dn.of w k).below _).trans (below_grow (w.drewN k) os)⟩
/-- what Atoi hands back -/
def AtoiOut (s : List UInt8) (w : World) (e : Ending) (w' : World) : Prop := ∃ ev : Value, e = .returned (.tuple #[.int .i64 (atoiZ s).1, ev]) ∧ ((ev = .nilIface ∧ (atoiZ s).2 = true) ∨ ((∃ te pe, ev = .iface te pe) ∧ (atoiZ s).2 = false)) ∧ Below w.heap.size w w'
theorem atoi_any (s : List UInt8) (w : World) (hs : s.length ≤ 1000000) (hG : Gt w) : Calls Tryd.prog 33 #[.string (bs s)] w (AtoiOut s w) := by
  have hsz : (bs s).size = s.length := bs_size s
  obtain ⟨a, b, h1⟩ := hG.esy
  obtain ⟨c, d, h2⟩ := hG.era
  unfold AtoiOut atoiZ
  cases h : Lib.atoiAll s with
  | ok v =>
    refine (Tryd.strconv_Atoi_ok (bs s) (by omega) v (by rw [bs_toList]; exact h) w).mono ?_
    rintro e w' ⟨rfl, hw⟩
    refine ⟨_, rfl, .inl ⟨rfl, rfl⟩, ?_⟩
    rcases hw with rfl | ⟨t, rfl⟩
    · exact Below.refl _ _
    · exact Lib.bytesWorld_below _ _ _
  | «syntax» =>
    refine (Tryd.strconv_Atoi_syntax (bs s) (by omega) (by rw [bs_toList]; exact h) _ w h1 (.inr ⟨_, _, rfl⟩)).mono ?_
    rintro e w' ⟨N, rfl, _, _, hb⟩
    exact ⟨_, rfl, .inr ⟨⟨_, _, rfl⟩, rfl⟩, hb⟩
  | range =>
    refine (Tryd.strconv_Atoi_range (bs s) (by omega) (by rw [bs_toList]; exact h) _ w h2 (.inr ⟨_, _, rfl⟩)).mono ?_
    rintro e w' ⟨N, rfl, _, _, hb⟩
    rw [bs_toList]
    exact ⟨_, rfl, .inr ⟨⟨_, _, rfl⟩, rfl⟩, hb⟩

/-- a function that tells a place of an event -/
def SelAt (f : Nat) (off : Nat) : Prop := (∀ args w, (callFunc f args).run Tryd.prog w = .ok (.enter f args) w) ∧ ∀ (b : Nat) (w : World), Calls Tryd.prog f #[.pointer (some ⟨b, 0, none⟩)] w fun e w' => e = .returned (.pointer (some ⟨b, off, none⟩)) ∧ w' = w

theorem sel_who : SelAt 18 1 := by
  refine ⟨enters_of Tryd.func18 (by kernel_rfl) rfl, fun b w => ?_⟩
  go_enter Tryd.func18, Tryd.ntmps18
  go_wp2_with fail
  go_ret
  exact ⟨rfl, rfl⟩

theorem sel_dst : SelAt 19 2 := by
  refine ⟨enters_of Tryd.func19 (by kernel_rfl) rfl, fun b w => ?_⟩
  go_enter Tryd.func19, Tryd.ntmps19
  go_wp2_with fail
  go_ret
  exact ⟨rfl, rfl⟩

theorem sel_n : SelAt 20 3 := by
  refine ⟨enters_of Tryd.func20 (by kernel_rfl) rfl, fun b w => ?_⟩
  go_enter Tryd.func20, Tryd.ntmps20
  go_wp2_with fail
  go_ret
  exact ⟨rfl, rfl⟩

theorem sel_m : SelAt 21 4 := by
  refine ⟨enters_of Tryd.func21 (by kernel_rfl) rfl, fun b w => ?_⟩
  go_enter Tryd.func21, Tryd.ntmps21
  go_wp2_with fail
  go_ret
  exact ⟨rfl, rfl⟩

theorem sel_thread : SelAt 23 5 := by
  refine ⟨enters_of Tryd.func23 (by kernel_rfl) rfl, fun b w => ?_⟩
  go_enter Tryd.func23, Tryd.ntmps23
  go_wp2_with fail
  go_ret
  exact ⟨rfl, rfl⟩

theorem sel_rk : SelAt 34 42 := by
  refine ⟨enters_of Tryd.func34 (by kernel_rfl) rfl, fun b w => ?_⟩
  go_enter Tryd.func34, Tryd.ntmps34
  go_wp2_with fail
  go_ret
  exact ⟨rfl, rfl⟩

theorem sel_rn : SelAt 35 43 := by
  refine ⟨enters_of Tryd.func35 (by kernel_rfl) rfl, fun b w => ?_⟩
  go_enter Tryd.func35, Tryd.ntmps35
  go_wp2_with fail
  go_ret
  exact ⟨rfl, rfl⟩

theorem sel_rm : SelAt 36 44 := by
  refine ⟨enters_of Tryd.func36 (by kernel_rfl) rfl, fun b w => ?_⟩
  go_enter Tryd.func36, Tryd.ntmps36
  go_wp2_with fail
  go_ret
  exact ⟨rfl, rfl⟩

theorem sel_rt : SelAt 37 45 := by
  refine ⟨enters_of Tryd.func37 (by kernel_rfl) rfl, fun b w => ?_⟩
  go_enter Tryd.func37, Tryd.ntmps37
  go_wp2_with fail
  go_ret
  exact ⟨rfl, rfl⟩

theorem sel_sec : SelAt 39 7 := by
  refine ⟨enters_of Tryd.func39 (by kernel_rfl) rfl, fun b w => ?_⟩
  go_enter Tryd.func39, Tryd.ntmps39
  go_wp2_with fail
  go_ret
  exact ⟨rfl, rfl⟩

theorem sel_stays : SelAt 40 8 := by
  refine ⟨enters_of Tryd.func40 (by kernel_rfl) rfl, fun b w => ?_⟩
  go_enter Tryd.func40, Tryd.ntmps40
  go_wp2_with fail
  go_ret
  exact ⟨rfl, rfl⟩


/-- a function's value, without what it has captured -/
def fnV (f : Nat) : Value := .func (.func f) #[] #[]
/-- a function's value that has captured one box -/
def fnB (f box : Nat) : Value := .func (.func f) #[] #[.pointer (some ⟨box, 0, none⟩)]


theorem number_any (f : Nat) (w : World) : Calls Tryd.prog 17 #[fnV f] w fun e w' => ∃ box, e = .returned (.agg #[fnB 46 box, fnB 47 box]) ∧ w.heap.size ≤ box ∧ Row w' box 57 [fnV f] ∧ Below w.heap.size w w' := by
  unfold fnV
  have Rb := Row.new w #[.func (.func f) #[] #[]] 57
  have hB : Below w.heap.size w ((w.alloc (.cells #[.func (.func f) #[] #[]] 57)).alloc (.cells #[fnB 46 w.heap.size, fnB 47 w.heap.size] 48)) := ((Below.refl _ w).alloc (Nat.le_refl _) _).alloc (by simp) _
  have Rr := Row.new (w.alloc (.cells #[.func (.func f) #[] #[]] 57)) #[fnB 46 w.heap.size, fnB 47 w.heap.size] 48
  rw [World.size_alloc] at Rr
  unfold fnB at Rr hB
  have k0 := Rr.cell (j := 0) rfl
  have k1 := Rr.cell (j := 1) rfl
  go_enter Tryd.func17, Tryd.ntmps17
  go_wp2_with fail
  refine bodyPost_ret (v := .agg #[fnB 46 w.heap.size, fnB 47 w.heap.size]) ?_ rfl ⟨w.heap.size, rfl, Nat.le_refl _, Rb.alloc _, hB⟩
  rw [results_cell rfl]
  unfold fnB
  go_simp

theorem yes_any (f : Nat) (w : World) : Calls Tryd.prog 38 #[fnV f] w fun e w' => ∃ box, e = .returned (.agg #[fnB 54 box, fnB 56 box]) ∧ w.heap.size ≤ box ∧ Row w' box 69 [fnV f] ∧ Below w.heap.size w w' := by
  unfold fnV
  have Rb := Row.new w #[.func (.func f) #[] #[]] 69
  have hB : Below w.heap.size w ((w.alloc (.cells #[.func (.func f) #[] #[]] 69)).alloc (.cells #[fnB 54 w.heap.size, fnB 56 w.heap.size] 48)) := ((Below.refl _ w).alloc (Nat.le_refl _) _).alloc (by simp) _
  have Rr := Row.new (w.alloc (.cells #[.func (.func f) #[] #[]] 69)) #[fnB 54 w.heap.size, fnB 56 w.heap.size] 48
  rw [World.size_alloc] at Rr
  unfold fnB at Rr hB
  have k0 := Rr.cell (j := 0) rfl
  have k1 := Rr.cell (j := 1) rfl
  go_enter Tryd.func38, Tryd.ntmps38
  go_wp2_with fail
  refine bodyPost_ret (v := .agg #[fnB 54 w.heap.size, fnB 56 w.heap.size]) ?_ rfl ⟨w.heap.size, rfl, Nat.le_refl _, Rb.alloc _, hB⟩
  rw [results_cell rfl]
  unfold fnB
  go_simp

theorem text_any (f : Nat) (w : World) : Calls Tryd.prog 22 #[fnV f] w fun e w' => ∃ box, e = .returned (.agg #[fnB 48 box, fnB 49 box]) ∧ w.heap.size ≤ box ∧ Row w' box 60 [fnV f] ∧ Below w.heap.size w w' := by
  unfold fnV
  have Rb := Row.new w #[.func (.func f) #[] #[]] 60
  have hB : Below w.heap.size w ((w.alloc (.cells #[.func (.func f) #[] #[]] 60)).alloc (.cells #[fnB 48 w.heap.size, fnB 49 w.heap.size] 48)) := ((Below.refl _ w).alloc (Nat.le_refl _) _).alloc (by simp) _
  have Rr := Row.new (w.alloc (.cells #[.func (.func f) #[] #[]] 60)) #[fnB 48 w.heap.size, fnB 49 w.heap.size] 48
  rw [World.size_alloc] at Rr
  unfold fnB at Rr hB
  have k0 := Rr.cell (j := 0) rfl
  have k1 := Rr.cell (j := 1) rfl
  go_enter Tryd.func22, Tryd.ntmps22
  go_wp2_with fail
  refine bodyPost_ret (v := .agg #[fnB 48 w.heap.size, fnB 49 w.heap.size]) ?_ rfl ⟨w.heap.size, rfl, Nat.le_refl _, Rb.alloc _, hB⟩
  rw [results_cell rfl]
  unfold fnB
  go_simp


theorem number1_any (f off box b : Nat) (z : Int) (w : World) (hs : SelAt f off) (hbox : w.cell? ⟨box, 0, none⟩ = some (fnV f)) (hc : w.cell? ⟨b, off, none⟩ = some (.int .i64 z)) (hz : isInt z) (hG : Gt w) :
    Calls Tryd.prog 46 #[.pointer (some ⟨b, 0, none⟩), .pointer (some ⟨box, 0, none⟩)] w fun e w' => e = .returned (.string (bs (Lib.itoa z))) ∧ Below w.heap.size w w' := by
  obtain ⟨eg, hsel⟩ := hs
  have hS := hsel b w
  have hI := itoa_any z w hz hG
  unfold fnV at hbox
  clear hsel
  go_enter Tryd.func46, Tryd.ntmps46
  go_wp2_with (first
    | (go_at_call 31; refine hI.mono ?_; rintro e w2 ⟨rfl, hb2⟩)
    | (refine hS.mono ?_; rintro e w1 ⟨rfl, rfl⟩))
  go_ret
  exact ⟨rfl, hb2⟩
theorem number2_any (f off box b : Nat) (s : List UInt8) (u : Value) (w : World) (hs : SelAt f off) (hbox : w.cell? ⟨box, 0, none⟩ = some (fnV f)) (hc : w.cell? ⟨b, off, none⟩ = some u) (hfz : w.frozen? ⟨b, off, none⟩ = false) (hl : s.length ≤ 1000000) (hG : Gt w) :
    Calls Tryd.prog 47 #[.pointer (some ⟨b, 0, none⟩), .string (bs s), .pointer (some ⟨box, 0, none⟩)] w fun e w' => e = .returned (.bool (atoiZ s).2) ∧ ∃ w2, Below w.heap.size w w2 ∧ w' = w2.setCell ⟨b, off, none⟩ (.int .i64 (atoiZ s).1) := by
  obtain ⟨eg, hsel⟩ := hs
  have hI := atoi_any s w hl hG
  unfold fnV at hbox
  go_enter Tryd.func47, Tryd.ntmps47
  go_wp2_with (go_at_call 33; refine hI.mono ?_; rintro e w2 ⟨ev, rfl, hev, hb2⟩; refine Hid.out ?_)
  refine Lib.hid ?_
  have hbox2 := (hb2.cell (p := ⟨box, 0, none⟩) (cell_lt hbox)).trans hbox
  have hc2 := (hb2.cell (p := ⟨b, off, none⟩) (cell_lt hc)).trans hc
  have hfz2 := (hb2.frozen (p := ⟨b, off, none⟩) (cell_lt hc)).trans hfz
  have hS := hsel b w2
  clear hsel hbox hc hfz hI
  obtain ⟨z, hz⟩ : ∃ z, atoiZ s = z := ⟨_, rfl⟩
  rw [hz] at hev ⊢
  obtain ⟨z1, z2⟩ := z
  simp only at hev ⊢
  rcases hev with ⟨rfl, rfl⟩ | ⟨⟨te, pe, rfl⟩, rfl⟩
  · go_wp2_with (refine hS.mono ?_; rintro e w1 ⟨rfl, rfl⟩)
    go_ret
    exact ⟨ret_bool (a := true) (by rw [hz]), _, hb2, by rw [hz]⟩
  · go_wp2_with (refine hS.mono ?_; rintro e w1 ⟨rfl, rfl⟩)
    go_ret
    exact ⟨ret_bool (a := false) (by rw [hz]), _, hb2, by rw [hz]⟩
theorem yes1_any (f off box b : Nat) (z : Bool) (w : World) (hs : SelAt f off) (hbox : w.cell? ⟨box, 0, none⟩ = some (fnV f)) (hc : w.cell? ⟨b, off, none⟩ = some (.bool z)) :
    Calls Tryd.prog 54 #[.pointer (some ⟨b, 0, none⟩), .pointer (some ⟨box, 0, none⟩)] w fun e w' => e = .returned (.string (bs (tru z))) ∧ Below w.heap.size w w' := by
  obtain ⟨eg, hsel⟩ := hs
  have hS := hsel b w
  have hI := tale_truth_any z w
  unfold fnV at hbox
  clear hsel
  go_enter Tryd.func54, Tryd.ntmps54
  go_wp2_with (first
    | (go_at_call 55; refine hI.mono ?_; rintro e w2 ⟨rfl, rfl⟩)
    | (refine hS.mono ?_; rintro e w1 ⟨rfl, rfl⟩))
  go_ret
  exact ⟨rfl, Below.refl _ _⟩
theorem yes2_any (f off box b : Nat) (s : List UInt8) (u : Value) (w : World) (hs : SelAt f off) (hbox : w.cell? ⟨box, 0, none⟩ = some (fnV f)) (hc : w.cell? ⟨b, off, none⟩ = some u) (hfz : w.frozen? ⟨b, off, none⟩ = false) :
    Calls Tryd.prog 56 #[.pointer (some ⟨b, 0, none⟩), .string (bs s), .pointer (some ⟨box, 0, none⟩)] w fun e w' => e = .returned (.bool true) ∧ w' = w.setCell ⟨b, off, none⟩ (.bool (decide (s = [49]))) := by
  obtain ⟨eg, hsel⟩ := hs
  have hS := hsel b w
  unfold fnV at hbox
  clear hsel
  have hd : (s == [49]) = decide (s = [49]) := by rw [Bool.eq_iff_iff]; simp
  go_enter Tryd.func56, Tryd.ntmps56
  go_wp2_with (refine hS.mono ?_; rintro e w1 ⟨rfl, rfl⟩)
  go_ret
  exact ⟨rfl, rfl⟩
theorem text1_any (f off box b : Nat) (l : List UInt8) (w : World) (hs : SelAt f off) (hbox : w.cell? ⟨box, 0, none⟩ = some (fnV f)) (hc : w.cell? ⟨b, off, none⟩ = some (.string (bs l))) (hl : l.length ≤ 1000000) :
    Calls Tryd.prog 48 #[.pointer (some ⟨b, 0, none⟩), .pointer (some ⟨box, 0, none⟩)] w fun e w' => e = .returned (.string (bs (hexL l))) ∧ Below w.heap.size w w' := by
  obtain ⟨eg, hsel⟩ := hs
  have hS := hsel b w
  unfold fnV at hbox
  clear hsel
  obtain ⟨c, X, fr, hcv, hlc, hRb⟩ := conv_bytes (P := Tryd.prog) (src := 9) (dst := 22) (e := 5) Tryd.underlying9 Tryd.underlying22 Tryd.underlying5 l w
  have hB : Below w.heap.size w (w.drew.alloc (.cells X 5 fr)) := (Below.refl _ w).drew.alloc (Nat.le_refl _) _
  have hH := hex_any (some ⟨w.heap.size, 0, none⟩) l l.length c _ rfl hRb hl
  go_enter Tryd.func48, Tryd.ntmps48
  go_wp2_with (first
    | (go_at_call 25; refine hH.mono ?_; rintro e w2 ⟨rfl, hb2⟩)
    | (refine hS.mono ?_; rintro e w1 ⟨rfl, rfl⟩))
  go_ret
  exact ⟨rfl, hB.trans (hb2.mono hB.size)⟩
theorem text2_any (f off box b : Nat) (s : List UInt8) (u : Value) (w : World) (hs : SelAt f off) (hbox : w.cell? ⟨box, 0, none⟩ = some (fnV f)) (hc : w.cell? ⟨b, off, none⟩ = some u) (hfz : w.frozen? ⟨b, off, none⟩ = false) (hl : s.length ≤ 1000000) :
    Calls Tryd.prog 49 #[.pointer (some ⟨b, 0, none⟩), .string (bs s), .pointer (some ⟨box, 0, none⟩)] w fun e w' => e = .returned (.bool (unhexL s).2) ∧ ∃ w2, Below w.heap.size w w2 ∧ w' = w2.setCell ⟨b, off, none⟩ (.string (bs (unhexL s).1)) := by
  obtain ⟨eg, hsel⟩ := hs
  have hI := unhex_any s w hl
  unfold fnV at hbox
  go_enter Tryd.func49, Tryd.ntmps49
  go_wp2_with (go_at_call 27; refine hI.mono ?_; rintro e w2 ⟨A, c, rfl, hlc, hRb, _, hb2⟩; refine Hid.out ?_)
  refine Lib.hid ?_
  have hbox2 := (hb2.cell (p := ⟨box, 0, none⟩) (cell_lt hbox)).trans hbox
  have hc2 := (hb2.cell (p := ⟨b, off, none⟩) (cell_lt hc)).trans hc
  have hfz2 := (hb2.frozen (p := ⟨b, off, none⟩) (cell_lt hc)).trans hfz
  have hS := hsel b
  have hcv := fun W (h : Rb W A (unhexL s).1) => conv_str (P := Tryd.prog) (src := 22) (dst := 9) (e := 5) Tryd.underlying22 Tryd.underlying5 Tryd.underlying9 (c := c) h rfl
  have hcv2 := hcv w2.drew hRb
  have hcell : w2.drew.cell? ⟨box, 0, none⟩ = some (.func (.func f) #[] #[]) := hbox2
  have hcd : w2.drew.cell? ⟨b, off, none⟩ = some u := hc2
  have hfd : w2.drew.frozen? ⟨b, off, none⟩ = false := hfz2
  have hBd : Below w.heap.size w w2.drew := hb2.drew
  clear hsel hbox hc hfz hI hcv
  go_upto_region 2 with fail
  go_region_with ((refine (hS _).mono ?_; rintro e w1 ⟨rfl, rfl⟩))
  all_goals
    go_wp2_with fail
    go_ret
    exact ⟨rfl, _, hBd, rfl⟩


end Go.Proofs.YtleolfpgiaimfaaDoor
