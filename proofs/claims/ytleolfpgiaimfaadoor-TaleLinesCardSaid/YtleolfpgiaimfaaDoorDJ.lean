/- An event as a line, where its kind has a form; whatever its kind. -/
import Derived.Test.YtleolfpgiaimfaaDoorDI
namespace Go.Proofs.YtleolfpgiaimfaaDoor
set_option linter.unusedVariables false
set_option linter.unusedSimpArgs false
open Go.RowKit Go.Shelf

/-- a look, behind a new block too -/
theorem look_hit2 {w : World} {B clock : Nat} {es : Array MapEntry} (h : FormsAt w B es clock) {k : Int} {word : List UInt8} {fs : List Fk} (hf : formL k = some (word, fs)) :
    ∃ s, SlcOk w fs s ∧ (Instr.lookup 42 (.map (some B)) (.int .i64 k) true).run Tryd.prog w = .ok (.tuple #[.agg #[.string (bs word), s], .bool true]) w ∧ ∀ o, (Instr.lookup 42 (.map (some B)) (.int .i64 k) true).run Tryd.prog (w.alloc o) = .ok (.tuple #[.agg #[.string (bs word), s], .bool true]) (w.alloc o) := by
  obtain ⟨hw, hes, _, hall⟩ := h
  obtain ⟨j, e, h1, h2, h3⟩ := find_hit k es.toList 0 (fun e he => by obtain ⟨k', g, _⟩ := hes e he; exact ⟨k', g⟩) (hall k _ hf)
  obtain ⟨k', g1, g2, _⟩ := hes e h2
  rw [h3] at g1
  cases g1
  obtain ⟨s, e1, e2⟩ := frm_kind g2 hf
  rw [e1] at h1
  exact ⟨s, e2, run_look_hit w _ _ _ B clock j es k _ Tryd.underlying42 Tryd.underlying3 hw h1, fun o => run_look_hit (w.alloc o) _ _ _ B clock j es k _ Tryd.underlying42 Tryd.underlying3 ((Below.heap_alloc w o B (Array.getElem?_eq_some_iff.1 hw).1).trans hw) h1⟩

theorem BoxOk.setf {w : World} {x : Fk} {box p : Nat} {cs : List Value} (h : BoxOk w x box) (hp : Row w p 40 cs) (j : Nat) (v : Value) : BoxOk (w.setCell ⟨p, j, none⟩ v) x box := fun t f e => by
  refine (h t f e).far (fun e2 => ?_) v
  have h1 := h t f e
  have e3 : p = box := e2
  rw [e3] at hp
  have h2 := hp.symm.trans h1
  revert e
  cases x <;> simp [boxC] <;> (intro e _; subst e; simp at h2)
theorem word_len (E : Ev) (hok : E.Ok) (hsz : E.Sz) (x : Fk) : (x.word E).length ≤ 2000001 := by
  have hi : ∀ z, isInt z → (Lib.itoa z).length ≤ 2000001 := fun z h => by
    have := Lib.itoa_length_le z h.1 h.2
    omega
  have hh : ∀ l : List UInt8, l.length ≤ 1000000 → (hexL l).length ≤ 2000001 := fun l h => by
    have := hexL_len l
    omega
  have ht : ∀ b, (tru b).length ≤ 2000001 := fun b => by
    unfold tru
    split <;> simp
  cases x <;> simp only [Fk.word]
  · exact hi _ hok.who
  · exact hi _ hok.dst
  · exact hi _ hok.n
  · exact hi _ hok.m
  · exact hh _ hsz.thread
  · exact hh _ hsz.body
  · exact ht _
  · exact ht _
  · exact hi _ (isInt_byte _)
  · exact hh _ (by rw [hok.fresh]; omega)
  · exact hi _ hok.rk
  · exact hi _ hok.rn
  · exact hi _ hok.rm
  · exact hh _ hsz.rt
theorem sum_words (E : Ev) (hok : E.Ok) (hsz : E.Sz) : ∀ fs : List Fk, ((fs.map (·.word E)).map List.length).sum ≤ 2000001 * fs.length
  | [] => by simp
  | x :: fs => by
    have h1 := word_len E hok hsz x
    have h2 := sum_words E hok hsz fs
    simp only [List.map_cons, List.sum_cons, List.length_cons]
    omega
theorem line_len (E : Ev) (hok : E.Ok) (hsz : E.Sz) : (lineL E).length ≤ 50000000 := by
  unfold lineL
  cases hf : formL E.kind with
  | none => simp
  | some p =>
    obtain ⟨w, fs⟩ := p
    simp only
    have h1 := joinW_len (w :: fs.map (·.word E))
    have h2 := sum_words E hok hsz fs
    have h3 : fs.length ≤ 6 := by
      rcases formL_some hf with h | h | h | h | h | h | h | h | h <;> (rw [h] at hf; cases hf; decide)
    have h4 : w.length ≤ 10 := by
      rcases formL_some hf with h | h | h | h | h | h | h | h | h <;> (rw [h] at hf; cases hf; decide)
    simp only [List.length_cons, List.length_map, List.map_cons, List.sum_cons] at h1
    simp only [List.map_map] at h1 h2
    omega
theorem fvs_fn (x : Fk) (box : Nat) : ∃ f caps, (fvs x box).2 = .func (.func f) #[] caps := by
  cases x <;> exact ⟨_, _, rfl⟩
theorem form_len {k : Int} {w : List UInt8} {fs : List Fk} (h : formL k = some (w, fs)) : fs.length ≤ 6 := by
  rcases formL_some h with rfl | rfl | rfl | rfl | rfl | rfl | rfl | rfl | rfl <;> cases h <;> decide
set_option maxRecDepth 100000 in
set_option maxHeartbeats 2000000 in
theorem line_some (E : Ev) (A : Option Addr) (c : Nat) (w : World) (word : List UInt8) (fs : List Fk) (hf : formL E.kind = some (word, fs)) (hsz : E.Sz) (hok : E.Ok) (hfit : E.body.length ≤ c) (hR : Rb w A E.body) (hG : Gt w) :
    Calls Tryd.prog 6 #[.agg (evl E (.slice A E.body.length c)).toArray] w fun e w' => e = .returned (.string (bs (lineL E))) ∧ Below w.heap.size w w' := by
  have hr0 : Row (w.alloc (.cells (evl E (.slice A E.body.length c)).toArray 28)) w.heap.size 28 (evl E (.slice A E.body.length c)) := Row.new w _ _
  have k0 := hr0.cell (j := 0) rfl
  have hB0 : Below w.heap.size w (w.alloc (.cells (evl E (.slice A E.body.length c)).toArray 28)) := (Below.refl _ w).alloc (Nat.le_refl _) _
  obtain ⟨X, hX⟩ : ∃ X, (evl E (.slice A E.body.length c)).toArray = X := ⟨_, rfl⟩
  have hx : lineL E = joinW (word :: fs.map (·.word E)) := by unfold lineL; rw [hf]
  rw [hX] at k0 hB0 ⊢
  have HX := Lib.hid hX
  have hE0 : EvR (w.alloc (.cells X 28)) w.heap.size E A c := ⟨by rw [← hX]; exact hr0, hfit, hR.below hB0⟩
  have HX2 := Lib.hid hx
  clear hX hx hr0
  obtain ⟨z, hz⟩ : ∃ z, E.kind = z := ⟨_, rfl⟩
  rw [hz] at k0 hf
  clear hz
  have hforms := forms_any
  have kz0 := fun W => (form_new W).cell (j := 0) rfl
  have kz1 := fun W => (form_new W).cell (j := 1) rfl
  have fz0 := fun W => (form_new W).frozen 0
  have fz1 := fun W => (form_new W).frozen 1
  go_enter Tryd.func6, Tryd.ntmps6
  go_upto_region 1 with fail
  obtain ⟨w1, hw1⟩ : ∃ w1, w.alloc (.cells X 28) = w1 := ⟨_, rfl⟩
  obtain ⟨b, hb⟩ : ∃ b, w.heap.size = b := ⟨_, rfl⟩
  rw [hw1] at k0 hB0 hE0 ⊢
  rw [hb] at k0 hE0 ⊢
  have kd : w1.drew.cell? ⟨b, 0, none⟩ = some (.int .i64 z) := k0
  have ltb : b < w1.heap.size := cell_lt k0
  have hne : w1.heap.size ≠ b := by omega
  have hBd : Below w1.heap.size w1 w1.drew := (Below.refl _ w1).drew
  clear hw1
  go_cut [3, 4] (fun s3 s4 wx => ∃ p s, s3 = .pointer (some ⟨p, 0, none⟩) ∧ s4 = .bool true ∧ Row wx p 40 [.string (bs word), s] ∧ SlcOk wx fs s ∧ EvR wx b E A c ∧ Below w.heap.size w wx)
  case first =>
    go_region_held3 (fun W => W.cell? ⟨b, 0, none⟩ = some (.int .i64 z)) (first | with_reducible assumption | exact cell_al _ (by with_reducible assumption) | exact (World.cell?_setCell_far _ _ _ _ hne).trans ((World.cell?_setCell_far _ _ _ _ hne).trans (by with_reducible assumption))) (first
      | (go_at_call 11; refine (hforms _).mono ?_; rintro e wf ⟨B, es, clock, rfl, hBf, hF, hbf⟩; have kf := (hbf.cell (p := ⟨b, 0, none⟩) (by first | exact ltb | (simp; omega))).trans (by first | with_reducible assumption | exact cell_al _ (by with_reducible assumption)); obtain ⟨sl, hsl, hlook, hlook2⟩ := look_hit2 hF hf; obtain ⟨sg, scs, rfl, hsr, hsi⟩ := hsl; try (have m0 := (hbf.cell (p := ⟨w1.heap.size, 0, none⟩) (by simp)).trans (kz0 w1.drew); have m1 := (hbf.cell (p := ⟨w1.heap.size, 1, none⟩) (by simp)).trans (kz1 w1.drew); have m2 := (hbf.frozen (p := ⟨w1.heap.size, 0, none⟩) (by simp)).trans (fz0 w1.drew); have m3 := (hbf.frozen (p := ⟨w1.heap.size, 1, none⟩) (by simp)).trans (fz1 w1.drew))))
    all_goals
      go_wp2_with fail
      go_meet
      refine ⟨_, .slice (some ⟨sg, 0, none⟩) fs.length fs.length, rfl, rfl, ?_⟩
      have hEd : EvR w1.drew b E A c := ⟨hE0.row, hE0.fit, hE0.body⟩
      first
      | (have hq := (hB0.drew.trans (hbf.mono hB0.drew.size))
         have hEf : EvR wf b E A c := ⟨hEd.row.below hbf, hEd.fit, hEd.body.below hbf⟩
         have ha : Below wf.heap.size wf (wf.alloc (.cells #[.string (bs word), .slice (some ⟨sg, 0, none⟩) fs.length fs.length] 40)) := (Below.refl _ wf).alloc (Nat.le_refl _) _
         exact ⟨Row.new wf _ _, ⟨sg, scs, rfl, hsr.below ha, fun i x hx => by obtain ⟨bx, a1, a2, a3⟩ := hsi i x hx; exact ⟨bx, a1, a2, a3.keep (KeepC.below ha)⟩⟩, ⟨hEf.row.below ha, hEf.fit, hEf.body.below ha⟩, hq.trans (ha.mono hq.size)⟩)
      | (have hqa := (hB0.alloc hB0.size (.cells #[.string ⟨#[]⟩, .slice none 0 0] 40)).drew
         have hq := hqa.trans (hbf.mono hqa.size)
         have hrz : Row wf w1.heap.size 40 [.string ⟨#[]⟩, .slice none 0 0] := Row.below (w := (w1.alloc (.cells #[.string ⟨#[]⟩, .slice none 0 0] 40)).drew) (form_new w1) hbf
         have hEz : EvR (w1.alloc (.cells #[.string ⟨#[]⟩, .slice none 0 0] 40)).drew b E A c := ⟨hE0.row.alloc _, hE0.fit, hE0.body.below ((Below.refl _ w1).alloc (Nat.le_refl _) _).drew⟩
         have hEf : EvR wf b E A c := ⟨hEz.row.below hbf, hEz.fit, hEz.body.below hbf⟩
         have hqF : Below w.heap.size w ((wf.setCell ⟨w1.heap.size, 0, none⟩ (.string (bs word))).setCell ⟨w1.heap.size, 1, none⟩ (.slice (some ⟨sg, 0, none⟩) fs.length fs.length)) := (hq.setCell hB0.size _).setCell hB0.size _
         have hsg : w1.heap.size ≠ sg := fun e => by
           have h1 := hrz
           rw [e] at h1
           have h2 := h1.symm.trans hsr
           simp at h2
         have hrz1 := hrz.set 0 (.string (bs word))
         exact ⟨hrz1.set 1 _, ⟨sg, scs, rfl, (hsr.far hsg _).far hsg _, fun i x hx => by obtain ⟨bx, a1, a2, a3⟩ := hsi i x hx; exact ⟨bx, a1, a2, (a3.setf hrz _ _).setf hrz1 _ _⟩⟩, ⟨(hEf.row.far hne _).far hne _, hEf.fit, hR.below hqF⟩, hqF⟩)
  case rest =>
    obtain ⟨p, s, rfl, rfl, hp, hsl, hE, hB⟩ := hcut
    obtain ⟨sg, scs, rfl, hsr, hsi⟩ := hsl
    have p0 := hp.cell (j := 0) rfl
    have p1 := hp.cell (j := 1) rfl
    obtain ⟨w2, hw2⟩ : ∃ w2, w2 = wc := ⟨_, rfl⟩
    rw [← hw2] at hp hsr hsi hE hB p0 p1 ⊢
    clear hw2
    obtain ⟨n, hn⟩ : ∃ n, fs.length = n := ⟨_, rfl⟩
    rw [hn] at p1 hp
    have HN := Lib.hid hn
    clear hn
    have p1a := cell_al (.cells #[.string (bs word)] 9) p1
    have hown0 := World.ownsRow_lit (base := w2.heap.size) (e := 9) (size := 1) w2 #[sv word] 1 (Nat.le_refl _) (by unfold maxLen; omega) rfl
    have hsiH := Lib.hid hsi
    have HP := Lib.hid (show n ≤ 6 from by rw [← HN.out]; exact form_len hf)
    clear hsi
    go_wp2_with fail
    go_loopw [5, 23] (fun v i wr => ∃ k : Nat, i = .int .i64 k ∧ k ≤ n ∧ wr.ownsRow w2.heap.size 9 1 v (k + 1) ((word :: (fs.take k).map (·.word E)).map sv) ∧ Below w2.heap.size w2 wr) (fun _ i _ => n - (intOf i).toNat)
    case atStart => exact ⟨0, rfl, by omega, hown0, (Below.refl _ w2).alloc (Nat.le_refl _) _⟩
    case round =>
      obtain ⟨k, rfl, hk, hown, hBk⟩ := hrel
      have hownk := hown
      obtain ⟨Ao, co, rfl, hco, hcm, hRo, hlo⟩ := own_form hown
      have HO := Lib.hid hRo
      clear hRo hlo
      by_cases hlt : k < n
      · obtain ⟨x, hx⟩ : ∃ x, fs[k]? = some x := ⟨_, List.getElem?_eq_getElem (by rw [HN.out]; exact hlt)⟩
        obtain ⟨bx, h1, h2, h3⟩ := hsiH.out k x hx
        have hsr2 := hsr.below hBk
        have c1 := hsr2.cell h1
        have c2 := hsr2.cell h2
        rw [Nat.mul_comm] at c1 c2
        have HTK : Hid ((word :: (fs.take (k + 1)).map (·.word E)).map sv = (word :: (fs.take k).map (·.word E)).map sv ++ [sv (x.word E)]) := Lib.hid (by
          rw [take_succ_of hx]
          simp)
        obtain ⟨f1, hf1⟩ : ∃ f1, (fvs x bx).1 = f1 := ⟨_, rfl⟩
        obtain ⟨f2, hf2⟩ : ∃ f2, (fvs x bx).2 = f2 := ⟨_, rfl⟩
        rw [hf1] at c1
        rw [hf2] at c2
        obtain ⟨g2, caps2, hg2⟩ := fvs_fn x bx
        rw [hf2] at hg2
        subst hg2
        have hBa : Below wr.heap.size wr (wr.alloc (.cells #[f1, .func (.func g2) #[] caps2] 48)) := (Below.refl _ wr).alloc (Nat.le_refl _) _
        have hE1 : EvR (wr.alloc (.cells #[f1, .func (.func g2) #[] caps2] 48)) b E A c := ⟨(hE.row.below hBk).below hBa, hE.fit, (hE.body.below hBk).below hBa⟩
        have hG1 : Gt (wr.alloc (.cells #[f1, .func (.func g2) #[] caps2] 48)) := ((hG.below hB).below hBk).below hBa
        have hdo := word_any x bx b c E A _ ((h3.keep (KeepC.below hBk)).keep (KeepC.below hBa)) hE1 hok hsz hG1
        rw [hf1] at hdo
        obtain ⟨f, caps, rfl, hent, hcall⟩ := hdo
        have r1 := Row.new wr #[.func (.func f) #[] caps, .func (.func g2) #[] caps2] 48
        have n0 := r1.cell (j := 0) rfl
        have n1 := r1.cell (j := 1) rfl
        have HX := Lib.hid hx
        have HK6 := HP.out
        have hs2 := hBk.size
        clear hsiH h1 h2 h3 hf1 hf2 hown0 hE1 hG1 hx r1 hp p0 p1 p1a HN HX2 HP
        go_wp2_with (first
          | (refine hcall.mono ?_; rintro e w4 ⟨rfl, hb4⟩; have hB4 := hBa.trans (hb4.mono hBa.size); have hown4 := own_below hown hB4; have hs4 := hB4.size; have hownA := hown4.alloc (.cells #[sv (x.word E)] 9); have hsA : Src Tryd.prog 1 44 (.slice (some ⟨w4.heap.size, 0, none⟩) 1 1) 1 [sv (x.word E)] (w4.alloc (.cells #[sv (x.word E)] 9)) := Src_rv (news := [sv (x.word E)]) Tryd.underlying44 rfl (Rv_new w4 _ _ _ rfl) (by simp [Value.oneCell', sv]) (by omega); have hBA := (hBk.trans (hB4.mono hBk.size)).alloc (by omega) (.cells #[sv (x.word E)] 9); have hzA := hBA.size)
          | (at_builtin; refine wpList_app rfl (.tmp 27) (.tmp 31) _ _ rfl TStr hownA rfl hsA rfl (by omega) hzA ?_; intro v2 w5 own5 gr5 at5; have B5 := below_app hBA hownA gr5 hzA (Nat.le_refl _)))
        go_roundw
        case rel => exact ⟨k + 1, by go_num, by omega, by rw [HTK.out]; exact own5, B5⟩
        case measure => simp [intOf]; omega
      · obtain rfl : k = n := by omega
        have hall : fs.take k = fs := take_all fs (by rw [HN.out]; exact Nat.le_refl _)
        have hRo := HO.out
        rw [hall] at hRo
        have hJ := join_any (word :: fs.map (·.word E)) Ao (k + 1) co wr (by rw [List.length_cons, List.length_map, HN.out]) (by omega) hRo hco (by have := line_len E hok hsz; rw [← HX2.out]; omega) (by have := HP.out; omega)
        clear hsiH hown0 hp p0 p1 p1a HO hRo hall hsr hown
        go_wp2_with (refine hJ.mono ?_; rintro e w4 ⟨rfl, hb4⟩)
        go_ret
        exact ⟨ret_str (by rw [HX2.out]), hB.trans ((hBk.trans (hb4.mono hBk.size)).mono hB.size)⟩

theorem line_any (E : Ev) (A : Option Addr) (c : Nat) (w : World) (hsz : E.Sz) (hok : E.Ok) (hfit : E.body.length ≤ c) (hR : Rb w A E.body) (hG : Gt w) :
    Calls Tryd.prog 6 #[.agg (evl E (.slice A E.body.length c)).toArray] w fun e w' => e = .returned (.string (bs (lineL E))) ∧ Below w.heap.size w w' := by
  cases hf : formL E.kind with
  | none => exact line_none E A c w hf hok hfit hR hG
  | some p => exact line_some E A c w p.1 p.2 hf hsz hok hfit hR hG

end Go.Proofs.YtleolfpgiaimfaaDoor
