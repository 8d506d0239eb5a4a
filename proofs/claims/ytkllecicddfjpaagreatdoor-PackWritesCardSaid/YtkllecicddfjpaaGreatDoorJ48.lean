/- The walk of the law, part 48. -/
import Derived.Test.YtkllecicddfjpaaGreatDoorJ47
import Derived.Laws.Cover2
import Derived.Laws.StructEq
import Derived.Test.YtkllecicddfjpaaGreatDoorJ37
import Derived.Test.YtkllecicddfjpaaGreatDoorJ43
import Derived.Test.YtkllecicddfjpaaGreatDoorJ16
import Derived.Deep.RegionHeld3
import Derived.Deep.RegionHeldLaw
import Derived.BigQuiet
set_option maxRecDepth 100000
set_option maxHeartbeats 16000000
set_option linter.unusedVariables false
set_option linter.unusedSimpArgs false
namespace Go.Proofs.YtkllecicddfjpaaGreatDoor
section
open Go.RowKit
def RdOut (x : En) (w' : World) (e : Ending) : Prop :=
 ∃ A5 c5 A6 c6,e = .returned (.tuple #[env x A5 c5 A6 c6,.int .i64 0]) ∧ Rb w' A5 x.bun ∧ x.bun.length ≤ c5 ∧ Rb w' A6 x.cip ∧ x.cip.length ≤ c6
theorem who_ok {s : List UInt8} (h : adB s = true) : whoP s = (s,true) := by unfold whoP; rw [ad_one h]
theorem one_ok {s : List UInt8} (h : Pk.idOk s = true) : oneP ([60] ++ s ++ [62]) = (s,true) := by
 unfold oneP
 rw [id_one h]
 simp only [h]
theorem eq4 (w : World) : (Op.equalIn 10000 80 (.agg #[.bool true,.bool true,.bool true,.bool true]) (.agg #[.bool true,.bool true,.bool true,.bool true])).run Tryz.prog w = .ok true w := by
 have u3 := Tryz.underlying4
 have a3 := Tryz.isAgg4
 have z3 := Tryz.sizeOf4
 rw [show (10000 : Nat) = 9999 + 1 from rfl,Op.equalIn]
 simp only [Sem.run_bind,run_underlying Tryz.underlying80,Result.andThen_ok]
 simp only [Std.Legacy.Range.forIn_eq_forIn_range',Std.Legacy.Range.size,Nat.sub_zero,Nat.add_sub_cancel,Nat.div_one,List.range'_succ,List.range'_zero,List.forIn_cons,List.forIn_nil]
 go_simp
theorem env_nb {l : List UInt8} (a b c d : ByteArray) (p : Bool) (A : Option Addr) (n k : Nat) (B : Option Addr) (m j : Nat) : ∀ v ∈ [Value.string a,.string b,.string c,.string d,.bool p,.slice A n k,.slice B m j],∀ y ∈ l.map bv,v ≠ y := by
 intro v hv y hy
 obtain ⟨z,_,rfl⟩ := List.mem_map.1 hy
 simp only [List.mem_cons,List.mem_nil_iff,or_false] at hv
 rcases hv with rfl | rfl | rfl | rfl | rfl | rfl | rfl <;> (unfold bv; intro h; cases h)
theorem Row.same {w : World} {g : Nat} {t : TypeId} {cs : List Value} (r : Row w g t cs) {j : Nat} {v : Value} (h : cs[j]? = some v) : Row (w.setCell ⟨g,j,none⟩ v) g t cs := by
 have h2 := r.set j v
 have e : cs.set j v = cs := by
  apply List.ext_getElem?
  intro i
  rw [List.getElem?_set]
  split
  ·rename_i hij
   subst hij
   split
   ·exact h.symm
   ·rename_i hl
    rw [List.getElem?_eq_none (by omega)] at h
    cases h
  ·rfl
 rw [e] at h2
 exact h2
theorem nob_enc' (xs : List UInt8) : Ar.nob (Ar.enc xs) = Ar.enc xs := by
 unfold Ar.nob
 rw [List.filter_eq_self]
 intro c hc
 simp [Ar.enc_nob xs c hc]
theorem pread_any (x : En) (he : enB x = true) (hbun : x.bun.length ≤ 3000) (hfr : x.fr.length ≤ 300) (hto : x.too.length ≤ 300) (hcip : x.cip.length ≤ 3000) (A : Option Addr) (n c : Nat) (B : Option Addr) (n2 c2 : Nat) (w : World)
 (hn : (packM x).1.length = n) (hn2 : (packM x).2.length = n2) (hG : Gm w) (hA : Fd.Rf w A (packM x).1) (hB : Rb w B (packM x).2) (h2 : n2 ≤ c2) (h3 : c2 ≤ maxLen) (hpl : Pl B c2) :
 Calls Tryz.prog 22 #[.agg #[.slice A n c,.slice B n2 c2]] w fun e w' => RdOut x w' e ∧ Below w.heap.size w w' := by
 obtain ⟨vf,vt,vi,vh,vk⟩ := vals_pack x
 have g1 : val1 frN (packM x).1 = x.fr := by unfold val1; rw [vf]; rfl
 have g2 : val1 toN (packM x).1 = x.too := by unfold val1; rw [vt]; rfl
 have g3 : val1 midN (packM x).1 = [60] ++ x.id ++ [62] := by unfold val1; rw [vi]; rfl
 have g4 : val1 thrN (packM x).1 = [60] ++ x.th ++ [62] := by unfold val1; rw [vh]; rfl
 have hen := he
 unfold enB at hen
 simp only [Bool.and_eq_true] at hen
 obtain ⟨⟨⟨a1,a2⟩,a3⟩,a4⟩ := hen
 have l3 := id_len a3
 have l4 := id_len a4
 obtain ⟨_,_,hn7,hb2⟩ := pack_mb he hbun hfr hto hcip
 rw [hn] at hn7
 rw [hn2] at hb2
 have c1 : ∀ W,Below w.heap.size w W → Calls Tryz.prog 41 #[.agg #[.slice A n c,.slice B n2 c2],.string (bs frN)] W fun e w' => e = .returned (.tuple #[.string (bs x.fr),.bool true]) ∧ Below W.heap.size W w' := fun W hW => by
  have h := who_any A B (packM x).1 frN n c n2 c2 W hn (hA.below hW) (hG.below hW) (by simp) (by omega) (by rw [g1]; omega)
  rw [g1,who_ok a1] at h
  exact h
 have c2' : ∀ W,Below w.heap.size w W → Calls Tryz.prog 41 #[.agg #[.slice A n c,.slice B n2 c2],.string (bs toN)] W fun e w' => e = .returned (.tuple #[.string (bs x.too),.bool true]) ∧ Below W.heap.size W w' := fun W hW => by
  have h := who_any A B (packM x).1 toN n c n2 c2 W hn (hA.below hW) (hG.below hW) (by simp) (by omega) (by rw [g2]; omega)
  rw [g2,who_ok a2] at h
  exact h
 have c3 : ∀ W,Below w.heap.size w W → Calls Tryz.prog 42 #[.agg #[.slice A n c,.slice B n2 c2],.string (bs midN)] W fun e w' => e = .returned (.tuple #[.string (bs x.id),.bool true]) ∧ Below W.heap.size W w' := fun W hW => by
  have h := one_any A B (packM x).1 midN n c n2 c2 W hn (hA.below hW) (hG.below hW) (by simp) (by omega) (by rw [g3]; simp; omega) (by
   intro ids h
   rw [g3,id_one a3] at h
   cases h
   exact ⟨by simp,fun i hi => by simp at hi; subst hi; omega⟩)
  rw [g3,one_ok a3] at h
  exact h
 have c4 : ∀ W,Below w.heap.size w W → Calls Tryz.prog 42 #[.agg #[.slice A n c,.slice B n2 c2],.string (bs thrN)] W fun e w' => e = .returned (.tuple #[.string (bs x.th),.bool true]) ∧ Below W.heap.size W w' := fun W hW => by
  have h := one_any A B (packM x).1 thrN n c n2 c2 W hn (hA.below hW) (hG.below hW) (by simp) (by omega) (by rw [g4]; simp; omega) (by
   intro ids h
   rw [g4,id_one a4] at h
   cases h
   exact ⟨by simp,fun i hi => by simp at hi; subst hi; omega⟩)
  rw [g4,one_ok a4] at h
  exact h
 have c5 : ∀ W,Below w.heap.size w W → Calls Tryz.prog 43 #[.agg #[.slice A n c,.slice B n2 c2],.string (bs keyN)] W fun e w' => (∃ b,e = .returned (.tuple #[.string (bs (Ar.enc x.bun)),.bool b])) ∧ Below W.heap.size W w' := fun W hW => by
  have h := Fd.get_any A B (packM x).1 keyN n c n2 c2 W hn (hA.below hW) (tabs_below hG.tabs hW) (by simp) (by omega)
  refine h.mono ?_
  rintro e w1 ⟨hgo,hb1⟩
  obtain ⟨bo,hgo⟩ := get_form hgo
  rw [vk] at hgo
  exact ⟨⟨bo,hgo⟩,hb1⟩
 have c6 : ∀ W,Below w.heap.size w W → Calls Tryz.prog 15 #[.agg #[.slice A n c,.slice B n2 c2]] W fun e w' => ROut (.ok (partR x)) W.heap.size w' e ∧ Below W.heap.size W w' := fun W hW =>
  mp_any x hcip A n c B n2 c2 W hn (by omega) hn2 (hG.below hW) (hA.below hW) (hB.below hW) h2 h3 hpl
 have hel := enc_len3 hbun
 have HX1 := Lib.hid g1
 clear g1 g2 g3 g4 vf vt vi vh vk hn hn2 a1 a2 a3 a4 he hb2
 go_enter Tryz.func22,Tryz.ntmps22
 have hB : Below w.heap.size w (((w.alloc (.cells #[.slice A n c,.slice B n2 c2] 39)).alloc (.cells #[.string ⟨#[]⟩,.string ⟨#[]⟩,.string ⟨#[]⟩,.string ⟨#[]⟩,.bool false,.slice none 0 0,.slice none 0 0] 24)).alloc (.cells #[.bool false,.bool false,.bool false,.bool false] 80)) := (((Below.refl _ _).alloc (Nat.le_refl _) _).alloc (by simp) _).alloc (by simp; omega) _
 have rL := ((Row.new w #[.slice A n c,.slice B n2 c2] 39).alloc (.cells #[.string ⟨#[]⟩,.string ⟨#[]⟩,.string ⟨#[]⟩,.string ⟨#[]⟩,.bool false,.slice none 0 0,.slice none 0 0] 24)).alloc (.cells #[.bool false,.bool false,.bool false,.bool false] 80)
 have rE := (Row.new (w.alloc (.cells #[.slice A n c,.slice B n2 c2] 39)) #[.string ⟨#[]⟩,.string ⟨#[]⟩,.string ⟨#[]⟩,.string ⟨#[]⟩,.bool false,.slice none 0 0,.slice none 0 0] 24).alloc (.cells #[.bool false,.bool false,.bool false,.bool false] 80)
 have rR := Row.new ((w.alloc (.cells #[.slice A n c,.slice B n2 c2] 39)).alloc (.cells #[.string ⟨#[]⟩,.string ⟨#[]⟩,.string ⟨#[]⟩,.string ⟨#[]⟩,.bool false,.slice none 0 0,.slice none 0 0] 24)) #[.bool false,.bool false,.bool false,.bool false] 80
 simp only [World.size_alloc] at rE rR
 go_wp2_with fail
 generalize (((w.alloc (.cells #[.slice A n c,.slice B n2 c2] 39)).alloc (.cells #[.string ⟨#[]⟩,.string ⟨#[]⟩,.string ⟨#[]⟩,.string ⟨#[]⟩,.bool false,.slice none 0 0,.slice none 0 0] 24)).alloc (.cells #[.bool false,.bool false,.bool false,.bool false] 80)) = W0 at *
 refine (c1 _ hB).mono ?_
 rintro e wq ⟨rfl,hbq⟩
 have rL' := rL.below hbq
 have rE' := rE.below hbq
 have rR' := rR.below hbq
 have hB' := hB.trans (hbq.mono hB.size)
 clear rL rE rR hB hbq
 have y0 := rE'.cell (j := 0) rfl
 have y1 := rE'.frozen 0
 have y2 := rR'.cell (j := 0) rfl
 have y3 := rR'.frozen 0
 go_upto_region 3 with fail
 have rL := ((rL'.far (a := ⟨w.heap.size + 1,0,none⟩) (by simp <;> omega) (.string (bs x.fr))).far (a := ⟨w.heap.size + 1 + 1,0,none⟩) (by simp <;> omega) (.bool true))
 have rE := ((rE'.set 0 (.string (bs x.fr))).far (a := ⟨w.heap.size + 1 + 1,0,none⟩) (by simp <;> omega) (.bool true))
 have rR := ((rR'.far (a := ⟨w.heap.size + 1,0,none⟩) (by simp <;> omega) (.string (bs x.fr))).set 0 (.bool true))
 have hB := ((hB'.setCell (p := ⟨w.heap.size + 1,0,none⟩) (by simp <;> omega) (.string (bs x.fr))).setCell (p := ⟨w.heap.size + 1 + 1,0,none⟩) (by simp <;> omega) (.bool true))
 clear y0 y1 y2 y3 rL' rE' rR' hB'
 obtain ⟨V0,hV0⟩ : ∃ V,((wq.setCell ⟨w.heap.size + 1,0,none⟩ (.string (bs x.fr))).setCell ⟨w.heap.size + 1 + 1,0,none⟩ (.bool true)) = V := ⟨_,rfl⟩
 rw [hV0] at rL rE rR hB ⊢
 clear hV0
 have z0 := rL.cell (j := 0) rfl
 have z1 := rL.cell (j := 1) rfl
 go_wp2_with fail
 clear z0 z1
 refine (c2' _ hB).mono ?_
 rintro e wq ⟨rfl,hbq⟩
 have rL' := rL.below hbq
 have rE' := rE.below hbq
 have rR' := rR.below hbq
 have hB' := hB.trans (hbq.mono hB.size)
 clear rL rE rR hB hbq
 have y0 := rE'.cell (j := 1) rfl
 have y1 := rE'.frozen 1
 have y2 := rR'.cell (j := 1) rfl
 have y3 := rR'.frozen 1
 go_upto_region 4 with fail
 have rL := ((rL'.far (a := ⟨w.heap.size + 1,1,none⟩) (by simp <;> omega) (.string (bs x.too))).far (a := ⟨w.heap.size + 1 + 1,1,none⟩) (by simp <;> omega) (.bool true))
 have rE := ((rE'.set 1 (.string (bs x.too))).far (a := ⟨w.heap.size + 1 + 1,1,none⟩) (by simp <;> omega) (.bool true))
 have rR := ((rR'.far (a := ⟨w.heap.size + 1,1,none⟩) (by simp <;> omega) (.string (bs x.too))).set 1 (.bool true))
 have hB := ((hB'.setCell (p := ⟨w.heap.size + 1,1,none⟩) (by simp <;> omega) (.string (bs x.too))).setCell (p := ⟨w.heap.size + 1 + 1,1,none⟩) (by simp <;> omega) (.bool true))
 clear y0 y1 y2 y3 rL' rE' rR' hB'
 obtain ⟨V1,hV1⟩ : ∃ V,((wq.setCell ⟨w.heap.size + 1,1,none⟩ (.string (bs x.too))).setCell ⟨w.heap.size + 1 + 1,1,none⟩ (.bool true)) = V := ⟨_,rfl⟩
 rw [hV1] at rL rE rR hB ⊢
 clear hV1
 have z0 := rL.cell (j := 0) rfl
 have z1 := rL.cell (j := 1) rfl
 go_wp2_with fail
 clear z0 z1
 refine (c3 _ hB).mono ?_
 rintro e wq ⟨rfl,hbq⟩
 have rL' := rL.below hbq
 have rE' := rE.below hbq
 have rR' := rR.below hbq
 have hB' := hB.trans (hbq.mono hB.size)
 clear rL rE rR hB hbq
 have y0 := rE'.cell (j := 2) rfl
 have y1 := rE'.frozen 2
 have y2 := rR'.cell (j := 2) rfl
 have y3 := rR'.frozen 2
 go_upto_region 5 with fail
 have rL := ((rL'.far (a := ⟨w.heap.size + 1,2,none⟩) (by simp <;> omega) (.string (bs x.id))).far (a := ⟨w.heap.size + 1 + 1,2,none⟩) (by simp <;> omega) (.bool true))
 have rE := ((rE'.set 2 (.string (bs x.id))).far (a := ⟨w.heap.size + 1 + 1,2,none⟩) (by simp <;> omega) (.bool true))
 have rR := ((rR'.far (a := ⟨w.heap.size + 1,2,none⟩) (by simp <;> omega) (.string (bs x.id))).set 2 (.bool true))
 have hB := ((hB'.setCell (p := ⟨w.heap.size + 1,2,none⟩) (by simp <;> omega) (.string (bs x.id))).setCell (p := ⟨w.heap.size + 1 + 1,2,none⟩) (by simp <;> omega) (.bool true))
 clear y0 y1 y2 y3 rL' rE' rR' hB'
 obtain ⟨V2,hV2⟩ : ∃ V,((wq.setCell ⟨w.heap.size + 1,2,none⟩ (.string (bs x.id))).setCell ⟨w.heap.size + 1 + 1,2,none⟩ (.bool true)) = V := ⟨_,rfl⟩
 rw [hV2] at rL rE rR hB ⊢
 clear hV2
 have z0 := rL.cell (j := 0) rfl
 have z1 := rL.cell (j := 1) rfl
 go_wp2_with fail
 clear z0 z1
 refine (c4 _ hB).mono ?_
 rintro e wq ⟨rfl,hbq⟩
 have rL' := rL.below hbq
 have rE' := rE.below hbq
 have rR' := rR.below hbq
 have hB' := hB.trans (hbq.mono hB.size)
 clear rL rE rR hB hbq
 have y0 := rE'.cell (j := 3) rfl
 have y1 := rE'.frozen 3
 have y2 := rR'.cell (j := 3) rfl
 have y3 := rR'.frozen 3
 go_upto_region 6 with fail
 have rL := ((rL'.far (a := ⟨w.heap.size + 1,3,none⟩) (by simp <;> omega) (.string (bs x.th))).far (a := ⟨w.heap.size + 1 + 1,3,none⟩) (by simp <;> omega) (.bool true))
 have rE := ((rE'.set 3 (.string (bs x.th))).far (a := ⟨w.heap.size + 1 + 1,3,none⟩) (by simp <;> omega) (.bool true))
 have rR := ((rR'.far (a := ⟨w.heap.size + 1,3,none⟩) (by simp <;> omega) (.string (bs x.th))).set 3 (.bool true))
 have hB := ((hB'.setCell (p := ⟨w.heap.size + 1,3,none⟩) (by simp <;> omega) (.string (bs x.th))).setCell (p := ⟨w.heap.size + 1 + 1,3,none⟩) (by simp <;> omega) (.bool true))
 clear y0 y1 y2 y3 rL' rE' rR' hB'
 obtain ⟨V3,hV3⟩ : ∃ V,((wq.setCell ⟨w.heap.size + 1,3,none⟩ (.string (bs x.th))).setCell ⟨w.heap.size + 1 + 1,3,none⟩ (.bool true)) = V := ⟨_,rfl⟩
 rw [hV3] at rL rE rR hB ⊢
 clear hV3
 have z0 := rL.cell (j := 0) rfl
 have z1 := rL.cell (j := 1) rfl
 go_wp2_with fail
 clear z0 z1
 refine (c5 _ hB).mono ?_
 rintro e wq ⟨⟨bo,rfl⟩,hbq⟩
 have rL' := rL.below hbq
 have rE' := rE.below hbq
 have rR' := rR.below hbq
 have hB' := hB.trans (hbq.mono hB.size)
 clear rL rE rR hB hbq
 obtain ⟨ck,wk,hcv,hOk,hbk,_⟩ := conv_bs (P := Tryz.prog) (src := 9) (dst := 22) (e := 5) Tryz.underlying9 Tryz.underlying22 Tryz.underlying5 wq (Ar.enc x.bun) (by unfold maxLen; omega)
 obtain ⟨_,_,hvk,hck,hckm,hRk,_,_,_⟩ := hOk.form
 cases hvk
 have rL := rL'.below hbk
 have rE := rE'.below hbk
 have rR := rR'.below hbk
 have hB := hB'.trans (hbk.mono hB'.size)
 clear rL' rE' rR' hB' hbk hOk
 obtain ⟨nk,hnk⟩ : ∃ k,(Ar.enc x.bun).length = k := ⟨_,rfl⟩
 rw [hnk] at hcv hck hel
 have HNK := Lib.hid hnk
 clear hnk
 go_wp2_with fail
 refine (Ar.read_own _ (Ar.enc x.bun) nk ck wk (tabs_below hG.tabs hB) HNK.out hRk hck (by omega)).mono ?_
 rintro e wj ⟨h | ⟨rfl,hno⟩,hbj⟩
 rotate_left
 ·exact absurd (nob_enc' x.bun).symm (hno x.bun)
 obtain ⟨A5,m5,k5,a5,rfl,hm5,hmk5,_,hR5,hen5,_⟩ := h
 rw [nob_enc'] at hen5
 obtain rfl : a5 = x.bun := Ar.enc_inj _ _ hen5
 have HM5 := Lib.hid hm5
 clear hen5 hm5
 have rL' := rL.below hbj
 have rE' := rE.below hbj
 have rR' := rR.below hbj
 have hB' := hB.trans (hbj.mono hB.size)
 clear rL rE rR hB hbj hRk hcv
 have y0 := rE'.cell (j := 5) rfl
 have y1 := rE'.frozen 5
 go_upto_region 8 with fail
 have rL := (rL'.far (a := ⟨w.heap.size + 1,5,none⟩) (by simp <;> omega) (.slice A5 m5 k5))
 have rE := (rE'.set 5 (.slice A5 m5 k5))
 have rR := (rR'.far (a := ⟨w.heap.size + 1,5,none⟩) (by simp <;> omega) (.slice A5 m5 k5))
 have hB := (hB'.setCell (p := ⟨w.heap.size + 1,5,none⟩) (by simp <;> omega) (.slice A5 m5 k5))
 have hm5b : m5 ≤ 3000 := by rw [← HM5.out]; exact hbun
 have h3k : ¬ (3000 : Int) < (m5 : Int) := by omega
 have hR5a : Rb (wj.setCell ⟨w.heap.size + 1,5,none⟩ (.slice A5 m5 k5)) A5 x.bun := Rv_setFar (g := w.heap.size + 1) (t := 24) (cs := [.string (bs x.fr),.string (bs x.too),.string (bs x.id),.string (bs x.th),.bool false,.slice none 0 0,.slice none 0 0]) rE' hR5 (env_nb _ _ _ _ _ _ _ _ _ _ _) 5 _
 clear y0 y1 rL' rE' rR' hB'
 obtain ⟨V5,hV5⟩ : ∃ V,(wj.setCell ⟨w.heap.size + 1,5,none⟩ (.slice A5 m5 k5)) = V := ⟨_,rfl⟩
 rw [hV5] at rL rE rR hB hR5a ⊢
 clear hV5
 have he4 := fun W => eq4 W
 have x0 := rR.cell (j := 0) rfl
 have x1 := rR.cell (j := 1) rfl
 have x2 := rR.cell (j := 2) rfl
 have x3 := rR.cell (j := 3) rfl
 have x5 := rE.cell (j := 5) rfl
 have z0 := rL.cell (j := 0) rfl
 have z1 := rL.cell (j := 1) rfl
 go_wp2_with fail
 refine (c6 _ hB).mono ?_
 rintro e w5 ⟨⟨p,F,rfl,hR,_⟩,hb5⟩
 obtain ⟨A6,k6,hR6,hk6,hin⟩ := part_in hR
 have rE' := rE.below hb5
 have hB' := hB.trans (hb5.mono hB.size)
 have hR5b := hR5a.below hb5
 clear rL rR rE hB x0 x1 x2 x3 x5 z0 z1 c1 c2' c3 c4 c5 c6 hR
 obtain ⟨u0,u1,u2,u3,u4,u5,u6,u7,u8,u9,u10⟩ := p
 simp only [Pv.val] at hin ⊢
 have hal : Below w5.heap.size w5 (w5.alloc (.cells #[.string (bs u0),.slice u1 u2 u3,.int .i64 u4,.slice u5 u6 u7,.slice u8 u9 u10] 34)) := (Below.refl _ _).alloc (Nat.le_refl _) _
 have rP := Row.new w5 #[.string (bs u0),.slice u1 u2 u3,.int .i64 u4,.slice u5 u6 u7,.slice u8 u9 u10] 34
 have x0 := rP.cell (j := 0) rfl
 have x1 := rP.cell (j := 1) rfl
 have x2 := rP.cell (j := 2) rfl
 have x3 := rP.cell (j := 3) rfl
 have x4 := rP.cell (j := 4) rfl
 go_wp2_with fail
 refine (hin _ hal).mono ?_
 rintro e w6 ⟨rfl,hb6⟩
 have rE := (rE'.below hal).below hb6
 have hal2 : Below w5.heap.size w5 w6 := hal.trans (hb6.mono hal.size)
 have hB := hB'.trans (hal2.mono hB'.size)
 have hR6' := hR6.below hal2
 have hR5c := hR5b.below hal2
 clear rE' hB' x0 x1 x2 x3 x4 rP hin
 obtain ⟨m6,hm6⟩ : ∃ m,x.cip.length = m := ⟨_,rfl⟩
 rw [hm6] at hk6 hcip ⊢
 have h1m : ¬ (1049600 : Int) < (m6 : Int) := by omega
 have y0 := rE.cell (j := 6) rfl
 have y1 := rE.frozen 6
 have y2 := rE.cell (j := 4) rfl
 have y3 := rE.frozen 4
 go_upto_region 15 with fail
 have rF := (rE.set 6 (.slice A6 m6 k6)).set 4 (.bool x.plain)
 have r1 : Row w6 (w.heap.size + 1) 24 [.string (bs x.fr),.string (bs x.too),.string (bs x.id),.string (bs x.th),.bool false,.slice A5 m5 k5,.slice none 0 0] := rE
 have r2 : Row (w6.setCell ⟨w.heap.size + 1,6,none⟩ (.slice A6 m6 k6)) (w.heap.size + 1) 24 [.string (bs x.fr),.string (bs x.too),.string (bs x.id),.string (bs x.th),.bool false,.slice A5 m5 k5,.slice A6 m6 k6] := rE.set 6 (.slice A6 m6 k6)
 have r3 : Row ((w6.setCell ⟨w.heap.size + 1,6,none⟩ (.slice A6 m6 k6)).setCell ⟨w.heap.size + 1,4,none⟩ (.bool x.plain)) (w.heap.size + 1) 24 [.string (bs x.fr),.string (bs x.too),.string (bs x.id),.string (bs x.th),.bool x.plain,.slice A5 m5 k5,.slice A6 m6 k6] := rF
 have hF5 : Rb ((w6.setCell ⟨w.heap.size + 1,6,none⟩ (.slice A6 m6 k6)).setCell ⟨w.heap.size + 1,4,none⟩ (.bool x.plain)) A5 x.bun := Rv_setFar r2 (Rv_setFar r1 hR5c (env_nb _ _ _ _ _ _ _ _ _ _ _) 6 _) (env_nb _ _ _ _ _ _ _ _ _ _ _) 4 _
 have hF6 : Rb ((w6.setCell ⟨w.heap.size + 1,6,none⟩ (.slice A6 m6 k6)).setCell ⟨w.heap.size + 1,4,none⟩ (.bool x.plain)) A6 x.cip := Rv_setFar r2 (Rv_setFar r1 hR6' (env_nb _ _ _ _ _ _ _ _ _ _ _) 6 _) (env_nb _ _ _ _ _ _ _ _ _ _ _) 4 _
 have hBF := (hB.setCell (p := ⟨w.heap.size + 1,6,none⟩) (by simp <;> omega) (.slice A6 m6 k6)).setCell (p := ⟨w.heap.size + 1,4,none⟩) (by simp <;> omega) (.bool x.plain)
 obtain ⟨V7,hV7⟩ : ∃ V,(w6.setCell ⟨w.heap.size + 1,6,none⟩ (.slice A6 m6 k6)).setCell ⟨w.heap.size + 1,4,none⟩ (.bool x.plain) = V := ⟨_,rfl⟩
 rw [hV7] at r3 hF5 hF6 hBF ⊢
 clear hV7 y0 y1 y2 y3 rE hB rF r1 r2
 have y0 := r3.cell (j := 0) rfl
 have f0 := r3.frozen 0
 have y1 := r3.cell (j := 1) rfl
 have f1 := r3.frozen 1
 have y2 := r3.cell (j := 2) rfl
 have f2 := r3.frozen 2
 have y3 := r3.cell (j := 3) rfl
 have f3 := r3.frozen 3
 have y4 := r3.cell (j := 4) rfl
 have f4 := r3.frozen 4
 have y5 := r3.cell (j := 5) rfl
 have f5 := r3.frozen 5
 have y6 := r3.cell (j := 6) rfl
 have f6 := r3.frozen 6
 go_wp2_with fail
 have q0 := r3
 have g1 := Rv_setFar q0 hF5 (env_nb _ _ _ _ _ _ _ _ _ _ _) 0 (.string (bs x.fr))
 have kk1 := Rv_setFar q0 hF6 (env_nb _ _ _ _ _ _ _ _ _ _ _) 0 (.string (bs x.fr))
 have b1 := hBF.setCell (p := ⟨w.heap.size + 1,0,none⟩) (by simp <;> omega) (.string (bs x.fr))
 have q1 := q0.same (j := 0) (v := .string (bs x.fr)) rfl
 have g2 := Rv_setFar q1 g1 (env_nb _ _ _ _ _ _ _ _ _ _ _) 1 (.string (bs x.too))
 have kk2 := Rv_setFar q1 kk1 (env_nb _ _ _ _ _ _ _ _ _ _ _) 1 (.string (bs x.too))
 have b2 := b1.setCell (p := ⟨w.heap.size + 1,1,none⟩) (by simp <;> omega) (.string (bs x.too))
 have q2 := q1.same (j := 1) (v := .string (bs x.too)) rfl
 have g3 := Rv_setFar q2 g2 (env_nb _ _ _ _ _ _ _ _ _ _ _) 2 (.string (bs x.id))
 have kk3 := Rv_setFar q2 kk2 (env_nb _ _ _ _ _ _ _ _ _ _ _) 2 (.string (bs x.id))
 have b3 := b2.setCell (p := ⟨w.heap.size + 1,2,none⟩) (by simp <;> omega) (.string (bs x.id))
 have q3 := q2.same (j := 2) (v := .string (bs x.id)) rfl
 have g4 := Rv_setFar q3 g3 (env_nb _ _ _ _ _ _ _ _ _ _ _) 3 (.string (bs x.th))
 have kk4 := Rv_setFar q3 kk3 (env_nb _ _ _ _ _ _ _ _ _ _ _) 3 (.string (bs x.th))
 have b4 := b3.setCell (p := ⟨w.heap.size + 1,3,none⟩) (by simp <;> omega) (.string (bs x.th))
 have q4 := q3.same (j := 3) (v := .string (bs x.th)) rfl
 have g5 := Rv_setFar q4 g4 (env_nb _ _ _ _ _ _ _ _ _ _ _) 4 (.bool x.plain)
 have kk5 := Rv_setFar q4 kk4 (env_nb _ _ _ _ _ _ _ _ _ _ _) 4 (.bool x.plain)
 have b5 := b4.setCell (p := ⟨w.heap.size + 1,4,none⟩) (by simp <;> omega) (.bool x.plain)
 have q5 := q4.same (j := 4) (v := .bool x.plain) rfl
 have g6 := Rv_setFar q5 g5 (env_nb _ _ _ _ _ _ _ _ _ _ _) 5 (.slice A5 m5 k5)
 have kk6 := Rv_setFar q5 kk5 (env_nb _ _ _ _ _ _ _ _ _ _ _) 5 (.slice A5 m5 k5)
 have b6 := b5.setCell (p := ⟨w.heap.size + 1,5,none⟩) (by simp <;> omega) (.slice A5 m5 k5)
 have q6 := q5.same (j := 5) (v := .slice A5 m5 k5) rfl
 have g7 := Rv_setFar q6 g6 (env_nb _ _ _ _ _ _ _ _ _ _ _) 6 (.slice A6 m6 k6)
 have kk7 := Rv_setFar q6 kk6 (env_nb _ _ _ _ _ _ _ _ _ _ _) 6 (.slice A6 m6 k6)
 have b7 := b6.setCell (p := ⟨w.heap.size + 1,6,none⟩) (by simp <;> omega) (.slice A6 m6 k6)
 have q7 := q6.same (j := 6) (v := .slice A6 m6 k6) rfl
 have e0 := q7.cell (j := 0) rfl
 have e1 := q7.cell (j := 1) rfl
 have e2 := q7.cell (j := 2) rfl
 have e3 := q7.cell (j := 3) rfl
 have e4 := q7.cell (j := 4) rfl
 have e5 := q7.cell (j := 5) rfl
 have e6 := q7.cell (j := 6) rfl
 refine bodyPost_ret (v := .tuple #[.agg #[.string (bs x.fr),.string (bs x.too),.string (bs x.id),.string (bs x.th),.bool x.plain,.slice A5 m5 k5,.slice A6 m6 k6],.int .i64 0]) (by simp [results,Tryz.results22,go_sem,e0,e1,e2,e3,e4,e5,e6]) rfl ⟨?_,b7⟩
 exact ⟨A5,k5,A6,k6,by unfold env; rw [HM5.out,hm6],g7,by rw [HM5.out]; exact hmk5,kk7,by rw [hm6]; exact hk6⟩
end
section
open Go.RowKit
theorem sealed_any (x : En) (he : enB x = true) (hbun : x.bun.length ≤ 3000) (hfr : x.fr.length ≤ 300) (hto : x.too.length ≤ 300) (hcip : x.cip.length ≤ 3000) (A : Option Addr) (n c : Nat) (w : World)
 (hn : (mb (packM x)).length = n) (hG : Gm w) (hA : Rb w A (mb (packM x))) (hnc : n ≤ c) (hpl : Pl A c) :
 Calls Tryz.prog 28 #[.slice A n c] w fun e w' => e = .returned (.bool (!x.plain)) ∧ Below w.heap.size w w' := by
 obtain ⟨hw,hl,hn7,hb2⟩ := pack_mb he hbun hfr hto hcip
 have hrd := lread_any A (mb (packM x)) n c w hn hA hnc hpl (by omega)
 rw [read_mb hw] at hrd
 clear hw hl hn7 hb2 hn
 go_enter Tryz.func28,Tryz.ntmps28
 go_wp2_with fail
 refine hrd.mono ?_
 rintro e w1 ⟨⟨LA,lc,LB,ld,rfl,hRf,hRb,h1,h2,h3⟩,hb1⟩
 obtain ⟨nf,hnf⟩ : ∃ k,(packM x).1.length = k := ⟨_,rfl⟩
 obtain ⟨nb,hnb⟩ : ∃ k,(packM x).2.length = k := ⟨_,rfl⟩
 have hal : Below w1.heap.size w1 (w1.alloc (.cells #[.slice LA nf lc,.slice LB nb ld] 39)) := (Below.refl _ _).alloc (Nat.le_refl _) _
 have rL := Row.new w1 #[.slice LA nf lc,.slice LB nb ld] 39
 have hB2 := hb1.trans (hal.mono hb1.size)
 have hpr := pread_any x he hbun hfr hto hcip LA nf lc LB nb ld (w1.alloc (.cells #[.slice LA nf lc,.slice LB nb ld] 39)) hnf hnb (hG.below hB2) (Rv.below hRf hal) (hRb.below hal) (by rw [← hnb]; exact h1) h2 h3
 rw [hnf,hnb]
 have z0 := rL.cell (j := 0) rfl
 have z1 := rL.cell (j := 1) rfl
 clear hrd hRf hRb h1 hnf hnb
 go_wp2_with fail
 refine hpr.mono ?_
 rintro e w3 ⟨⟨A5,c5,A6,c6,rfl,_⟩,hb3⟩
 have hB3 := hB2.trans (hb3.mono hB2.size)
 unfold env
 have rE := Row.new w3 #[.string (bs x.fr),.string (bs x.too),.string (bs x.id),.string (bs x.th),.bool x.plain,.slice A5 x.bun.length c5,.slice A6 x.cip.length c6] 24
 have hal3 : Below w3.heap.size w3 (w3.alloc (.cells #[.string (bs x.fr),.string (bs x.too),.string (bs x.id),.string (bs x.th),.bool x.plain,.slice A5 x.bun.length c5,.slice A6 x.cip.length c6] 24)) := (Below.refl _ _).alloc (Nat.le_refl _) _
 have y4 := rE.cell (j := 4) rfl
 clear hpr
 go_wp2_with fail
 go_ret
 exact ⟨rfl,hB3.trans (hal3.mono hB3.size)⟩
end
section
open Go.RowKit
theorem ex1_m : ∃ m,packW ex1 = .ok m ∧ m.1.length = 5 := by
 have h := ex1_ok
 cases hp : packW ex1 with
 | error k => rw [hp] at h; cases h
 | ok m =>
   rw [hp] at h
   exact ⟨m,rfl,by simpa using h⟩
theorem speaks13_any (w : World) (hG : Gm w) : Calls Tryz.prog 7 #[] w fun e w' => e = .returned (.bool true) ∧ Below w.heap.size w w' := by
 obtain ⟨m1,hm1,hl1⟩ := ex1_m
 have hm2 := ex2_no
 have hw1 : ∀ W,Gm W → Calls Tryz.prog 25 #[.agg #[.string ⟨#[97,64,98]⟩,.string ⟨#[99,64,100]⟩,.string ⟨#[49,64,97]⟩,.string ⟨#[116]⟩,.bool false,.slice none 0 0,.slice none 0 0]] W fun e w' => WOut (packW ex1) w' e ∧ Below W.heap.size W w' := fun W h =>
  pw_any ex1 none 0 none 0 W h (by decide) (by decide) (by decide) (by decide) (Rb.nil _ _) (by decide) (by decide) (Rb.nil _ _) (by decide) (by decide)
 have hw2 : ∀ W,Gm W → Calls Tryz.prog 25 #[.agg #[.string ⟨#[97,64,98]⟩,.string ⟨#[99,64,100]⟩,.string ⟨#[49,64,97]⟩,.string ⟨#[116,32,117]⟩,.bool false,.slice none 0 0,.slice none 0 0]] W fun e w' => WOut (packW ex2) w' e ∧ Below W.heap.size W w' := fun W h =>
  pw_any ex2 none 0 none 0 W h (by decide) (by decide) (by decide) (by decide) (Rb.nil _ _) (by decide) (by decide) (Rb.nil _ _) (by decide) (by decide)
 rw [hm1] at hw1
 rw [hm2] at hw2
 clear hm1 hm2
 have hB0 : Below w.heap.size w (w.alloc (.cells #[.string ⟨#[97,64,98]⟩,.string ⟨#[99,64,100]⟩,.string ⟨#[49,64,97]⟩,.string ⟨#[116]⟩,.bool false,.slice none 0 0,.slice none 0 0] 24)) := (Below.refl _ _).alloc (Nat.le_refl _) _
 have r0 := Row.new w #[.string ⟨#[97,64,98]⟩,.string ⟨#[99,64,100]⟩,.string ⟨#[49,64,97]⟩,.string ⟨#[116]⟩,.bool false,.slice none 0 0,.slice none 0 0] 24
 have hz0 : w.heap.size < (w.alloc (.cells #[.string ⟨#[97,64,98]⟩,.string ⟨#[99,64,100]⟩,.string ⟨#[49,64,97]⟩,.string ⟨#[116]⟩,.bool false,.slice none 0 0,.slice none 0 0] 24)).heap.size := by simp
 go_enter Tryz.func7,Tryz.ntmps7
 go_wp2_with fail
 generalize w.alloc (.cells #[.string ⟨#[97,64,98]⟩,.string ⟨#[99,64,100]⟩,.string ⟨#[49,64,97]⟩,.string ⟨#[116]⟩,.bool false,.slice none 0 0,.slice none 0 0] 24) = W0 at *
 refine (hw1 W0 (hG.below hB0)).mono ?_
 rintro e w1 ⟨hwo,hb1⟩
 obtain ⟨LA,lc,LB,lc2,rfl,_,_,_,_,_⟩ := hwo
 have hB1 := hB0.trans (hb1.mono hB0.size)
 have r1 := r0.below hb1
 have hz1 : w.heap.size < w1.heap.size := Nat.lt_of_lt_of_le hz0 hb1.size
 rw [hl1]
 obtain ⟨nb,hnb⟩ : ∃ n,m1.2.length = n := ⟨_,rfl⟩
 rw [hnb]
 clear r0 hb1 hw1 hnb hl1
 have c3 := r1.cell (j := 3) rfl
 have f3 := r1.frozen 3
 have hal0 : Below w1.heap.size w1 (w1.alloc (.cells #[.slice LA 5 lc,.slice LB nb lc2] 39)) := (Below.refl _ _).alloc (Nat.le_refl _) _
 have g3 := (r1.below hal0).cell (j := 3) rfl
 have gf3 := (r1.below hal0).frozen 3
 have r1s := r1.set 3 (.string ⟨#[116,32,117]⟩)
 have hB1s := hB1.setCell (p := ⟨w.heap.size,3,none⟩) (Nat.le_refl _) (.string ⟨#[116,32,117]⟩)
 have es : (w1.setCell ⟨w.heap.size,3,none⟩ (.string ⟨#[116,32,117]⟩)).heap.size = w1.heap.size := by simp
 have hal : Below w1.heap.size (w1.setCell ⟨w.heap.size,3,none⟩ (.string ⟨#[116,32,117]⟩)) ((w1.setCell ⟨w.heap.size,3,none⟩ (.string ⟨#[116,32,117]⟩)).alloc (.cells #[.slice LA 5 lc,.slice LB nb lc2] 39)) := by rw [← es]; exact (Below.refl _ _).alloc (Nat.le_refl _) _
 have r2 := r1s.below (hal.mono (Nat.le_of_eq es))
 have rL := Row.new (w1.setCell ⟨w.heap.size,3,none⟩ (.string ⟨#[116,32,117]⟩)) #[.slice LA 5 lc,.slice LB nb lc2] 39
 rw [es] at rL
 have d0 := r2.cell (j := 0) rfl
 have d1 := r2.cell (j := 1) rfl
 have d2 := r2.cell (j := 2) rfl
 have d3 := r2.cell (j := 3) rfl
 have d4 := r2.cell (j := 4) rfl
 have d5 := r2.cell (j := 5) rfl
 have d6 := r2.cell (j := 6) rfl
 have hB2 := hB1s.trans (hal.mono hB1.size)
 have rL2 := rL
 go_wp2_with fail
 clear d0 d1 d2 d3 d4 d5 d6 c3 f3 g3 gf3 r1s hal hal0 es rL
 generalize ((w1.setCell ⟨w.heap.size,3,none⟩ (.string ⟨#[116,32,117]⟩)).alloc (.cells #[.slice LA 5 lc,.slice LB nb lc2] 39)) = W2 at *
 refine (hw2 W2 (hG.below hB2)).mono ?_
 rintro e w3 ⟨hwo,hb3⟩
 simp only [WOut] at hwo
 subst hwo
 have hB3 := hB2.trans (hb3.mono hB2.size)
 have rL3 := rL2.below hb3
 have k0 := rL3.cell (j := 0) rfl
 have hl3 := rL3.lt
 have hal3 : Below w3.heap.size w3 (w3.alloc (.cells #[.slice none 0 0,.slice none 0 0] 39)) := (Below.refl _ _).alloc (Nat.le_refl _) _
 have k1 := (rL3.below hal3).cell (j := 0) rfl
 clear hw2 rL2 r1 r2
 go_wp2_with fail
 go_ret
 exact ⟨rfl,hB3.trans (hal3.mono hB3.size)⟩
end
section
open Go.RowKit
theorem greatE_no {x : En} (h : greatE x = false) : x.fr.length ≤ 300 ∧ x.too.length ≤ 300 ∧ x.id.length ≤ 300 ∧ x.th.length ≤ 300 ∧ x.cip.length ≤ 3000 ∧ x.bun.length ≤ 4000 := by
 unfold greatE at h
 simp only [Bool.or_eq_false_iff,decide_eq_false_iff_not] at h
 omega
theorem besP_len {x : En} (h : x.fr.length ≤ 300 ∧ x.too.length ≤ 300 ∧ x.id.length ≤ 300 ∧ x.th.length ≤ 300) : (besP x).length ≤ 2000 := by
 unfold besP
 simp only [List.length_append,List.length_cons,List.length_nil]
 omega
end
end Go.Proofs.YtkllecicddfjpaaGreatDoor
