/- The walk of the law, part 39. -/
import Derived.Test.YtkllecicddfjpaaGreatDoorJ38
import Derived.Deep.RegionHeld3
import Derived.Deep.RegionHeldLaw
set_option maxRecDepth 100000
set_option maxHeartbeats 16000000
set_option linter.unusedVariables false
set_option linter.unusedSimpArgs false
namespace Go.Proofs.YtkllecicddfjpaaGreatDoor
section
open Go.RowKit
theorem get_some' {nm v : List UInt8} {fs : List (List UInt8 × List UInt8)} {e : Ending} (hv : (Fd.valsN nm fs).head? = some v) (h : Fd.GetOut nm fs e) : e = .returned (.tuple #[.string (bs v),.bool true]) := by
 unfold Fd.GetOut at h
 rw [hv] at h
 exact h
theorem cell_ne' {w : World} {p : Addr} {b o : Nat} (v : Value) (h : b ≠ p.block) : (w.setCell p v).cell? ⟨b,o,none⟩ = w.cell? ⟨b,o,none⟩ := World.cell?_of_block (w := w) (Below.heap_setCell w p v b h)
def rmW (kind : List UInt8) (ms : List (List UInt8 × List UInt8)) : Except Nat (List RP) → Except Nat RP
 | .error k => .error k
 | .ok Rs => .ok (multiR kind ms Rs)
theorem rout_err {o : Except Nat RP} {k base : Nat} {w' : World} {e : Ending} (h : o = .error k) (he : e = .returned (.tuple #[.agg #[.string (bs []),.slice none 0 0,.int .i64 0,.slice none 0 0,.slice none 0 0],.int .i64 (k : Int)])) : ROut o base w' e := by
 rw [h]
 exact he
theorem allOf_err {α : Type} {outs : List (Except Nat α)} (he : ∀ k,Except.error k ∈ outs → 1 ≤ k) {k : Nat} (h : allOf outs = .error k) : 1 ≤ k := by
 induction outs with
 | nil => cases h
 | cons o r ih =>
   cases o with
   | error e =>
     cases h
     exact he _ (by simp)
   | ok m =>
     rw [allOf] at h
     cases hr : allOf r with
     | error e =>
       rw [hr] at h
       cases h
       exact ih (fun k hk => he k (by simp [hk])) hr
     | ok l => rw [hr] at h; cases h
theorem partsW_err {α : Type} {bd body : List UInt8} {deep : Nat} {outs : List (Except Nat α)} (he : ∀ k,Except.error k ∈ outs → 1 ≤ k) {k : Nat} (h : partsW bd body deep outs = .error k) : 1 ≤ k := by
 unfold partsW at h
 split at h
 ·cases h; omega
 ·split at h
  ·cases h; omega
  ·split at h
   ·exact allOf_err he h
   ·cases h; omega
theorem allOf_mem {α : Type} {outs : List (Except Nat α)} {l : List α} (h : allOf outs = .ok l) : ∀ b ∈ l,.ok b ∈ outs := by
 induction outs generalizing l with
 | nil => cases h; simp
 | cons o r ih =>
   cases o with
   | error e => cases h
   | ok x =>
     rw [allOf] at h
     cases hr : allOf r with
     | error e => rw [hr] at h; cases h
     | ok l' =>
       rw [hr] at h
       cases h
       intro b hb
       rcases List.mem_cons.1 hb with rfl | hb
       ·simp
       ·simp [ih hr b hb]
theorem partsW_mem {α : Type} {bd body : List UInt8} {deep : Nat} {outs : List (Except Nat α)} {l : List α} (h : partsW bd body deep outs = .ok l) : ∀ b ∈ l,.ok b ∈ outs := by
 unfold partsW at h
 split at h
 ·cases h
 ·split at h
  ·cases h
  ·split at h
   ·exact allOf_mem h
   ·cases h
theorem rmulti_any (A A2 : Option Addr) (fs : List (List UInt8 × List UInt8)) (body : List UInt8) (n c n2 c2 deep : Nat) (outs : List (Except Nat RP)) (w : World) (hn : fs.length = n) (hA : Fd.Rf w A fs) (hn2 : body.length = n2) (hA2 : Rb w A2 body) (h2c : n2 ≤ c2) (h2m : c2 ≤ maxLen) (hpl : Pl A2 c2) (hG : Gm w)
 (hb : n ≤ 1000000) (hb2 : n2 ≤ 1000000) (hd : deep ≤ 100) {v kind : List UInt8} {ms : List (List UInt8 × List UInt8)} (hv : (Fd.valsN ctN fs).head? = some v) (hvl : v.length ≤ 1000000) (hpm : Tk.parmP v = .ok (kind,ms)) (hmul : Lib.hasPrefix kind mulN = true) (hml : ms.length ≤ 1000000) (hbd : (paramP ms bdN).length ≤ 1000000)
 (hol : outs.length = (splitS body (paramP ms bdN)).1.length) (hx : ∀ x ∈ (splitS body (paramP ms bdN)).1,x.length ≤ 65536) (hst : ∀ R,.ok R ∈ outs → Stab R) (hk0 : ∀ k,.error k ∈ outs → 1 ≤ k)
 (Hk : ∀ (j : Nat) (x : List UInt8) (k : Nat),(splitS body (paramP ms bdN)).1[j]? = some x → Fd.readGo [] x = .error k → outs[j]? = some (.error k))
 (H : ∀ (j : Nat) (x : List UInt8) (fs : List (List UInt8 × List UInt8)) (b : List UInt8),(splitS body (paramP ms bdN)).1[j]? = some x → Fd.readGo [] x = .ok (fs,b) → ∃ o,outs[j]? = some o ∧
   ∀ (W : World) (A' : Option Addr) (c' : Nat) (B' : Option Addr) (c2' : Nat),Below w.heap.size w W → Fd.Rf W A' fs → Rb W B' b → b.length ≤ c2' → c2' ≤ maxLen → Pl B' c2' →
     Calls Tryz.prog 32 #[.agg #[.slice A' fs.length c',.slice B' b.length c2'],.int .i64 ((deep : Int) + 1)] W fun e W' => ROut o W.heap.size W' e ∧ Below W.heap.size W W') :
 Calls Tryz.prog 32 #[.agg #[.slice A n c,.slice A2 n2 c2],.int .i64 (deep : Int)] w fun e w' => ROut (rmW kind ms (partsW (paramP ms bdN) body deep outs)) w.heap.size w' e ∧ Below w.heap.size w w' := by
 have HN := Lib.hid hn
 have HN2 := Lib.hid hn2
 have HV := Lib.hid hv
 have HPM := Lib.hid hpm
 have hparts := fun (W : World) (hW : Below w.heap.size w W) => parts_any A2 body (paramP ms bdN) n2 c2 deep outs W hn2 (hA2.below hW) hpl h2c h2m hb2 hbd hd hol hx hst hk0 Hk (fun j x fs b h1 h2 => by
  obtain ⟨o,ho,hc⟩ := H j x fs b h1 h2
  exact ⟨o,ho,fun W' A' c' B' c2' hW' => hc W' A' c' B' c2' (hW.trans (hW'.mono hW.size))⟩)
 have hperr := fun k => partsW_err (bd := paramP ms bdN) (body := body) (deep := deep) (k := k) hk0
 have hpmem := fun l => partsW_mem (bd := paramP ms bdN) (body := body) (deep := deep) (outs := outs) (l := l)
 have hpre := prefM kind
 rw [hmul] at hpre
 obtain ⟨PW,hPW⟩ : ∃ y,partsW (paramP ms bdN) body deep outs = y := ⟨_,rfl⟩
 rw [hPW] at hperr ⊢
 simp only [hPW] at hparts hpmem
 obtain ⟨bd,hbdd⟩ : ∃ x,paramP ms bdN = x := ⟨_,rfl⟩
 have HBD := Lib.hid hbdd
 rw [hbdd] at hbd
 simp only [hbdd] at hparts
 obtain ⟨nm,hnm⟩ : ∃ x,ms.length = x := ⟨_,rfl⟩
 have HNM := Lib.hid hnm
 rw [hnm] at hml
 clear hn hn2 hv hpm hol hx Hk H hPW hbdd hnm
 have hB0 : Below w.heap.size w (w.alloc (.cells #[.slice A n c,.slice A2 n2 c2] 39)) := (Below.refl _ _).alloc (Nat.le_refl _) _
 have hB1 : Below w.heap.size w ((w.alloc (.cells #[.slice A n c,.slice A2 n2 c2] 39)).alloc (.cells #[.string (bs [116,101,120,116,47,112,108,97,105,110]),.slice none 0 0,.int .i64 0,.slice none 0 0,.slice none 0 0] 34)) := hB0.trans (((Below.refl _ _).alloc (Nat.le_refl _) _).mono hB0.size)
 have r1 := Row.new (w.alloc (.cells #[.slice A n c,.slice A2 n2 c2] 39)) #[.string (bs [116,101,120,116,47,112,108,97,105,110]),.slice none 0 0,.int .i64 0,.slice none 0 0,.slice none 0 0] 34
 have r0 := (Row.new w #[.slice A n c,.slice A2 n2 c2] 39).below ((Below.refl (w.alloc (.cells #[.slice A n c,.slice A2 n2 c2] 39)).heap.size (w.alloc (.cells #[.slice A n c,.slice A2 n2 c2] 39))).alloc (Nat.le_refl _) (.cells #[.string (bs [116,101,120,116,47,112,108,97,105,110]),.slice none 0 0,.int .i64 0,.slice none 0 0,.slice none 0 0] 34))
 rw [World.size_alloc] at r1
 have hg := Fd.get_any A A2 fs ctN n c n2 c2 ((w.alloc (.cells #[.slice A n c,.slice A2 n2 c2] 39)).alloc (.cells #[.string (bs [116,101,120,116,47,112,108,97,105,110]),.slice none 0 0,.int .i64 0,.slice none 0 0,.slice none 0 0] 34)) HN.out (hA.below hB1) (tabs_below hG.tabs hB1) (by simp) hb
 have hz1 : w.heap.size + 2 ≤ ((w.alloc (.cells #[.slice A n c,.slice A2 n2 c2] 39)).alloc (.cells #[.string (bs [116,101,120,116,47,112,108,97,105,110]),.slice none 0 0,.int .i64 0,.slice none 0 0,.slice none 0 0] 34)).heap.size := by simp
 go_enter Tryz.func32,Tryz.ntmps32
 go_wp2_with fail
 refine hg.mono ?_
 rintro e w2 ⟨hgo,hbb⟩
 obtain rfl := get_some' HV.out hgo
 clear hgo
 have hB2 := hB1.trans (hbb.mono hB1.size)
 have r12 := r1.below hbb
 have r02 := r0.below hbb
 have hz2 : w.heap.size + 2 ≤ w2.heap.size := Nat.le_trans hz1 hbb.size
 clear hbb r1 r0 hg hB1 hB0 hz1
 go_wp2_with fail
 refine (Tk.params_any v w2 (hG.below hB2).mx hvl).mono ?_
 rintro e w3 ⟨hpo,hb3⟩
 unfold Tk.PrmOut at hpo
 rw [HPM.out] at hpo
 obtain ⟨pv,rfl,hown⟩ := hpo
 rw [HNM.out] at hown
 obtain ⟨A5,c5,hv5,_⟩ := own_form hown
 obtain rfl : pv = .slice A5 nm c5 := hv5
 have hB3 := hB2.trans (hb3.mono hB2.size)
 have r13 := r12.below hb3
 have r03 := r02.below hb3
 have hz3 : w2.heap.size ≤ w3.heap.size := hb3.size
 clear r02 r12 hb3
 have l0 := r03.cell (j := 0) rfl
 have l1 := r03.cell (j := 1) rfl
 have k0 := r13.cell (j := 0) rfl
 have k1 := r13.cell (j := 1) rfl
 have k2 := r13.cell (j := 2) rfl
 have k3 := r13.cell (j := 3) rfl
 have k4 := r13.cell (j := 4) rfl
 have f0 := r13.frozen 0
 have f1 := r13.frozen 1
 go_upto_region 7 with fail
 have rG := ((r13.set 0 (.string (bs kind))).set 1 (.slice A5 nm c5))
 have hBG := ((hB3.setCell (p := ⟨w.heap.size + 1,0,none⟩) (by simp) (.string (bs kind))).setCell (p := ⟨w.heap.size + 1,1,none⟩) (by simp) (.slice A5 nm c5))
 have m1 : ((w3.setCell ⟨w.heap.size + 1,0,none⟩ (.string (bs kind))).setCell ⟨w.heap.size + 1,1,none⟩ (.slice A5 nm c5)).cell? ⟨w.heap.size,1,none⟩ = some (.slice A2 n2 c2) := by rw [cell_ne' _ (by simp),cell_ne' _ (by simp)]; exact l1
 have hoG := ownsRow_setCell_below (ownsRow_setCell_below hown (a := ⟨w.heap.size + 1,0,none⟩) (by simp; omega) (.string (bs kind))) (a := ⟨w.heap.size + 1,1,none⟩) (by simp; omega) (.slice A5 nm c5)
 have hzG : w2.heap.size ≤ ((w3.setCell ⟨w.heap.size + 1,0,none⟩ (.string (bs kind))).setCell ⟨w.heap.size + 1,1,none⟩ (.slice A5 nm c5)).heap.size := by simpa using hz3
 obtain ⟨WG,hWG⟩ : ∃ WG,((w3.setCell ⟨w.heap.size + 1,0,none⟩ (.string (bs kind))).setCell ⟨w.heap.size + 1,1,none⟩ (.slice A5 nm c5)) = WG := ⟨_,rfl⟩
 rw [hWG] at rG hBG m1 hoG hzG ⊢
 clear hWG r13 r03 l0 l1 k0 k1 k2 k3 k4 f0 f1 hown hz3 hB3
 have k0 := rG.cell (j := 0) rfl
 go_wp2_with fail
 refine (Tryz.strings_HasPrefix _ _ _).mono ?_
 rintro e w' ⟨rfl,hw⟩
 rw [hw,hpre]
 clear hw hpre
 go_wp2_with fail
 have m2 := rG.cell (j := 1) rfl
 have hD : Below WG.heap.size WG WG.drew := (Below.refl _ _).drew
 have hlG : w.heap.size + 1 < WG.heap.size := rG.lt
 have hlG0 : w.heap.size < WG.heap.size := by omega
 have hpar : ∀ W,Below WG.heap.size WG W → Calls Tryz.prog 70 #[.slice A5 nm c5,.string ⟨#[98,111,117,110,100,97,114,121]⟩] W fun e w' => e = .returned (.string (bs bd)) ∧ Below W.heap.size W w' := fun W hW => by
  have h := param_any A5 ms bdN nm c5 W HNM.out ((own_rv hoG).1.below hW) hml
  rw [HBD.out] at h
  exact h
 cases PW with
 | error k =>
   have hk1 := hperr k rfl
   have hkb : ((k : Int) != 0) = true := by rw [bne_iff_ne]; omega
   have hcp : ∀ W,Below WG.heap.size WG W → Calls Tryz.prog 69 #[.slice A2 n2 c2,.string (bs bd),.int .i64 (deep : Int)] W fun e w' => e = .returned (.tuple #[.slice none 0 0,.int .i64 (k : Int)]) ∧ Below W.heap.size W w' := fun W hW =>
    hparts W (hBG.trans (hW.mono hBG.size))
   clear hparts hperr hpmem
   refine wp_region_held_drew (S := (fun W => W.cell? ⟨w.heap.size,1,none⟩ = some (.slice A2 n2 c2) ∧ W.cell? ⟨w.heap.size + 1,1,none⟩ = some (.slice A5 nm c5))) (by kernel_rfl) (by first | exact ⟨by with_reducible assumption,by with_reducible assumption⟩ | exact ⟨m1,m2⟩) (fun hHeld => ?_)
   refine wpAnyH_take (i := 0) (v := ?_) rfl (by kernel_rfl) (by kernel_rfl) (by kernel_rfl) (fun _ _ _ h => h) (Or.inl ⟨by rfl,?_⟩) (by assumption) ?_
   rotate_left 1
   focus (intro w hSw; (try dsimp only at hSw); go_simp; (try with_reducible rfl))
   (try simp only [Act.put,List.setIfInBounds_toArray,List.set_cons_zero,List.set_cons_succ])
   refine wpAnyH_take (i := 1) (v := ?_) rfl (by kernel_rfl) (by kernel_rfl) (by kernel_rfl) (fun _ _ _ h => h) (Or.inl ⟨by rfl,?_⟩) (by assumption) ?_
   rotate_left 1
   focus (intro w hSw; (try dsimp only at hSw); go_simp; (try with_reducible rfl))
   (try simp only [Act.put,List.setIfInBounds_toArray,List.set_cons_zero,List.set_cons_succ])
   refine wpAnyH_take (i := 2) (v := ?_) rfl (by kernel_rfl) (by kernel_rfl) (by kernel_rfl) (fun _ _ _ h => h) (Or.inl ⟨by rfl,?_⟩) (by assumption) ?_
   rotate_left 1
   focus (intro w hSw; (try dsimp only at hSw); go_simp; (try with_reducible rfl))
   (try simp only [Act.put,List.setIfInBounds_toArray,List.set_cons_zero,List.set_cons_succ])
   refine wpAnyH_take (i := 3) (v := ?_) rfl (by kernel_rfl) (by kernel_rfl) (by kernel_rfl) (fun _ _ _ h => h) (Or.inl ⟨by rfl,?_⟩) (by assumption) ?_
   rotate_left 1
   focus (intro w hSw; (try dsimp only at hSw); go_simp; (try with_reducible rfl))
   (try simp only [Act.put,List.setIfInBounds_toArray,List.set_cons_zero,List.set_cons_succ])
   refine wpAnyH_take (i := 5) (v := ?_) rfl (by kernel_rfl) (by kernel_rfl) (by kernel_rfl) (fun _ _ _ h => h) (Or.inl ⟨by rfl,?_⟩) (by assumption) ?_
   rotate_left 1
   focus (intro w hSw; (try dsimp only at hSw); go_simp; (try with_reducible rfl))
   (try simp only [Act.put,List.setIfInBounds_toArray,List.set_cons_zero,List.set_cons_succ])
   refine wpAnyH_ready (rs := [4]) (by kernel_rfl) (by simp) (AllReadyH.cons rfl (fun K hK => ?_) AllReadyH.nil)
   go_simp
   first | (refine hK.out _ _ hHeld (fun hHeld => ?_)) | (go_wp2_with (first | (go_at_call 70; (with_reducible refine (hpar _ hD).mono ?_); rintro e x1 ⟨rfl,hx1⟩; have hx1' := hD.trans (hx1.mono hD.size); have m11 := (hx1'.cell (p := ⟨w.heap.size,1,none⟩) hlG0).trans m1; have m12 := (hx1'.cell (p := ⟨w.heap.size + 1,1,none⟩) hlG).trans m2) | (go_at_call 69; (with_reducible refine (hcp _ hx1').mono ?_); rintro e x2 ⟨rfl,hx2⟩; have hx2' := hx1'.trans (hx2.mono hx1'.size); have r2 := rG.below hx2'; have n0 := r2.cell (j := 0) rfl; have n1 := r2.cell (j := 1) rfl; have n2' := r2.cell (j := 2) rfl; have n3 := r2.cell (j := 3) rfl; have n4 := r2.cell (j := 4) rfl; have z0 := r2.frozen 0; have z1 := r2.frozen 1; have z2 := r2.frozen 2; have z3 := r2.frozen 3; have z4 := r2.frozen 4; have m21 := (hx2'.cell (p := ⟨w.heap.size,1,none⟩) hlG0).trans m1; have m31 := (cell_ne' (w := x2) (p := ⟨w.heap.size + 1,4,none⟩) (b := w.heap.size) (o := 1) (.slice none 0 0) (by simp)).trans m21; have rS := r2.set 4 (.slice none 0 0); have m32 := rS.cell (j := 1) rfl)); refine hK.out _ _ (by first | exact ⟨by with_reducible assumption,by with_reducible assumption⟩ | exact ⟨m1,m2⟩) (fun hHeld => ?_))
   clear hK K
   (try simp only [Act.put,List.setIfInBounds_toArray,List.set_cons_zero,List.set_cons_succ])
   refine wpAnyH_ready (rs := [6]) (by kernel_rfl) (by simp) (AllReadyH.cons rfl (fun K hK => ?_) AllReadyH.nil)
   go_simp
   first | (refine hK.out _ _ hHeld (fun hHeld => ?_)) | (go_wp2_with (first | (go_at_call 70; (with_reducible refine (hpar _ hD).mono ?_); rintro e x1 ⟨rfl,hx1⟩; have hx1' := hD.trans (hx1.mono hD.size); have m11 := (hx1'.cell (p := ⟨w.heap.size,1,none⟩) hlG0).trans m1; have m12 := (hx1'.cell (p := ⟨w.heap.size + 1,1,none⟩) hlG).trans m2) | (go_at_call 69; (with_reducible refine (hcp _ hx1').mono ?_); rintro e x2 ⟨rfl,hx2⟩; have hx2' := hx1'.trans (hx2.mono hx1'.size); have r2 := rG.below hx2'; have n0 := r2.cell (j := 0) rfl; have n1 := r2.cell (j := 1) rfl; have n2' := r2.cell (j := 2) rfl; have n3 := r2.cell (j := 3) rfl; have n4 := r2.cell (j := 4) rfl; have z0 := r2.frozen 0; have z1 := r2.frozen 1; have z2 := r2.frozen 2; have z3 := r2.frozen 3; have z4 := r2.frozen 4; have m21 := (hx2'.cell (p := ⟨w.heap.size,1,none⟩) hlG0).trans m1; have m31 := (cell_ne' (w := x2) (p := ⟨w.heap.size + 1,4,none⟩) (b := w.heap.size) (o := 1) (.slice none 0 0) (by simp)).trans m21; have rS := r2.set 4 (.slice none 0 0); have m32 := rS.cell (j := 1) rfl)); refine hK.out _ _ (by first | exact ⟨by with_reducible assumption,by with_reducible assumption⟩ | exact ⟨m1,m2⟩) (fun hHeld => ?_))
   clear hK K
   (try simp only [Act.put,List.setIfInBounds_toArray,List.set_cons_zero,List.set_cons_succ])
   refine wpAnyH_take (i := 7) (v := ?_) rfl (by kernel_rfl) (by kernel_rfl) (by kernel_rfl) (fun _ _ _ h => h) (Or.inl ⟨by rfl,?_⟩) (by assumption) ?_
   rotate_left 1
   focus (intro w hSw; (try dsimp only at hSw); go_simp; (try with_reducible rfl))
   (try simp only [Act.put,List.setIfInBounds_toArray,List.set_cons_zero,List.set_cons_succ])
   refine wpAnyH_take (i := 8) (v := ?_) rfl (by kernel_rfl) (by kernel_rfl) (by kernel_rfl) (fun _ _ _ h => h) (Or.inl ⟨by rfl,?_⟩) (by assumption) ?_
   rotate_left 1
   focus (intro w hSw; (try dsimp only at hSw); go_simp; (try with_reducible rfl))
   (try simp only [Act.put,List.setIfInBounds_toArray,List.set_cons_zero,List.set_cons_succ])
   refine wpAnyH_take (i := 9) (v := ?_) rfl (by kernel_rfl) (by kernel_rfl) (by kernel_rfl) (fun _ _ _ h => h) (Or.inl ⟨by rfl,?_⟩) (by assumption) ?_
   rotate_left 1
   focus (intro w hSw; (try dsimp only at hSw); go_simp; (try with_reducible rfl))
   (try simp only [Act.put,List.setIfInBounds_toArray,List.set_cons_zero,List.set_cons_succ])
   refine wpAnyH_take (i := 10) (v := ?_) rfl (by kernel_rfl) (by kernel_rfl) (by kernel_rfl) (fun _ _ _ h => h) (Or.inl ⟨by rfl,?_⟩) (by assumption) ?_
   rotate_left 1
   focus (intro w hSw; (try dsimp only at hSw); go_simp; (try with_reducible rfl))
   (try simp only [Act.put,List.setIfInBounds_toArray,List.set_cons_zero,List.set_cons_succ])
   refine wpAnyH_ready (rs := [11]) (by kernel_rfl) (by simp) (AllReadyH.cons rfl (fun K hK => ?_) AllReadyH.nil)
   go_simp
   first | (refine hK.out _ _ hHeld (fun hHeld => ?_)) | (go_wp2_with (first | (go_at_call 70; (with_reducible refine (hpar _ hD).mono ?_); rintro e x1 ⟨rfl,hx1⟩; have hx1' := hD.trans (hx1.mono hD.size); have m11 := (hx1'.cell (p := ⟨w.heap.size,1,none⟩) hlG0).trans m1; have m12 := (hx1'.cell (p := ⟨w.heap.size + 1,1,none⟩) hlG).trans m2) | (go_at_call 69; (with_reducible refine (hcp _ hx1').mono ?_); rintro e x2 ⟨rfl,hx2⟩; have hx2' := hx1'.trans (hx2.mono hx1'.size); have r2 := rG.below hx2'; have n0 := r2.cell (j := 0) rfl; have n1 := r2.cell (j := 1) rfl; have n2' := r2.cell (j := 2) rfl; have n3 := r2.cell (j := 3) rfl; have n4 := r2.cell (j := 4) rfl; have z0 := r2.frozen 0; have z1 := r2.frozen 1; have z2 := r2.frozen 2; have z3 := r2.frozen 3; have z4 := r2.frozen 4; have m21 := (hx2'.cell (p := ⟨w.heap.size,1,none⟩) hlG0).trans m1; have m31 := (cell_ne' (w := x2) (p := ⟨w.heap.size + 1,4,none⟩) (b := w.heap.size) (o := 1) (.slice none 0 0) (by simp)).trans m21; have rS := r2.set 4 (.slice none 0 0); have m32 := rS.cell (j := 1) rfl)); refine hK.out _ _ (by first | exact ⟨by with_reducible assumption,by with_reducible assumption⟩ | exact ⟨m1,m2⟩) (fun hHeld => ?_))
   clear hK K
   (try simp only [Act.put,List.setIfInBounds_toArray,List.set_cons_zero,List.set_cons_succ])
   refine wpAnyH_take (i := 12) (v := ?_) rfl (by kernel_rfl) (by kernel_rfl) (by kernel_rfl) (fun _ _ _ h => h) (Or.inl ⟨by rfl,?_⟩) (by assumption) ?_
   rotate_left 1
   focus (intro w hSw; (try dsimp only at hSw); go_simp; (try with_reducible rfl))
   (try simp only [Act.put,List.setIfInBounds_toArray,List.set_cons_zero,List.set_cons_succ])
   refine wpAnyH_done (by kernel_rfl) ?_ _
   have q0 := rS.cell (j := 0) rfl
   have q2 := rS.cell (j := 2) rfl
   have q3 := rS.cell (j := 3) rfl
   have q4 := rS.cell (j := 4) rfl
   have y0 := rS.frozen 0
   have y1 := rS.frozen 1
   have y2 := rS.frozen 2
   have y3 := rS.frozen 3
   have y4 := rS.frozen 4
   have hBX := (hBG.trans (hx2'.mono hBG.size)).setCell (p := ⟨w.heap.size + 1,4,none⟩) (by simp) (.slice none 0 0)
   clear n0 n1 n2' n3 n4 z0 z1 z2 z3 z4 m21 m31 m11 m12 hHeld r2
   go_wp2_with fail
   have rF := ((((rS.set 0 (.string ⟨#[]⟩)).set 1 (.slice none 0 0)).set 2 (.int .i64 0)).set 3 (.slice none 0 0)).set 4 (.slice none 0 0)
   have hBF := ((((hBX.setCell (p := ⟨w.heap.size + 1,0,none⟩) (by simp) (.string ⟨#[]⟩)).setCell (p := ⟨w.heap.size + 1,1,none⟩) (by simp) (.slice none 0 0)).setCell (p := ⟨w.heap.size + 1,2,none⟩) (by simp) (.int .i64 0)).setCell (p := ⟨w.heap.size + 1,3,none⟩) (by simp) (.slice none 0 0)).setCell (p := ⟨w.heap.size + 1,4,none⟩) (by simp) (.slice none 0 0)
   have e0 := rF.cell (j := 0) rfl
   have e1 := rF.cell (j := 1) rfl
   have e2 := rF.cell (j := 2) rfl
   have e3 := rF.cell (j := 3) rfl
   have e4 := rF.cell (j := 4) rfl
   exact bodyPost_ret (v := .tuple #[.agg #[.string (bs []),.slice none 0 0,.int .i64 0,.slice none 0 0,.slice none 0 0],.int .i64 (k : Int)]) (by simp [results,Tryz.results32,go_sem,e0,e1,e2,e3,e4]; try rfl) rfl ⟨rout_err (o := rmW kind ms (.error k)) rfl rfl,hBF⟩
 | ok Rs =>
   have hstR : ∀ R ∈ Rs,Stab R := fun R hR => hst R (hpmem Rs rfl R hR)
   obtain ⟨mR,hmR⟩ : ∃ x,Rs.length = x := ⟨_,rfl⟩
   have HMR := Lib.hid hmR
   have hcp : ∀ W,Below WG.heap.size WG W → Calls Tryz.prog 69 #[.slice A2 n2 c2,.string (bs bd),.int .i64 (deep : Int)] W fun e w' => (∃ (C : Option Addr) (cc : Nat) (qs : List (Pv × (Nat → Prop))),e = .returned (.tuple #[.slice C mR cc,.int .i64 0]) ∧ Hid (qs.length = mR ∧ OwnM w' WG.heap.size 34 5 (.slice C mR cc) mR (pvs (qs.map (·.1))) ∧
    ∀ (j : Nat) (R : RP) (x : Pv × (Nat → Prop)),Rs[j]? = some R → qs[j]? = some x → R w' x.1 x.2 ∧ ∀ k,x.2 k → WG.heap.size ≤ k ∧ k < w'.heap.size)) ∧ Below W.heap.size W w' := fun W hW =>
    (hparts W (hBG.trans (hW.mono hBG.size))).mono fun e w' ⟨hq,hbq⟩ => by
      obtain ⟨v,qs,he,h1,h2,h3⟩ := hq
      rw [h1,hmR] at h2
      obtain ⟨C,cc,rfl,_⟩ := h2.form
      exact ⟨⟨C,cc,qs,he,Lib.hid ⟨h1.trans hmR,h2.rebase hW.size,fun j R x hj hx => ⟨(h3 j R x hj hx).1,fun k hk => ⟨Nat.le_trans hW.size ((h3 j R x hj hx).2 k hk).1,((h3 j R x hj hx).2 k hk).2⟩⟩⟩⟩,hbq⟩
   clear hparts hperr hpmem hmR
   refine wp_region_held_drew (S := (fun W => W.cell? ⟨w.heap.size,1,none⟩ = some (.slice A2 n2 c2) ∧ W.cell? ⟨w.heap.size + 1,1,none⟩ = some (.slice A5 nm c5))) (by kernel_rfl) (by first | exact ⟨by with_reducible assumption,by with_reducible assumption⟩ | exact ⟨m1,m2⟩) (fun hHeld => ?_)
   refine wpAnyH_take (i := 0) (v := ?_) rfl (by kernel_rfl) (by kernel_rfl) (by kernel_rfl) (fun _ _ _ h => h) (Or.inl ⟨by rfl,?_⟩) (by assumption) ?_
   rotate_left 1
   focus (intro w hSw; (try dsimp only at hSw); go_simp; (try with_reducible rfl))
   (try simp only [Act.put,List.setIfInBounds_toArray,List.set_cons_zero,List.set_cons_succ])
   refine wpAnyH_take (i := 1) (v := ?_) rfl (by kernel_rfl) (by kernel_rfl) (by kernel_rfl) (fun _ _ _ h => h) (Or.inl ⟨by rfl,?_⟩) (by assumption) ?_
   rotate_left 1
   focus (intro w hSw; (try dsimp only at hSw); go_simp; (try with_reducible rfl))
   (try simp only [Act.put,List.setIfInBounds_toArray,List.set_cons_zero,List.set_cons_succ])
   refine wpAnyH_take (i := 2) (v := ?_) rfl (by kernel_rfl) (by kernel_rfl) (by kernel_rfl) (fun _ _ _ h => h) (Or.inl ⟨by rfl,?_⟩) (by assumption) ?_
   rotate_left 1
   focus (intro w hSw; (try dsimp only at hSw); go_simp; (try with_reducible rfl))
   (try simp only [Act.put,List.setIfInBounds_toArray,List.set_cons_zero,List.set_cons_succ])
   refine wpAnyH_take (i := 3) (v := ?_) rfl (by kernel_rfl) (by kernel_rfl) (by kernel_rfl) (fun _ _ _ h => h) (Or.inl ⟨by rfl,?_⟩) (by assumption) ?_
   rotate_left 1
   focus (intro w hSw; (try dsimp only at hSw); go_simp; (try with_reducible rfl))
   (try simp only [Act.put,List.setIfInBounds_toArray,List.set_cons_zero,List.set_cons_succ])
   refine wpAnyH_take (i := 5) (v := ?_) rfl (by kernel_rfl) (by kernel_rfl) (by kernel_rfl) (fun _ _ _ h => h) (Or.inl ⟨by rfl,?_⟩) (by assumption) ?_
   rotate_left 1
   focus (intro w hSw; (try dsimp only at hSw); go_simp; (try with_reducible rfl))
   (try simp only [Act.put,List.setIfInBounds_toArray,List.set_cons_zero,List.set_cons_succ])
   refine wpAnyH_ready (rs := [4]) (by kernel_rfl) (by simp) (AllReadyH.cons rfl (fun K hK => ?_) AllReadyH.nil)
   go_simp
   first | (refine hK.out _ _ hHeld (fun hHeld => ?_)) | (go_wp2_with (first | (go_at_call 70; (with_reducible refine (hpar _ hD).mono ?_); rintro e x1 ⟨rfl,hx1⟩; have hx1' := hD.trans (hx1.mono hD.size); have m11 := (hx1'.cell (p := ⟨w.heap.size,1,none⟩) hlG0).trans m1; have m12 := (hx1'.cell (p := ⟨w.heap.size + 1,1,none⟩) hlG).trans m2) | (go_at_call 69; (with_reducible refine (hcp _ hx1').mono ?_); rintro e x2 ⟨⟨C,cc,qs,rfl,HQ⟩,hx2⟩; have hx2' := hx1'.trans (hx2.mono hx1'.size); have r2 := rG.below hx2'; have n0 := r2.cell (j := 0) rfl; have n1 := r2.cell (j := 1) rfl; have n2' := r2.cell (j := 2) rfl; have n3 := r2.cell (j := 3) rfl; have n4 := r2.cell (j := 4) rfl; have z0 := r2.frozen 0; have z1 := r2.frozen 1; have z2 := r2.frozen 2; have z3 := r2.frozen 3; have z4 := r2.frozen 4; have m21 := (hx2'.cell (p := ⟨w.heap.size,1,none⟩) hlG0).trans m1; have m31 := (cell_ne' (w := x2) (p := ⟨w.heap.size + 1,4,none⟩) (b := w.heap.size) (o := 1) (.slice C mR cc) (by simp)).trans m21; have rS := r2.set 4 (.slice C mR cc); have m32 := rS.cell (j := 1) rfl)); refine hK.out _ _ (by first | exact ⟨by with_reducible assumption,by with_reducible assumption⟩ | exact ⟨m1,m2⟩) (fun hHeld => ?_))
   clear hK K
   (try simp only [Act.put,List.setIfInBounds_toArray,List.set_cons_zero,List.set_cons_succ])
   refine wpAnyH_ready (rs := [6]) (by kernel_rfl) (by simp) (AllReadyH.cons rfl (fun K hK => ?_) AllReadyH.nil)
   go_simp
   first | (refine hK.out _ _ hHeld (fun hHeld => ?_)) | (go_wp2_with (first | (go_at_call 70; (with_reducible refine (hpar _ hD).mono ?_); rintro e x1 ⟨rfl,hx1⟩; have hx1' := hD.trans (hx1.mono hD.size); have m11 := (hx1'.cell (p := ⟨w.heap.size,1,none⟩) hlG0).trans m1; have m12 := (hx1'.cell (p := ⟨w.heap.size + 1,1,none⟩) hlG).trans m2) | (go_at_call 69; (with_reducible refine (hcp _ hx1').mono ?_); rintro e x2 ⟨⟨C,cc,qs,rfl,HQ⟩,hx2⟩; have hx2' := hx1'.trans (hx2.mono hx1'.size); have r2 := rG.below hx2'; have n0 := r2.cell (j := 0) rfl; have n1 := r2.cell (j := 1) rfl; have n2' := r2.cell (j := 2) rfl; have n3 := r2.cell (j := 3) rfl; have n4 := r2.cell (j := 4) rfl; have z0 := r2.frozen 0; have z1 := r2.frozen 1; have z2 := r2.frozen 2; have z3 := r2.frozen 3; have z4 := r2.frozen 4; have m21 := (hx2'.cell (p := ⟨w.heap.size,1,none⟩) hlG0).trans m1; have m31 := (cell_ne' (w := x2) (p := ⟨w.heap.size + 1,4,none⟩) (b := w.heap.size) (o := 1) (.slice C mR cc) (by simp)).trans m21; have rS := r2.set 4 (.slice C mR cc); have m32 := rS.cell (j := 1) rfl)); refine hK.out _ _ (by first | exact ⟨by with_reducible assumption,by with_reducible assumption⟩ | exact ⟨m1,m2⟩) (fun hHeld => ?_))
   clear hK K
   (try simp only [Act.put,List.setIfInBounds_toArray,List.set_cons_zero,List.set_cons_succ])
   refine wpAnyH_take (i := 7) (v := ?_) rfl (by kernel_rfl) (by kernel_rfl) (by kernel_rfl) (fun _ _ _ h => h) (Or.inl ⟨by rfl,?_⟩) (by assumption) ?_
   rotate_left 1
   focus (intro w hSw; (try dsimp only at hSw); go_simp; (try with_reducible rfl))
   (try simp only [Act.put,List.setIfInBounds_toArray,List.set_cons_zero,List.set_cons_succ])
   refine wpAnyH_take (i := 8) (v := ?_) rfl (by kernel_rfl) (by kernel_rfl) (by kernel_rfl) (fun _ _ _ h => h) (Or.inl ⟨by rfl,?_⟩) (by assumption) ?_
   rotate_left 1
   focus (intro w hSw; (try dsimp only at hSw); go_simp; (try with_reducible rfl))
   (try simp only [Act.put,List.setIfInBounds_toArray,List.set_cons_zero,List.set_cons_succ])
   refine wpAnyH_take (i := 9) (v := ?_) rfl (by kernel_rfl) (by kernel_rfl) (by kernel_rfl) (fun _ _ _ h => h) (Or.inl ⟨by rfl,?_⟩) (by assumption) ?_
   rotate_left 1
   focus (intro w hSw; (try dsimp only at hSw); go_simp; (try with_reducible rfl))
   (try simp only [Act.put,List.setIfInBounds_toArray,List.set_cons_zero,List.set_cons_succ])
   refine wpAnyH_take (i := 10) (v := ?_) rfl (by kernel_rfl) (by kernel_rfl) (by kernel_rfl) (fun _ _ _ h => h) (Or.inl ⟨by rfl,?_⟩) (by assumption) ?_
   rotate_left 1
   focus (intro w hSw; (try dsimp only at hSw); go_simp; (try with_reducible rfl))
   (try simp only [Act.put,List.setIfInBounds_toArray,List.set_cons_zero,List.set_cons_succ])
   refine wpAnyH_ready (rs := [11]) (by kernel_rfl) (by simp) (AllReadyH.cons rfl (fun K hK => ?_) AllReadyH.nil)
   go_simp
   first | (refine hK.out _ _ hHeld (fun hHeld => ?_)) | (go_wp2_with (first | (go_at_call 70; (with_reducible refine (hpar _ hD).mono ?_); rintro e x1 ⟨rfl,hx1⟩; have hx1' := hD.trans (hx1.mono hD.size); have m11 := (hx1'.cell (p := ⟨w.heap.size,1,none⟩) hlG0).trans m1; have m12 := (hx1'.cell (p := ⟨w.heap.size + 1,1,none⟩) hlG).trans m2) | (go_at_call 69; (with_reducible refine (hcp _ hx1').mono ?_); rintro e x2 ⟨⟨C,cc,qs,rfl,HQ⟩,hx2⟩; have hx2' := hx1'.trans (hx2.mono hx1'.size); have r2 := rG.below hx2'; have n0 := r2.cell (j := 0) rfl; have n1 := r2.cell (j := 1) rfl; have n2' := r2.cell (j := 2) rfl; have n3 := r2.cell (j := 3) rfl; have n4 := r2.cell (j := 4) rfl; have z0 := r2.frozen 0; have z1 := r2.frozen 1; have z2 := r2.frozen 2; have z3 := r2.frozen 3; have z4 := r2.frozen 4; have m21 := (hx2'.cell (p := ⟨w.heap.size,1,none⟩) hlG0).trans m1; have m31 := (cell_ne' (w := x2) (p := ⟨w.heap.size + 1,4,none⟩) (b := w.heap.size) (o := 1) (.slice C mR cc) (by simp)).trans m21; have rS := r2.set 4 (.slice C mR cc); have m32 := rS.cell (j := 1) rfl)); refine hK.out _ _ (by first | exact ⟨by with_reducible assumption,by with_reducible assumption⟩ | exact ⟨m1,m2⟩) (fun hHeld => ?_))
   clear hK K
   (try simp only [Act.put,List.setIfInBounds_toArray,List.set_cons_zero,List.set_cons_succ])
   refine wpAnyH_take (i := 12) (v := ?_) rfl (by kernel_rfl) (by kernel_rfl) (by kernel_rfl) (fun _ _ _ h => h) (Or.inl ⟨by rfl,?_⟩) (by assumption) ?_
   rotate_left 1
   focus (intro w hSw; (try dsimp only at hSw); go_simp; (try with_reducible rfl))
   (try simp only [Act.put,List.setIfInBounds_toArray,List.set_cons_zero,List.set_cons_succ])
   refine wpAnyH_done (by kernel_rfl) ?_ _
   have q0 := rS.cell (j := 0) rfl
   have q2 := rS.cell (j := 2) rfl
   have q3 := rS.cell (j := 3) rfl
   have q4 := rS.cell (j := 4) rfl
   have y0 := rS.frozen 0
   have y1 := rS.frozen 1
   have y2 := rS.frozen 2
   have y3 := rS.frozen 3
   have y4 := rS.frozen 4
   have hBX := (hBG.trans (hx2'.mono hBG.size)).setCell (p := ⟨w.heap.size + 1,4,none⟩) (by simp) (.slice C mR cc)
   have hzx : WG.heap.size ≤ x2.heap.size := hx2'.size
   clear n0 n1 n2' n3 n4 z0 z1 z2 z3 z4 m21 m31 m11 m12 hHeld r2
   go_wp2_with fail
   have rF := (((((rS.set 0 (.string (bs kind))).set 1 (.slice A5 nm c5)).set 2 (.int .i64 0)).set 3 (.slice none 0 0)).set 4 (.slice C mR cc))
   have hBF := (((((hBX.setCell (p := ⟨w.heap.size + 1,0,none⟩) (by simp) (.string (bs kind))).setCell (p := ⟨w.heap.size + 1,1,none⟩) (by simp) (.slice A5 nm c5)).setCell (p := ⟨w.heap.size + 1,2,none⟩) (by simp) (.int .i64 0)).setCell (p := ⟨w.heap.size + 1,3,none⟩) (by simp) (.slice none 0 0)).setCell (p := ⟨w.heap.size + 1,4,none⟩) (by simp) (.slice C mR cc))
   have hkeep : ∀ k,(w2.heap.size ≤ k ∧ k < x2.heap.size) → ((((((x2.setCell ⟨w.heap.size + 1,4,none⟩ (.slice C mR cc)).setCell ⟨w.heap.size + 1,0,none⟩ (.string (bs kind))).setCell ⟨w.heap.size + 1,1,none⟩ (.slice A5 nm c5)).setCell ⟨w.heap.size + 1,2,none⟩ (.int .i64 0)).setCell ⟨w.heap.size + 1,3,none⟩ (.slice none 0 0)).setCell ⟨w.heap.size + 1,4,none⟩ (.slice C mR cc)).heap[k]? = x2.heap[k]? := fun k hk => by
    have hne : k ≠ w.heap.size + 1 := by omega
    rw [Below.heap_setCell _ _ _ k hne,Below.heap_setCell _ _ _ k hne,Below.heap_setCell _ _ _ k hne,Below.heap_setCell _ _ _ k hne,Below.heap_setCell _ _ _ k hne,Below.heap_setCell _ _ _ k hne]
   have hsz : ((((((x2.setCell ⟨w.heap.size + 1,4,none⟩ (.slice C mR cc)).setCell ⟨w.heap.size + 1,0,none⟩ (.string (bs kind))).setCell ⟨w.heap.size + 1,1,none⟩ (.slice A5 nm c5)).setCell ⟨w.heap.size + 1,2,none⟩ (.int .i64 0)).setCell ⟨w.heap.size + 1,3,none⟩ (.slice none 0 0)).setCell ⟨w.heap.size + 1,4,none⟩ (.slice C mR cc)).heap.size = x2.heap.size := by simp
   have e0 := rF.cell (j := 0) rfl
   have e1 := rF.cell (j := 1) rfl
   have e2 := rF.cell (j := 2) rfl
   have e3 := rF.cell (j := 3) rfl
   have e4 := rF.cell (j := 4) rfl
   refine bodyPost_ret (v := .tuple #[.agg #[.string (bs kind),.slice A5 nm c5,.int .i64 0,.slice none 0 0,.slice C mR cc],.int .i64 0]) (by simp [results,Tryz.results32,go_sem,e0,e1,e2,e3,e4]) rfl ⟨?_,hBF⟩
   obtain ⟨hq1,hq2,hq3⟩ := HQ.out
   refine ⟨⟨kind,A5,nm,c5,0,none,0,0,C,mR,cc⟩,(fun k => w2.heap.size ≤ k ∧ k < x2.heap.size),rfl,⟨rfl,HNM.out.symm,rfl,rfl,?_,HMR.out.symm,qs,hq1.trans HMR.out.symm,?_,fun j R x hj hx => ?_⟩,fun k hk => ⟨by omega,by rw [hsz]; exact hk.2⟩⟩
   ·exact (RvF.of_own ((OwnM.of hoG).below hx2')).keep hkeep fun k h => h
   ·exact (RvF.of_own hq2).keep (fun k hk => hkeep k ⟨Nat.le_trans hzG hk.1,hk.2⟩) fun k hk => ⟨Nat.le_trans hzG hk.1,hk.2⟩
   ·obtain ⟨a1,a2⟩ := hq3 j R x hj hx
    exact ⟨hstR R (List.mem_of_getElem? hj) _ _ _ _ a1 fun k hk => hkeep k ⟨Nat.le_trans hzG (a2 k hk).1,(a2 k hk).2⟩,fun k hk => ⟨Nat.le_trans hzG (a2 k hk).1,(a2 k hk).2⟩⟩
end
end Go.Proofs.YtkllecicddfjpaaGreatDoor
