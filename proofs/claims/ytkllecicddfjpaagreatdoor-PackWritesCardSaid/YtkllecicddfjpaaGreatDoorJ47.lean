/- The walk of the law, part 47. -/
import Derived.Test.YtkllecicddfjpaaGreatDoorJ46
import Derived.Test.YtkllecicddfjpaaGreatDoorJ40
import Derived.Test.YtkllecicddfjpaaGreatDoorJ33
import Derived.Test.YtkllecicddfjpaaGreatDoorJ32
import Derived.Test.YtkllecicddfjpaaGreatDoorJ41
import Derived.Deep.RegionHeld3
import Derived.Deep.RegionHeldLaw
set_option maxRecDepth 100000
set_option maxHeartbeats 16000000
set_option linter.unusedVariables false
set_option linter.unusedSimpArgs false
namespace Go.Proofs.YtkllecicddfjpaaGreatDoor
section
open Go.RowKit
theorem part_in {x : En} {w5 : World} {p : Pv} {F : Nat → Prop} (h : partR x w5 p F) : ∃ (A6 : Option Addr) (c6 : Nat),Rb w5 A6 x.cip ∧ x.cip.length ≤ c6 ∧
 ∀ W,Below w5.heap.size w5 W → Calls Tryz.prog 45 #[p.val] W fun e w' => e = .returned (.tuple #[.slice A6 x.cip.length c6,.bool x.plain,.bool true]) ∧ Below W.heap.size W w' := by
 unfold partR at h
 cases hp : x.plain with
 | true =>
   rw [if_pos hp] at h
   obtain ⟨k,A,n,c,code,B,nb,cb,C,nq,cc⟩ := p
   obtain ⟨h1,h2,h3,h4,h5,h6,h7,h8⟩ := h
   simp only at h1 h2 h3 h4 h5 h6 h7 h8
   subst h1 h2 h3 h4 h8
   exact ⟨B,cb,h7.1,h5,fun W hW => inside_text A c 1 B _ cb C 0 cc W⟩
 | false =>
   rw [if_neg (by rw [hp]; decide)] at h
   obtain ⟨k,A,n,c,code,B,nb,cb,C,nq,cc⟩ := p
   obtain ⟨h1,h2,h3,h4,h5,h6,qs,h7,h8,h9⟩ := h
   simp only at h1 h2 h3 h4 h5 h6 h8
   subst h1 h2 h3 h4 h6
   match qs,h7,h8,h9 with
   | [(q0,F0),(q1,F1)],_,h8,h9 =>
     obtain ⟨⟨a1,a2,a3,a4,a5,a6,a7,a8⟩,_⟩ := h9 0 _ (q0,F0) rfl rfl
     obtain ⟨⟨b1,b2,b3,b4,b5,b6,b7,b8⟩,_⟩ := h9 1 _ (q1,F1) rfl rfl
     simp only at a1 a4 a5 a7 b1 b4 b5 b7
     refine ⟨q1.B,q1.cb,b7.1,b5,fun W hW => ?_⟩
     have h := inside_seal A c 0 B 0 cb C cc q0 q1 W (h5.1.below hW) (Rv.below h8.1 hW) a1 b1 (Rb.below a7.1 hW) a4 a5
     rw [b4] at h
     exact h
end
section
open Go.RowKit
def val1 (nm : List UInt8) (fs : List (List UInt8 × List UInt8)) : List UInt8 := ((Fd.valsN nm fs).head?).getD []
def whoP (v : List UInt8) : List UInt8 × Bool := match Tk.addrP v with | .ok a => (a,true) | .error _ => ([],false)
def oneP (v : List UInt8) : List UInt8 × Bool := match Tk.idsP v with | .ok [i] => (i,Pk.idOk i) | _ => ([],false)
theorem ret_pair {a a' : List UInt8} {z z' : Bool} (h1 : a = a') (h2 : z = z') : Ending.returned (.tuple #[.string (bs a),.bool z]) = .returned (.tuple #[.string (bs a'),.bool z']) := by rw [h1,h2]
theorem who_any (A A2 : Option Addr) (fs : List (List UInt8 × List UInt8)) (nm : List UInt8) (n c n2 c2 : Nat) (w : World) (hn : fs.length = n) (hA : Fd.Rf w A fs) (hG : Gm w) (hnm : nm.length ≤ 1000000000) (hb : n ≤ 1000000) (hvl : (val1 nm fs).length ≤ 1000000) :
 Calls Tryz.prog 41 #[.agg #[.slice A n c,.slice A2 n2 c2],.string (bs nm)] w fun e w' => e = .returned (.tuple #[.string (bs (whoP (val1 nm fs)).1),.bool (whoP (val1 nm fs)).2]) ∧ Below w.heap.size w w' := by
 have hB0 : Below w.heap.size w (w.alloc (.cells #[.slice A n c,.slice A2 n2 c2] 39)) := (Below.refl _ _).alloc (Nat.le_refl _) _
 have hg := Fd.get_any A A2 fs nm n c n2 c2 (w.alloc (.cells #[.slice A n c,.slice A2 n2 c2] 39)) hn (hA.below hB0) (tabs_below hG.tabs hB0) hnm hb
 obtain ⟨v,hv⟩ : ∃ v,val1 nm fs = v := ⟨_,rfl⟩
 rw [hv] at hvl ⊢
 unfold val1 at hv
 have HV := Lib.hid hv
 clear hv
 have ha := fun W (hW : Below w.heap.size w W) => Tk.addr_any v W (hG.below hW).mx hvl
 cases hp : Tk.addrP v with
 | error k =>
   rw [hp] at ha
   have hk : ((k : Int) == 0) = false := by
    rw [beq_eq_false_iff_ne]
    have := addrP_err' hp
    omega
   have HW := Lib.hid (show whoP v = ([],false) by unfold whoP; rw [hp])
   have ha' : ∀ W,Below w.heap.size w W → Calls Tryz.prog 86 #[.string (bs v)] W fun e w' => e = .returned (.tuple #[.string (bs []),.int .i64 (k : Int)]) ∧ Below W.heap.size W w' := ha
   clear ha hp
   go_enter Tryz.func41,Tryz.ntmps41
   go_wp2_with fail
   refine hg.mono ?_
   rintro e w1 ⟨hgo,hb0⟩
   have hb1 := hB0.trans (hb0.mono hB0.size)
   obtain ⟨bo,hgo⟩ := get_form hgo
   rw [HV.out] at hgo
   subst hgo
   clear hg
   go_wp2_with fail
   refine (ha' w1 hb1).mono ?_
   rintro e w2 ⟨rfl,hb2⟩
   go_wp2_with fail
   go_ret2
   exact ⟨ret_pair (by rw [HW.out]) (by rw [HW.out]),hb1.trans (hb2.mono hb1.size)⟩
 | ok a =>
   rw [hp] at ha
   have HW := Lib.hid (show whoP v = (a,true) by unfold whoP; rw [hp])
   have ha' : ∀ W,Below w.heap.size w W → Calls Tryz.prog 86 #[.string (bs v)] W fun e w' => e = .returned (.tuple #[.string (bs a),.int .i64 0]) ∧ Below W.heap.size W w' := ha
   clear ha hp
   go_enter Tryz.func41,Tryz.ntmps41
   go_wp2_with fail
   refine hg.mono ?_
   rintro e w1 ⟨hgo,hb0⟩
   have hb1 := hB0.trans (hb0.mono hB0.size)
   obtain ⟨bo,hgo⟩ := get_form hgo
   rw [HV.out] at hgo
   subst hgo
   clear hg
   go_wp2_with fail
   refine (ha' w1 hb1).mono ?_
   rintro e w2 ⟨rfl,hb2⟩
   go_wp2_with fail
   go_ret2
   exact ⟨ret_pair (by rw [HW.out]) (by rw [HW.out]),hb1.trans (hb2.mono hb1.size)⟩
theorem idsP_err {v : List UInt8} {k : Nat} (h : Tk.idsP v = .error k) : 1 ≤ k := by
 unfold Tk.idsP at h
 cases hb : Tk.bareP v with
 | error e =>
   rw [hb] at h
   cases h
   have := Tk.bareP_err _ _ _ (Nat.le_refl _) hb
   omega
 | ok b =>
   rw [hb] at h
   simp only at h
   have key : ∀ (n : Nat) (l : List UInt8) (k : Nat),Tk.idsN n l = .error k → k = 3 := by
    intro n
    induction n with
    | zero => intro l k h; cases h; rfl
    | succ n ih =>
      intro l k h
      unfold Tk.idsN at h
      split at h
      ·cases h
      ·split at h
       ·split at h
        ·cases h; rfl
        ·split at h
         ·cases hi : Tk.idsN n _ with
          | error e => rw [hi] at h; cases h; exact ih _ _ hi
          | ok o => rw [hi] at h; cases h
         ·cases h; rfl
       ·cases h; rfl
   have := key _ _ _ h
   omega
theorem one_any (A A2 : Option Addr) (fs : List (List UInt8 × List UInt8)) (nm : List UInt8) (n c n2 c2 : Nat) (w : World) (hn : fs.length = n) (hA : Fd.Rf w A fs) (hG : Gm w) (hnm : nm.length ≤ 1000000000) (hb : n ≤ 1000000) (hvl : (val1 nm fs).length ≤ 1000000)
 (hil : ∀ ids,Tk.idsP (val1 nm fs) = .ok ids → ids.length ≤ 1000000 ∧ ∀ i ∈ ids,i.length ≤ 1000000) :
 Calls Tryz.prog 42 #[.agg #[.slice A n c,.slice A2 n2 c2],.string (bs nm)] w fun e w' => e = .returned (.tuple #[.string (bs (oneP (val1 nm fs)).1),.bool (oneP (val1 nm fs)).2]) ∧ Below w.heap.size w w' := by
 have hB0 : Below w.heap.size w (w.alloc (.cells #[.slice A n c,.slice A2 n2 c2] 39)) := (Below.refl _ _).alloc (Nat.le_refl _) _
 have hg := Fd.get_any A A2 fs nm n c n2 c2 (w.alloc (.cells #[.slice A n c,.slice A2 n2 c2] 39)) hn (hA.below hB0) (tabs_below hG.tabs hB0) hnm hb
 obtain ⟨v,hv⟩ : ∃ v,val1 nm fs = v := ⟨_,rfl⟩
 rw [hv] at hvl hil ⊢
 unfold val1 at hv
 have HV := Lib.hid hv
 clear hv
 have ha := fun W (hW : Below w.heap.size w W) => Tk.tids_any v W (hG.below hW).mx hvl
 cases hp : Tk.idsP v with
 | error k =>
   rw [hp] at ha
   have hk : ((k : Int) != 0) = true := by
    rw [bne_iff_ne]
    have := idsP_err hp
    omega
   have HW := Lib.hid (show oneP v = ([],false) by unfold oneP; rw [hp])
   have ha' : ∀ W,Below w.heap.size w W → Calls Tryz.prog 87 #[.string (bs v)] W fun e w' => e = .returned (.tuple #[.slice none 0 0,.int .i64 (k : Int)]) ∧ Below W.heap.size W w' := ha
   clear ha hp hil
   go_enter Tryz.func42,Tryz.ntmps42
   go_wp2_with fail
   refine hg.mono ?_
   rintro e w1 ⟨hgo,hb0⟩
   have hb1 := hB0.trans (hb0.mono hB0.size)
   obtain ⟨bo,hgo⟩ := get_form hgo
   rw [HV.out] at hgo
   subst hgo
   clear hg
   go_wp2_with fail
   refine (ha' w1 hb1).mono ?_
   rintro e w2 ⟨rfl,hb2⟩
   go_wp2_with fail
   go_ret2
   exact ⟨ret_pair (by rw [HW.out]) (by rw [HW.out]),hb1.trans (hb2.mono hb1.size)⟩
 | ok ids =>
   rw [hp] at ha
   obtain ⟨hl1,hl2⟩ := hil ids hp
   have ha' : ∀ W,Below w.heap.size w W → Calls Tryz.prog 87 #[.string (bs v)] W fun e w' => (∃ x,e = .returned (.tuple #[x,.int .i64 0]) ∧ w'.ownsRow W.heap.size 9 1 x ids.length (ids.map Tk.sv)) ∧ Below W.heap.size W w' := ha
   by_cases h1 : ids.length = 1
   ·obtain ⟨i,rfl⟩ := List.length_eq_one_iff.1 h1
    have HW := Lib.hid (show oneP v = (i,Pk.idOk i) by unfold oneP; rw [hp])
    have hil := hl2 i (by simp)
    clear ha hp hl2
    go_enter Tryz.func42,Tryz.ntmps42
    go_wp2_with fail
    refine hg.mono ?_
    rintro e w1 ⟨hgo,hb0⟩
    have hb1 := hB0.trans (hb0.mono hB0.size)
    obtain ⟨bo,hgo⟩ := get_form hgo
    rw [HV.out] at hgo
    subst hgo
    clear hg
    go_wp2_with fail
    refine (ha' w1 hb1).mono ?_
    rintro e w2 ⟨⟨x,rfl,hown⟩,hb2⟩
    obtain ⟨X,cx,rfl,_,_,hR,_⟩ := own_form hown
    obtain ⟨b,o,rfl,hcell⟩ := hR (by simp)
    have k0 : w2.cell? ⟨b,o,none⟩ = some (.string (bs i)) := hcell 0 _ rfl
    clear hcell
    have hB2 := hb1.trans (hb2.mono hb1.size)
    have hcell : ∀ W,Below w2.heap.size w2 W → W.cell? ⟨b,o,none⟩ = some (.string (bs i)) := fun W h => (h.cell (p := ⟨b,o,none⟩) (cell_lt k0)).trans k0
    have HC := Lib.hid hcell
    have h00 : Below w2.heap.size w2 w2 := Below.refl _ _
    have h01 : Below w2.heap.size w2 w2.drew := h00.drew
    have m00 := HC.out _ h01
    have hidc : ∀ W,Below w2.heap.size w2 W → Calls Tryz.prog 52 #[.string (bs i)] W fun e w' => e = .returned (.bool (Pk.idOk i)) ∧ Below w2.heap.size w2 w' := fun W h => (Pk.id_any i W (by omega)).mono fun e w' r => ⟨r.1,h.trans (r.2.mono h.size)⟩
    clear hcell
    go_wp2_with fail
    refine wp_region_held_drew (S := (fun W' => Below w2.heap.size w2 W' ∧ W'.cell? ⟨b,o,none⟩ = some (.string (bs i)))) (by kernel_rfl) (by exact ⟨by with_reducible assumption,by with_reducible assumption⟩) (fun hHeld => ?_)
    refine wpAnyH_take (i := 0) (v := ?_) rfl (by kernel_rfl) (by kernel_rfl) (by kernel_rfl) (fun _ _ _ h => h) (Or.inl ⟨by rfl,?_⟩) (by assumption) ?_
    rotate_left 1
    focus (intro w hSw; (try dsimp only at hSw); go_simp; (try with_reducible rfl))
    (try simp only [Act.put,List.setIfInBounds_toArray,List.set_cons_zero,List.set_cons_succ,List.getElem_toArray,List.getElem_cons_zero,List.getElem_cons_succ])
    refine wpAnyH_take (i := 1) (v := ?_) rfl (by kernel_rfl) (by kernel_rfl) (by kernel_rfl) (fun _ _ _ h => h) (Or.inl ⟨by rfl,?_⟩) (by assumption) ?_
    rotate_left 1
    focus (intro w hSw; (try dsimp only at hSw); go_simp; (try with_reducible rfl))
    (try simp only [Act.put,List.setIfInBounds_toArray,List.set_cons_zero,List.set_cons_succ,List.getElem_toArray,List.getElem_cons_zero,List.getElem_cons_succ])
    refine wpAnyH_take (i := 2) (v := ?_) rfl (by kernel_rfl) (by kernel_rfl) (by kernel_rfl) (fun _ _ _ h => h) (Or.inl ⟨by rfl,?_⟩) (by assumption) ?_
    rotate_left 1
    focus (intro w hSw; (try dsimp only at hSw); go_simp; (try with_reducible rfl))
    (try simp only [Act.put,List.setIfInBounds_toArray,List.set_cons_zero,List.set_cons_succ,List.getElem_toArray,List.getElem_cons_zero,List.getElem_cons_succ])
    refine wpAnyH_take (i := 3) (v := ?_) rfl (by kernel_rfl) (by kernel_rfl) (by kernel_rfl) (fun _ _ _ h => h) (Or.inl ⟨by rfl,?_⟩) (by assumption) ?_
    rotate_left 1
    focus (intro w hSw; (try dsimp only at hSw); go_simp; (try with_reducible rfl))
    (try simp only [Act.put,List.setIfInBounds_toArray,List.set_cons_zero,List.set_cons_succ,List.getElem_toArray,List.getElem_cons_zero,List.getElem_cons_succ])
    refine wpAnyH_take (i := 4) (v := ?_) rfl (by kernel_rfl) (by kernel_rfl) (by kernel_rfl) (fun _ _ _ h => h) (Or.inl ⟨by rfl,?_⟩) (by assumption) ?_
    rotate_left 1
    focus (intro w hSw; (try dsimp only at hSw); go_simp; (try with_reducible rfl))
    (try simp only [Act.put,List.setIfInBounds_toArray,List.set_cons_zero,List.set_cons_succ,List.getElem_toArray,List.getElem_cons_zero,List.getElem_cons_succ])
    refine wpAnyH_take (i := 5) (v := ?_) rfl (by kernel_rfl) (by kernel_rfl) (by kernel_rfl) (fun _ _ _ h => h) (Or.inl ⟨by rfl,?_⟩) (by assumption) ?_
    rotate_left 1
    focus (intro w hSw; (try dsimp only at hSw); go_simp; (try with_reducible rfl))
    (try simp only [Act.put,List.setIfInBounds_toArray,List.set_cons_zero,List.set_cons_succ,List.getElem_toArray,List.getElem_cons_zero,List.getElem_cons_succ])
    refine wpAnyH_ready (rs := [6]) (by kernel_rfl) (by simp) (AllReadyH.cons rfl (fun K hK => ?_) AllReadyH.nil)
    go_simp
    first | (refine hK.out _ _ hHeld (fun hHeld => ?_)) | (go_wp2_with ((go_at_call 52; (with_reducible refine (hidc _ (by with_reducible assumption)).mono ?_); rintro e x1 ⟨rfl,hx1⟩; have m10 := HC.out _ hx1)); refine hK.out _ _ (by exact ⟨by with_reducible assumption,by with_reducible assumption⟩) (fun hHeld => ?_))
    clear hK K
    (try simp only [Act.put,List.setIfInBounds_toArray,List.set_cons_zero,List.set_cons_succ,List.getElem_toArray,List.getElem_cons_zero,List.getElem_cons_succ])
    refine wpAnyH_take (i := 7) (v := ?_) rfl (by kernel_rfl) (by kernel_rfl) (by kernel_rfl) (fun _ _ _ h => h) (Or.inl ⟨by rfl,?_⟩) (by assumption) ?_
    rotate_left 1
    focus (intro w hSw; (try dsimp only at hSw); go_simp; (try with_reducible rfl))
    (try simp only [Act.put,List.setIfInBounds_toArray,List.set_cons_zero,List.set_cons_succ,List.getElem_toArray,List.getElem_cons_zero,List.getElem_cons_succ])
    refine wpAnyH_take (i := 8) (v := ?_) rfl (by kernel_rfl) (by kernel_rfl) (by kernel_rfl) (fun _ _ _ h => h) (Or.inl ⟨by rfl,?_⟩) (by assumption) ?_
    rotate_left 1
    focus (intro w hSw; (try dsimp only at hSw); go_simp; (try with_reducible rfl))
    (try simp only [Act.put,List.setIfInBounds_toArray,List.set_cons_zero,List.set_cons_succ,List.getElem_toArray,List.getElem_cons_zero,List.getElem_cons_succ])
    refine wpAnyH_done (by kernel_rfl) ?_ _
    go_wp2_with fail
    go_ret2
    exact ⟨ret_pair (by rw [HW.out]) (by rw [HW.out]),hB2.trans (Below.mono (by assumption) hB2.size)⟩
   ·have HW := Lib.hid (show oneP v = ([],false) by
     unfold oneP
     rw [hp]
     match ids,h1 with
     | [],_ => rfl
     | [_],h => exact absurd rfl h
     | _ :: _ :: _,_ => rfl)
    obtain ⟨m,hm⟩ : ∃ m,ids.length = m := ⟨_,rfl⟩
    rw [hm] at h1 hl1
    have hbm : ((m : Int) != 1) = true := by rw [bne_iff_ne]; omega
    clear ha hp hl2
    go_enter Tryz.func42,Tryz.ntmps42
    go_wp2_with fail
    refine hg.mono ?_
    rintro e w1 ⟨hgo,hb0⟩
    have hb1 := hB0.trans (hb0.mono hB0.size)
    obtain ⟨bo,hgo⟩ := get_form hgo
    rw [HV.out] at hgo
    subst hgo
    clear hg
    go_wp2_with fail
    refine (ha' w1 hb1).mono ?_
    rintro e w2 ⟨⟨x,rfl,hown⟩,hb2⟩
    rw [hm] at hown
    obtain ⟨X,cx,rfl,_,_,hR,_⟩ := own_form hown
    have hB2 := hb1.trans (hb2.mono hb1.size)
    go_wp2_with fail
    go_ret2
    exact ⟨ret_pair (by rw [HW.out]) (by rw [HW.out]),hB2⟩
end
end Go.Proofs.YtkllecicddfjpaaGreatDoor
