/- The walk of the law, part 21. -/
import Derived.Test.YtkllecicddfjpaaGreatDoorJ20
import Derived.Laws.ResultCell
import Derived.Deep.RegionHeldLaw
import Derived.Test.YtkllecicddfjpaaGreatDoorJ11
import Derived.Test.YtkllecicddfjpaaGreatDoorJ05
import Derived.Test.YtkllecicddfjpaaGreatDoorJ02
import Derived.Test.YtkllecicddfjpaaGreatDoorJ19
set_option maxRecDepth 100000
set_option maxHeartbeats 16000000
set_option linter.unusedVariables false
set_option linter.unusedSimpArgs false
namespace Go.Proofs.YtkllecicddfjpaaGreatDoor
section
namespace Tk.W
open Go.RowKit
theorem cut_here {s : UInt8} {l : List UInt8} {q : Nat} (h : (l.take q).all (fun c => c != s) = true) (hc : l[q]? = some s) : cutAt s l = some (l.take q,l.drop (q + 1)) := by
 have hq := lt_of_get hc
 have e : l = l.take q ++ s :: l.drop (q + 1) := by
  have := List.drop_eq_getElem_cons hq
  rw [List.getElem?_eq_getElem hq] at hc
  rw [Option.some.inj hc] at this
  rw [← this,List.take_append_drop]
 have hn : s ∉ l.take q := fun hm => by
  have := List.all_eq_true.1 h s hm
  simp at this
 have := cutAt_app (b := l.drop (q + 1)) hn
 rw [← e] at this
 exact this
theorem cut_no {s : UInt8} {l : List UInt8} (h : l.all (fun c => c != s) = true) : cutAt s l = none := cutAt_not fun hm => by
 have := List.all_eq_true.1 h s hm
 simp at this
theorem u8_ne {c s : UInt8} (h : c ≠ s) : ((c.toNat : Int) != (s.toNat : Int)) = true := by rw [u8_bne]; simp [h]
theorem rkind_any (l : List UInt8) (w : World) (hl : l.length ≤ 1000000000) :
  Calls Tryz.prog 142 #[.string (bs l)] w fun e w' => e = .returned (.bool (kindB l)) ∧ w' = w := by
 go_enter Tryz.func142,Tryz.ntmps142
 go_wp2_with fail
 go_loopw [3] (fun i wr => ∃ q : Nat,i = .int .i64 q ∧ q ≤ l.length ∧ Hid ((l.take q).all (fun c => c != 47) = true) ∧ wr = w) (fun i _ => l.length - (intOf i).toNat)
 case atStart => exact ⟨0,rfl,by omega,Lib.hid (by simp),rfl⟩
 case round =>
  obtain ⟨q,rfl,hq,ha,rfl⟩ := hrel
  by_cases hlt : q < l.length
  ·obtain ⟨c,hc⟩ : ∃ c,l[q]? = some c := ⟨_,List.getElem?_eq_getElem hlt⟩
   have hi := str_index (P := Tryz.prog) Tryz.underlying9 hc .i64
   by_cases h : c = 47
   ·have hk : kindB l = (atomB (l.take q) && atomB (l.drop (q + 1))) := by
     unfold kindB
     rw [cut_here ha.out (by rw [hc,h])]
    have hne : ((c.toNat : Int) != 47) = false := by rw [h]; rfl
    have h0 : (q : Int) + 1 ≤ (l.length : Int) := by omega
    have ht : (l.take q).length = q := by simp; omega
    have hd : (l.drop (q + 1)).length = l.length - (q + 1) := by simp
    have hat := fun W => ratom_any (l.take q) W (by omega)
    have had := fun W => ratom_any (l.drop (q + 1)) W (by omega)
    have h4 : (l.drop (q + 1)).take (l.length - (q + 1)) = l.drop (q + 1) := List.take_of_length_le (by omega)
    have HK := Lib.hid hk
    clear hk h hc ha ht hd
    rcases Bool.eq_false_or_eq_true (atomB (l.take q)) with h1 | h1
    ·rw [h1] at hat HK
     go_wp2_with fail
     refine (hat _).mono ?_
     rintro e w' ⟨rfl,rfl⟩
     go_wp2_with fail
     (try rw [h4])
     refine (had _).mono ?_
     rintro e w' ⟨rfl,rfl⟩
     go_wp2_with fail
     go_ret
     exact ⟨ret_bool HK.out.symm,by first | rfl | trivial⟩
    ·rw [h1] at hat HK
     go_wp2_with fail
     refine (hat _).mono ?_
     rintro e w' ⟨rfl,rfl⟩
     go_wp2_with fail
     go_ret
     exact ⟨ret_bool HK.out.symm,by first | rfl | trivial⟩
   ·have hne : ((c.toNat : Int) != 47) = true := u8_ne h
    have HST := Lib.hid (show (l.take (q + 1)).all (fun c => c != 47) = true by rw [all_take _ _ hc,ha.out]; simp [h])
    clear h hc ha
    go_wp2_with fail
    go_roundw
    case rel => exact ⟨q + 1,by go_num,by omega,HST,by first | rfl | trivial⟩
    case measure => simp [intOf]; omega
  ·obtain rfl : q = l.length := by omega
   have hno := ha.out
   rw [List.take_length] at hno
   have hk : kindB l = false := by unfold kindB; rw [cut_no hno]
   have HK := Lib.hid hk
   clear hk hno ha
   go_wp2_with fail
   go_ret
   exact ⟨ret_bool HK.out.symm,by first | rfl | trivial⟩
end Tk.W
end
section
open Go.RowKit
namespace Tk.W
theorem Rp_one {w : World} {A : Option Addr} {fs : List (List UInt8 × List UInt8)} (h : Rv w A (pcells fs)) {k : Nat} (hk : k < fs.length) :
  ∃ b o p,A = some ⟨b,o,none⟩ ∧ Hid (fs[k]? = some p) ∧ w.cell? ⟨b,o + k * 2,none⟩ = some (.string (bs p.1)) ∧ w.cell? ⟨b,o + k * 2 + 1,none⟩ = some (.string (bs p.2)) := by
 obtain ⟨b,o,rfl,hc⟩ := h (by rw [pcells_len]; omega)
 obtain ⟨p,hp⟩ : ∃ p,fs[k]? = some p := ⟨_,List.getElem?_eq_getElem hk⟩
 obtain ⟨h1,h2⟩ := pcells_get hp
 refine ⟨b,o,p,rfl,Lib.hid hp,?_,?_⟩
 ·have := hc _ _ h1
  rwa [show o + 2 * k = o + k * 2 by omega] at this
 ·have := hc _ _ h2
  rwa [show o + (2 * k + 1) = o + k * 2 + 1 by omega] at this
theorem rright_any (kind : List UInt8) (A : Option Addr) (fs : List (List UInt8 × List UInt8)) (n c : Nat) (w : World) (hk : kind.length ≤ 1000) (hn : fs.length = n) (hA : Rv w A (pcells fs)) (hb : n ≤ 1000) (hs : ∀ p ∈ fs,p.1.length ≤ 140737488351232 ∧ p.2.length ≤ 140737488351232) (hr : rightB kind fs = true) :
  Calls Tryz.prog 72 #[.string (bs kind),.slice A n c] w fun e w' => e = .returned (.bool true) ∧ Below w.heap.size w w' := by
 have HN := Lib.hid hn
 have HS := Lib.hid hs
 unfold rightB at hr
 simp only [Bool.and_eq_true,decide_eq_true_eq,List.all_eq_true] at hr
 obtain ⟨⟨hr1,hr2⟩,hr3⟩ := hr
 have HR := Lib.hid hr3
 have hki := fun W => rkind_any kind W (by omega)
 have hlk := fun W => rlower_any kind W (by omega)
 rw [hr1] at hki
 rw [hr2] at hlk
 clear hn hs hr3 hr1 hr2
 go_enter Tryz.func72,Tryz.ntmps72
 go_wp2_with fail
 go_loopw [5] (fun i wr => ∃ k : Nat,i = .int .i64 k ∧ k ≤ n ∧ Below w.heap.size w wr) (fun i _ => n - (intOf i).toNat)
 case atStart => exact ⟨0,rfl,by omega,Below.refl _ _⟩
 case round =>
  obtain ⟨k,rfl,hkn,hB⟩ := hrel
  by_cases hlt : k < n
  ·obtain ⟨b,o,p,rfl,hp,h0,h1⟩ := Rp_one (hA.below hB) (k := k) (by rw [HN.out]; exact hlt)
   obtain ⟨l1,l2⟩ := HS.out p (List.mem_of_getElem? hp.out)
   have hpo := HR.out p (List.mem_of_getElem? hp.out)
   obtain ⟨na,va⟩ := p
   unfold parOk at hpo
   simp only [Bool.and_eq_true,decide_eq_true_eq] at hpo
   obtain ⟨⟨q1,q2⟩,q3⟩ := hpo
   simp only at l1 l2 h0 h1
   have hcell : ∀ W,Below wr.heap.size wr W → W.cell? ⟨b,o + k * 2,none⟩ = some (.string (bs na)) ∧ W.cell? ⟨b,o + k * 2 + 1,none⟩ = some (.string (bs va)) := fun W h => ⟨(h.cell (p := ⟨b,o + k * 2,none⟩) (cell_lt h0)).trans h0,(h.cell (p := ⟨b,o + k * 2 + 1,none⟩) (cell_lt h1)).trans h1⟩
   have HC := Lib.hid hcell
   have h00 : Below wr.heap.size wr wr.drew := (Below.refl _ _).drew
   obtain ⟨m00,m01⟩ := HC.out _ h00
   have hat : ∀ W,Below wr.heap.size wr W → Calls Tryz.prog 140 #[.string (bs na)] W fun e w' => e = .returned (.bool true) ∧ Below wr.heap.size wr w' := fun W h => (ratom_any na W (by omega)).mono fun e w' r => ⟨by rw [← q1]; exact r.1,by rw [r.2]; exact h⟩
   have hlo : ∀ W,Below wr.heap.size wr W → Calls Tryz.prog 59 #[.string (bs na)] W fun e w' => e = .returned (.string (bs na)) ∧ Below wr.heap.size wr w' := fun W h => (rlower_any na W l1).mono fun e w' r => ⟨by have := r.1; rwa [q2] at this,h.trans (r.2.mono h.size)⟩
   have hva : ∀ W,Below wr.heap.size wr W → Calls Tryz.prog 141 #[.string (bs va)] W fun e w' => e = .returned (.bool true) ∧ Below wr.heap.size wr w' := fun W h => (rvalue_any va W (by omega)).mono fun e w' r => ⟨by rw [← q3]; exact r.1,h.trans ((r.2.below _).mono h.size)⟩
   clear h0 h1 hcell hp hA q1 q2 q3
   have hne : (na != na) = false := bne_self_eq_false _
   go_wp2_with fail
   refine wp_region_held_drew (S := (fun w' => Below wr.heap.size wr w' ∧ w'.cell? ⟨b,o + k * 2,none⟩ = some (.string (bs na)) ∧ w'.cell? ⟨b,o + k * 2 + 1,none⟩ = some (.string (bs va)))) (by kernel_rfl) (by exact ⟨by with_reducible assumption,by with_reducible assumption,by with_reducible assumption⟩) (fun hHeld => ?_)
   refine wpAnyH_take (i := 0) (v := ?_) rfl (by kernel_rfl) (by kernel_rfl) (by kernel_rfl) (fun _ _ _ h => h) (Or.inl ⟨by rfl,?_⟩) (by assumption) ?_
   rotate_left 1
   focus (intro w hSw; (try dsimp only at hSw); go_simp; (try with_reducible rfl))
   (try simp only [Act.put,List.setIfInBounds_toArray,List.set_cons_zero,List.set_cons_succ,List.getElem_toArray,List.getElem_cons_zero,List.getElem_cons_succ])
   refine wpAnyH_take (i := 1) (v := ?_) rfl (by kernel_rfl) (by kernel_rfl) (by kernel_rfl) (fun _ _ _ h => h) (Or.inl ⟨by rfl,?_⟩) (by assumption) ?_
   rotate_left 1
   focus (intro w hSw; (try dsimp only at hSw); go_simp; (try with_reducible rfl))
   (try simp only [Act.put,List.setIfInBounds_toArray,List.set_cons_zero,List.set_cons_succ,List.getElem_toArray,List.getElem_cons_zero,List.getElem_cons_succ])
   refine wpAnyH_take (i := 2) (v := ?_) rfl (by kernel_rfl) (by kernel_rfl) (by kernel_rfl) (fun _ _ _ h => h) (Or.inl ⟨by rfl,?_⟩) (by assumption) ?_
   rotate_left 1
   focus (intro w hSw; (try dsimp only at hSw); go_simp; (try with_reducible rfl))
   (try simp only [Act.put,List.setIfInBounds_toArray,List.set_cons_zero,List.set_cons_succ,List.getElem_toArray,List.getElem_cons_zero,List.getElem_cons_succ])
   refine wpAnyH_take (i := 3) (v := ?_) rfl (by kernel_rfl) (by kernel_rfl) (by kernel_rfl) (fun _ _ _ h => h) (Or.inl ⟨by rfl,?_⟩) (by assumption) ?_
   rotate_left 1
   focus (intro w hSw; (try dsimp only at hSw); go_simp; (try with_reducible rfl))
   (try simp only [Act.put,List.setIfInBounds_toArray,List.set_cons_zero,List.set_cons_succ,List.getElem_toArray,List.getElem_cons_zero,List.getElem_cons_succ])
   refine wpAnyH_take (i := 4) (v := ?_) rfl (by kernel_rfl) (by kernel_rfl) (by kernel_rfl) (fun _ _ _ h => h) (Or.inl ⟨by rfl,?_⟩) (by assumption) ?_
   rotate_left 1
   focus (intro w hSw; (try dsimp only at hSw); go_simp; (try with_reducible rfl))
   (try simp only [Act.put,List.setIfInBounds_toArray,List.set_cons_zero,List.set_cons_succ,List.getElem_toArray,List.getElem_cons_zero,List.getElem_cons_succ])
   refine wpAnyH_ready (rs := [5]) (by kernel_rfl) (by simp) (AllReadyH.cons rfl (fun K hK => ?_) AllReadyH.nil)
   go_simp
   first | (refine hK.out _ _ hHeld (fun hHeld => ?_)) | (go_wp2_with (first | (go_at_call 140; (with_reducible refine (hat _ (by with_reducible assumption)).mono ?_); rintro e x1 ⟨rfl,hx1⟩; obtain ⟨m10,m11⟩ := HC.out _ hx1) | (go_at_call 59; (with_reducible refine (hlo _ (by with_reducible assumption)).mono ?_); rintro e x2 ⟨rfl,hx2⟩; obtain ⟨m20,m21⟩ := HC.out _ hx2) | (go_at_call 141; (with_reducible refine (hva _ (by with_reducible assumption)).mono ?_); rintro e x3 ⟨rfl,hx3⟩; obtain ⟨m30,m31⟩ := HC.out _ hx3)); refine hK.out _ _ (by exact ⟨by with_reducible assumption,by with_reducible assumption,by with_reducible assumption⟩) (fun hHeld => ?_))
   clear hK K
   (try simp only [Act.put,List.setIfInBounds_toArray,List.set_cons_zero,List.set_cons_succ,List.getElem_toArray,List.getElem_cons_zero,List.getElem_cons_succ])
   refine wpAnyH_take (i := 6) (v := ?_) rfl (by kernel_rfl) (by kernel_rfl) (by kernel_rfl) (fun _ _ _ h => h) (Or.inl ⟨by rfl,?_⟩) (by assumption) ?_
   rotate_left 1
   focus (intro w hSw; (try dsimp only at hSw); go_simp; (try with_reducible rfl))
   (try simp only [Act.put,List.setIfInBounds_toArray,List.set_cons_zero,List.set_cons_succ,List.getElem_toArray,List.getElem_cons_zero,List.getElem_cons_succ])
   refine wpAnyH_take (i := 7) (v := ?_) rfl (by kernel_rfl) (by kernel_rfl) (by kernel_rfl) (fun _ _ _ h => h) (Or.inl ⟨by rfl,?_⟩) (by assumption) ?_
   rotate_left 1
   focus (intro w hSw; (try dsimp only at hSw); go_simp; (try with_reducible rfl))
   (try simp only [Act.put,List.setIfInBounds_toArray,List.set_cons_zero,List.set_cons_succ,List.getElem_toArray,List.getElem_cons_zero,List.getElem_cons_succ])
   refine wpAnyH_take (i := 8) (v := ?_) rfl (by kernel_rfl) (by kernel_rfl) (by kernel_rfl) (fun _ _ _ h => h) (Or.inl ⟨by rfl,?_⟩) (by assumption) ?_
   rotate_left 1
   focus (intro w hSw; (try dsimp only at hSw); go_simp; (try with_reducible rfl))
   (try simp only [Act.put,List.setIfInBounds_toArray,List.set_cons_zero,List.set_cons_succ,List.getElem_toArray,List.getElem_cons_zero,List.getElem_cons_succ])
   refine wpAnyH_take (i := 9) (v := ?_) rfl (by kernel_rfl) (by kernel_rfl) (by kernel_rfl) (fun _ _ _ h => h) (Or.inl ⟨by rfl,?_⟩) (by assumption) ?_
   rotate_left 1
   focus (intro w hSw; (try dsimp only at hSw); go_simp; (try with_reducible rfl))
   (try simp only [Act.put,List.setIfInBounds_toArray,List.set_cons_zero,List.set_cons_succ,List.getElem_toArray,List.getElem_cons_zero,List.getElem_cons_succ])
   refine wpAnyH_take (i := 10) (v := ?_) rfl (by kernel_rfl) (by kernel_rfl) (by kernel_rfl) (fun _ _ _ h => h) (Or.inl ⟨by rfl,?_⟩) (by assumption) ?_
   rotate_left 1
   focus (intro w hSw; (try dsimp only at hSw); go_simp; (try with_reducible rfl))
   (try simp only [Act.put,List.setIfInBounds_toArray,List.set_cons_zero,List.set_cons_succ,List.getElem_toArray,List.getElem_cons_zero,List.getElem_cons_succ])
   refine wpAnyH_take (i := 11) (v := ?_) rfl (by kernel_rfl) (by kernel_rfl) (by kernel_rfl) (fun _ _ _ h => h) (Or.inl ⟨by rfl,?_⟩) (by assumption) ?_
   rotate_left 1
   focus (intro w hSw; (try dsimp only at hSw); go_simp; (try with_reducible rfl))
   (try simp only [Act.put,List.setIfInBounds_toArray,List.set_cons_zero,List.set_cons_succ,List.getElem_toArray,List.getElem_cons_zero,List.getElem_cons_succ])
   refine wpAnyH_take (i := 12) (v := ?_) rfl (by kernel_rfl) (by kernel_rfl) (by kernel_rfl) (fun _ _ _ h => h) (Or.inl ⟨by rfl,?_⟩) (by assumption) ?_
   rotate_left 1
   focus (intro w hSw; (try dsimp only at hSw); go_simp; (try with_reducible rfl))
   (try simp only [Act.put,List.setIfInBounds_toArray,List.set_cons_zero,List.set_cons_succ,List.getElem_toArray,List.getElem_cons_zero,List.getElem_cons_succ])
   refine wpAnyH_take (i := 14) (v := ?_) rfl (by kernel_rfl) (by kernel_rfl) (by kernel_rfl) (fun _ _ _ h => h) (Or.inl ⟨by rfl,?_⟩) (by assumption) ?_
   rotate_left 1
   focus (intro w hSw; (try dsimp only at hSw); go_simp; (try with_reducible rfl))
   (try simp only [Act.put,List.setIfInBounds_toArray,List.set_cons_zero,List.set_cons_succ,List.getElem_toArray,List.getElem_cons_zero,List.getElem_cons_succ])
   refine wpAnyH_take (i := 15) (v := ?_) rfl (by kernel_rfl) (by kernel_rfl) (by kernel_rfl) (fun _ _ _ h => h) (Or.inl ⟨by rfl,?_⟩) (by assumption) ?_
   rotate_left 1
   focus (intro w hSw; (try dsimp only at hSw); go_simp; (try with_reducible rfl))
   (try simp only [Act.put,List.setIfInBounds_toArray,List.set_cons_zero,List.set_cons_succ,List.getElem_toArray,List.getElem_cons_zero,List.getElem_cons_succ])
   refine wpAnyH_take (i := 16) (v := ?_) rfl (by kernel_rfl) (by kernel_rfl) (by kernel_rfl) (fun _ _ _ h => h) (Or.inl ⟨by rfl,?_⟩) (by assumption) ?_
   rotate_left 1
   focus (intro w hSw; (try dsimp only at hSw); go_simp; (try with_reducible rfl))
   (try simp only [Act.put,List.setIfInBounds_toArray,List.set_cons_zero,List.set_cons_succ,List.getElem_toArray,List.getElem_cons_zero,List.getElem_cons_succ])
   refine wpAnyH_take (i := 17) (v := ?_) rfl (by kernel_rfl) (by kernel_rfl) (by kernel_rfl) (fun _ _ _ h => h) (Or.inl ⟨by rfl,?_⟩) (by assumption) ?_
   rotate_left 1
   focus (intro w hSw; (try dsimp only at hSw); go_simp; (try with_reducible rfl))
   (try simp only [Act.put,List.setIfInBounds_toArray,List.set_cons_zero,List.set_cons_succ,List.getElem_toArray,List.getElem_cons_zero,List.getElem_cons_succ])
   refine wpAnyH_take (i := 18) (v := ?_) rfl (by kernel_rfl) (by kernel_rfl) (by kernel_rfl) (fun _ _ _ h => h) (Or.inl ⟨by rfl,?_⟩) (by assumption) ?_
   rotate_left 1
   focus (intro w hSw; (try dsimp only at hSw); go_simp; (try with_reducible rfl))
   (try simp only [Act.put,List.setIfInBounds_toArray,List.set_cons_zero,List.set_cons_succ,List.getElem_toArray,List.getElem_cons_zero,List.getElem_cons_succ])
   refine wpAnyH_ready (rs := [13]) (by kernel_rfl) (by simp) (AllReadyH.cons rfl (fun K hK => ?_) AllReadyH.nil)
   go_simp
   first | (refine hK.out _ _ hHeld (fun hHeld => ?_)) | (go_wp2_with (first | (go_at_call 140; (with_reducible refine (hat _ (by with_reducible assumption)).mono ?_); rintro e x1 ⟨rfl,hx1⟩; obtain ⟨m10,m11⟩ := HC.out _ hx1) | (go_at_call 59; (with_reducible refine (hlo _ (by with_reducible assumption)).mono ?_); rintro e x2 ⟨rfl,hx2⟩; obtain ⟨m20,m21⟩ := HC.out _ hx2) | (go_at_call 141; (with_reducible refine (hva _ (by with_reducible assumption)).mono ?_); rintro e x3 ⟨rfl,hx3⟩; obtain ⟨m30,m31⟩ := HC.out _ hx3)); refine hK.out _ _ (by exact ⟨by with_reducible assumption,by with_reducible assumption,by with_reducible assumption⟩) (fun hHeld => ?_))
   clear hK K
   (try simp only [Act.put,List.setIfInBounds_toArray,List.set_cons_zero,List.set_cons_succ,List.getElem_toArray,List.getElem_cons_zero,List.getElem_cons_succ])
   refine wpAnyH_take (i := 19) (v := ?_) rfl (by kernel_rfl) (by kernel_rfl) (by kernel_rfl) (fun _ _ _ h => h) (Or.inl ⟨by rfl,?_⟩) (by assumption) ?_
   rotate_left 1
   focus (intro w hSw; (try dsimp only at hSw); go_simp; (try with_reducible rfl))
   (try simp only [Act.put,List.setIfInBounds_toArray,List.set_cons_zero,List.set_cons_succ,List.getElem_toArray,List.getElem_cons_zero,List.getElem_cons_succ])
   refine wpAnyH_take (i := 20) (v := ?_) rfl (by kernel_rfl) (by kernel_rfl) (by kernel_rfl) (fun _ _ _ h => h) (Or.inl ⟨by rfl,?_⟩) (by assumption) ?_
   rotate_left 1
   focus (intro w hSw; (try dsimp only at hSw); go_simp; (try with_reducible rfl))
   (try simp only [Act.put,List.setIfInBounds_toArray,List.set_cons_zero,List.set_cons_succ,List.getElem_toArray,List.getElem_cons_zero,List.getElem_cons_succ])
   refine wpAnyH_take (i := 21) (v := ?_) rfl (by kernel_rfl) (by kernel_rfl) (by kernel_rfl) (fun _ _ _ h => h) (Or.inl ⟨by rfl,?_⟩) (by assumption) ?_
   rotate_left 1
   focus (intro w hSw; (try dsimp only at hSw); go_simp; (try with_reducible rfl))
   (try simp only [Act.put,List.setIfInBounds_toArray,List.set_cons_zero,List.set_cons_succ,List.getElem_toArray,List.getElem_cons_zero,List.getElem_cons_succ])
   refine wpAnyH_take (i := 22) (v := ?_) rfl (by kernel_rfl) (by kernel_rfl) (by kernel_rfl) (fun _ _ _ h => h) (Or.inl ⟨by rfl,?_⟩) (by assumption) ?_
   rotate_left 1
   focus (intro w hSw; (try dsimp only at hSw); go_simp; (try with_reducible rfl))
   (try simp only [Act.put,List.setIfInBounds_toArray,List.set_cons_zero,List.set_cons_succ,List.getElem_toArray,List.getElem_cons_zero,List.getElem_cons_succ])
   refine wpAnyH_take (i := 23) (v := ?_) rfl (by kernel_rfl) (by kernel_rfl) (by kernel_rfl) (fun _ _ _ h => h) (Or.inl ⟨by rfl,?_⟩) (by assumption) ?_
   rotate_left 1
   focus (intro w hSw; (try dsimp only at hSw); go_simp; (try with_reducible rfl))
   (try simp only [Act.put,List.setIfInBounds_toArray,List.set_cons_zero,List.set_cons_succ,List.getElem_toArray,List.getElem_cons_zero,List.getElem_cons_succ])
   refine wpAnyH_take (i := 24) (v := ?_) rfl (by kernel_rfl) (by kernel_rfl) (by kernel_rfl) (fun _ _ _ h => h) (Or.inl ⟨by rfl,?_⟩) (by assumption) ?_
   rotate_left 1
   focus (intro w hSw; (try dsimp only at hSw); go_simp; (try with_reducible rfl))
   (try simp only [Act.put,List.setIfInBounds_toArray,List.set_cons_zero,List.set_cons_succ,List.getElem_toArray,List.getElem_cons_zero,List.getElem_cons_succ])
   refine wpAnyH_take (i := 25) (v := ?_) rfl (by kernel_rfl) (by kernel_rfl) (by kernel_rfl) (fun _ _ _ h => h) (Or.inl ⟨by rfl,?_⟩) (by assumption) ?_
   rotate_left 1
   focus (intro w hSw; (try dsimp only at hSw); go_simp; (try with_reducible rfl))
   (try simp only [Act.put,List.setIfInBounds_toArray,List.set_cons_zero,List.set_cons_succ,List.getElem_toArray,List.getElem_cons_zero,List.getElem_cons_succ])
   refine wpAnyH_take (i := 26) (v := ?_) rfl (by kernel_rfl) (by kernel_rfl) (by kernel_rfl) (fun _ _ _ h => h) (Or.inl ⟨by rfl,?_⟩) (by assumption) ?_
   rotate_left 1
   focus (intro w hSw; (try dsimp only at hSw); go_simp; (try with_reducible rfl))
   (try simp only [Act.put,List.setIfInBounds_toArray,List.set_cons_zero,List.set_cons_succ,List.getElem_toArray,List.getElem_cons_zero,List.getElem_cons_succ])
   refine wpAnyH_ready (rs := [27]) (by kernel_rfl) (by simp) (AllReadyH.cons rfl (fun K hK => ?_) AllReadyH.nil)
   go_simp
   first | (refine hK.out _ _ hHeld (fun hHeld => ?_)) | (go_wp2_with (first | (go_at_call 140; (with_reducible refine (hat _ (by with_reducible assumption)).mono ?_); rintro e x1 ⟨rfl,hx1⟩; obtain ⟨m10,m11⟩ := HC.out _ hx1) | (go_at_call 59; (with_reducible refine (hlo _ (by with_reducible assumption)).mono ?_); rintro e x2 ⟨rfl,hx2⟩; obtain ⟨m20,m21⟩ := HC.out _ hx2) | (go_at_call 141; (with_reducible refine (hva _ (by with_reducible assumption)).mono ?_); rintro e x3 ⟨rfl,hx3⟩; obtain ⟨m30,m31⟩ := HC.out _ hx3)); refine hK.out _ _ (by exact ⟨by with_reducible assumption,by with_reducible assumption,by with_reducible assumption⟩) (fun hHeld => ?_))
   clear hK K
   (try simp only [Act.put,List.setIfInBounds_toArray,List.set_cons_zero,List.set_cons_succ,List.getElem_toArray,List.getElem_cons_zero,List.getElem_cons_succ])
   refine wpAnyH_take (i := 28) (v := ?_) rfl (by kernel_rfl) (by kernel_rfl) (by kernel_rfl) (fun _ _ _ h => h) (Or.inl ⟨by rfl,?_⟩) (by assumption) ?_
   rotate_left 1
   focus (intro w hSw; (try dsimp only at hSw); go_simp; (try with_reducible rfl))
   (try simp only [Act.put,List.setIfInBounds_toArray,List.set_cons_zero,List.set_cons_succ,List.getElem_toArray,List.getElem_cons_zero,List.getElem_cons_succ])
   refine wpAnyH_take (i := 29) (v := ?_) rfl (by kernel_rfl) (by kernel_rfl) (by kernel_rfl) (fun _ _ _ h => h) (Or.inl ⟨by rfl,?_⟩) (by assumption) ?_
   rotate_left 1
   focus (intro w hSw; (try dsimp only at hSw); go_simp; (try with_reducible rfl))
   (try simp only [Act.put,List.setIfInBounds_toArray,List.set_cons_zero,List.set_cons_succ,List.getElem_toArray,List.getElem_cons_zero,List.getElem_cons_succ])
   refine wpAnyH_done (by kernel_rfl) ?_ _
   go_wp2_with fail
   go_roundw
   case rel => exact ⟨k + 1,by go_num,by omega,hB.trans (Below.mono (by assumption) hB.size)⟩
   case measure => simp [intOf]; omega
  ·obtain rfl : k = n := by omega
   go_wp2_with fail
   refine (hki _).mono ?_
   rintro e w' ⟨rfl,rfl⟩
   go_wp2_with fail
   refine (hlk _).mono ?_
   rintro e w2 ⟨rfl,hb2⟩
   go_wp2_with fail
   go_ret
   exact ⟨by simp,hB.trans (hb2.mono hB.size)⟩
theorem _root_.Go.Proofs.YtkllecicddfjpaaGreatDoor.OwnM.snoc {w : World} {base e : Nat} {v : Value} {n m : Nat} {l r : List UInt8} (h : OwnM w base e 1 v n (l.map bv ++ r.map bv)) (hm : m = n) : OwnM w base e 1 v m ((l ++ r).map bv) := by
 rw [List.map_append,hm]
 exact h
theorem rwrite_any (kind : List UInt8) (A : Option Addr) (fs : List (List UInt8 × List UInt8)) (n c : Nat) (w : World) (hk : kind.length ≤ 1000) (hn : fs.length = n) (hb : n ≤ 20) (hp : ∀ p ∈ fs,p.1.length ≤ 2000000 ∧ p.2.length ≤ 2000000) (hA : Rv w A (pcells fs)) (hlo : ∀ p ∈ fs,onlyB loc' p.2 = true) :
  Calls Tryz.prog 73 #[.string (bs kind),.slice A n c] w fun e w' => e = .returned (.string (bs (writeB kind fs))) ∧ Below w.heap.size w w' := by
 have HN := Lib.hid hn
 obtain ⟨c1,w1,hcv,hO1,hB1,_⟩ := conv_bs (P := Tryz.prog) (src := 9) (dst := 22) (e := 5) Tryz.underlying9 Tryz.underlying22 Tryz.underlying5 w kind (by unfold maxLen; omega)
 clear hn
 go_enter Tryz.func73,Tryz.ntmps73
 go_wp2_with fail
 go_loopw [5,6] (fun v5 i wr => ∃ (k N : Nat) (O : List UInt8),i = .int .i64 k ∧ k ≤ n ∧ Hid (O = writeB kind (fs.take k)) ∧ N ≤ 1000 + k * 6000010 ∧ OwnM wr w.heap.size 5 1 v5 N (O.map bv) ∧ Below w.heap.size w wr) (fun _ i _ => n - (intOf i).toNat)
 case atStart => exact ⟨0,kind.length,kind,rfl,by omega,Lib.hid (by simp [writeB]),by omega,hO1,hB1⟩
 case round =>
  clear hcv hO1 hB1
  obtain ⟨k,N,O,rfl,hk1,hO,hNl,hown,hB⟩ := hrel
  by_cases hlt : k < n
  ·obtain ⟨b,o,p,rfl,hp1,h0,h1⟩ := Rp_one (hA.below hB) (k := k) (by rw [HN.out]; exact hlt)
   obtain ⟨l1,l2⟩ := hp p (List.mem_of_getElem? hp1.out)
   have HW := Lib.hid (writeB_step (kind := kind) hp1.out)
   have q1 := hlo p (List.mem_of_getElem? hp1.out)
   obtain ⟨na,va⟩ := p
   simp only at q1
   simp only at l1 l2 h0 h1
   have hs := hB.size
   have hpl : parW (na,va) = [59,32] ++ na ++ [61] ++ valW va := rfl
   obtain ⟨u,hu⟩ : ∃ u,([59,32] ++ na ++ [61] : List UInt8) = u := ⟨_,rfl⟩
   have hul : u.length ≤ 2000003 := by rw [← hu]; simp; omega
   have hsr : Src Tryz.prog 1 9 (.string (⟨#[59,32]⟩ ++ bs na ++ ⟨#[61]⟩)) u.length (u.map bv) wr := by
    have e : (⟨#[59,32]⟩ ++ bs na ++ ⟨#[61]⟩ : ByteArray) = bs u := by
     rw [show (⟨#[59,32]⟩ : ByteArray) = bs [59,32] from rfl,show (⟨#[61]⟩ : ByteArray) = bs [61] from rfl,bs_add,bs_add,hu]
    rw [e]
    exact Src_str Tryz.underlying9 u
   rw [hu] at hpl
   have HPL := Lib.hid hpl
   have hsi := fun W => rsimple_any va W (by omega)
   have hvw : valW va = if onlyB loc' va then va else 34 :: (esc va ++ [34]) := rfl
   clear hu hpl hp1
   rw [q1] at hsi hvw
   have HFIN : Hid ((O ++ u) ++ va = writeB kind (fs.take (k + 1))) := Lib.hid (by rw [HW.out,HPL.out,hvw,hO.out]; simp)
   clear hvw q1
   go_wp2_with (at_builtin; refine wpList_appM rfl _ _ _ _ rfl TU8 hown rfl hsr rfl (by omega) hs ?_; intro v2 w2 hown2 hgr2 hat2; have hB2 := below_appM hB hown hgr2 hs (Nat.le_refl _))
   refine (hsi _).mono ?_
   rintro e w3 ⟨rfl,rfl⟩
   have hs2 := hB2.size
   have hown2' := hown2.snoc rfl
   clear hown hsr
   go_wp2_with (at_builtin; refine wpList_appM rfl _ _ _ _ rfl TU8 hown2' rfl (Src_str Tryz.underlying9 va) rfl (by omega) hs2 ?_; intro v4 w4 hown4 hgr4 hat4; have hB4 := below_appM hB2 hown2' hgr4 hs2 (Nat.le_refl _))
   go_roundw
   case rel => exact ⟨k + 1,_,_,by go_num,by omega,HFIN,by omega,hown4.snoc rfl,hB4⟩
   case measure => simp [intOf]; omega
  ·obtain rfl : k = n := by omega
   have hO2 : O = writeB kind fs := by
    have := hO.out
    rwa [List.take_of_length_le (by rw [HN.out]; omega)] at this
   obtain ⟨A5,c5,rfl,_,_,hR5,hl5,_,_⟩ := hown.form
   have hcs := conv_str (P := Tryz.prog) (src := 22) (dst := 9) (e := 5) (c := c5) (n := N) Tryz.underlying22 Tryz.underlying5 Tryz.underlying9 (show Rb wr A5 O from hR5) (by simpa using hl5)
   go_wp2_with fail
   go_ret
   exact ⟨by rw [← hO2]; rfl,hB⟩
end Tk.W
end
section
open Go.RowKit
theorem pre_take (kind : List UInt8) : (kind.take 10 == mulN) = Lib.hasPrefix kind mulN := by
 rw [Bool.eq_iff_iff]
 unfold Lib.hasPrefix
 rw [beq_iff_eq,List.isPrefixOf_iff_prefix,List.prefix_iff_eq_take]
 exact ⟨fun h => h.symm,fun h => h.symm⟩
theorem rmul_any (kind : List UInt8) (w : World) (hk : kind.length ≤ 1000000) :
  Calls Tryz.prog 74 #[.string (bs kind)] w fun e w' => e = .returned (.bool (Lib.hasPrefix kind mulN)) ∧ w' = w := by
 by_cases h : 10 ≤ kind.length
 ·obtain ⟨z,hz⟩ : ∃ z,Lib.hasPrefix kind mulN = z := ⟨_,rfl⟩
  have he : (kind.take 10 == [109,117,108,116,105,112,97,114,116,47]) = z := by
   rw [← hz,← pre_take]
  have h10 : ¬ (kind.length : Int) < 10 := by omega
  rw [hz]
  clear hz
  go_enter Tryz.func74,Tryz.ntmps74
  go_wp2_with fail
  go_ret
  exact ⟨rfl,rfl⟩
 ·have hz : Lib.hasPrefix kind mulN = false := by
   rw [← pre_take]
   rw [beq_eq_false_iff_ne]
   intro e
   have := congrArg List.length e
   simp at this
   omega
  have h10 : (kind.length : Int) < 10 := by omega
  rw [hz]
  clear hz
  go_enter Tryz.func74,Tryz.ntmps74
  go_wp2_with fail
  go_ret
  exact ⟨rfl,rfl⟩
theorem rparam_any (A : Option Addr) (ms : List (List UInt8 × List UInt8)) (nm : List UInt8) (n c : Nat) (w : World) (hn : ms.length = n) (hA : Rv w A (Tk.pcells ms)) (hb : n ≤ 1000000) :
  Calls Tryz.prog 50 #[.slice A n c,.string (bs nm)] w fun e w' => e = .returned (.string (bs (paramP ms nm))) ∧ w' = w := by
 have HN := Lib.hid hn
 clear hn
 go_enter Tryz.func50,Tryz.ntmps50
 go_wp2_with fail
 go_loopw [5] (fun i wr => ∃ k : Nat,i = .int .i64 k ∧ k ≤ n ∧ Hid (∀ q ∈ ms.take k,(q.1 == nm) = false) ∧ w = wr) (fun i _ => n - (intOf i).toNat)
 case atStart => exact ⟨0,rfl,by omega,Lib.hid (by simp),rfl⟩
 case round =>
  obtain ⟨k,rfl,hk,ha,rfl⟩ := hrel
  by_cases hlt : k < n
  ·obtain ⟨p,hpq⟩ : ∃ p,ms[k]? = some p := ⟨_,List.getElem?_eq_getElem (by rw [HN.out]; exact hlt)⟩
   have hp := Lib.hid hpq
   obtain ⟨b,o,rfl,hcell⟩ := hA (by rw [Tk.pcells_len,HN.out]; omega)
   have k0 : w.cell? ⟨b,o + k * 2,none⟩ = some (.string (bs p.1)) := by have := hcell _ _ (Tk.pcells_get hpq).1; rwa [Nat.mul_comm] at this
   have k1 : w.cell? ⟨b,o + k * 2 + 1,none⟩ = some (.string (bs p.2)) := by have := hcell _ _ (Tk.pcells_get hpq).2; rwa [Nat.mul_comm,← Nat.add_assoc] at this
   have hHit : (p.1 == nm) = true → Hid (paramP ms nm = p.2) := fun h => Lib.hid (by
    unfold paramP
    rw [(find_ahead ha.out hp.out h).1])
   have hMiss : (p.1 == nm) = false → Hid (∀ q ∈ ms.take (k + 1),(q.1 == nm) = false) := fun h => Lib.hid (by
    rw [take_succ_of hp.out]
    intro q hq
    rcases List.mem_append.1 hq with hq | hq
    ·exact ha.out q hq
    ·simp at hq
     rw [hq]
     exact h)
   clear hpq hcell
   obtain ⟨z,hz⟩ : ∃ z,(p.1 == nm) = z := ⟨_,rfl⟩
   rw [hz] at hHit hMiss
   cases z with
   | true =>
    have HH := hHit rfl
    clear hHit hMiss
    go_wp2_with fail
    go_ret
    exact ⟨by rw [HH.out]; rfl,rfl⟩
   | false =>
    have HH := hMiss rfl
    clear hHit hMiss
    go_wp2_with fail
    go_roundw
    case rel => exact ⟨k + 1,by go_num,by omega,HH,trivial⟩
    case measure => simp [intOf]; omega
  ·obtain rfl : k = n := by omega
   have hno : paramP ms nm = [] := by
    have h := ha.out
    rw [List.take_of_length_le (by rw [HN.out]; omega)] at h
    unfold paramP
    rw [(find_no h).1]
   have HNO := Lib.hid hno
   clear hno
   go_wp2_with fail
   go_ret
   exact ⟨by rw [HNO.out]; rfl,rfl⟩
end
end Go.Proofs.YtkllecicddfjpaaGreatDoor
