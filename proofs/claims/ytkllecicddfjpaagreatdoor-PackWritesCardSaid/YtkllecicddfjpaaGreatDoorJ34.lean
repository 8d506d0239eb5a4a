/- The walk of the law, part 34. -/
import Derived.Test.YtkllecicddfjpaaGreatDoorJ21
import Derived.Test.YtkllecicddfjpaaGreatDoorJ22
import Derived.Test.YtkllecicddfjpaaGreatDoorJ24
import Derived.Test.YtkllecicddfjpaaGreatDoorJ33
set_option maxRecDepth 100000
set_option maxHeartbeats 16000000
set_option linter.unusedVariables false
set_option linter.unusedSimpArgs false
namespace Go.Proofs.YtkllecicddfjpaaGreatDoor
section
open Go.RowKit
theorem two_sl (A : Option Addr) (n c : Nat) (B : Option Addr) (m d : Nat) : ∀ v ∈ [Value.slice A n c,.slice B m d],isSl v := by
 intro v hv
 simp only [List.mem_cons,List.mem_nil_iff,or_false] at hv
 rcases hv with rfl | rfl
 ·exact ⟨A,n,c,rfl⟩
 ·exact ⟨B,m,d,rfl⟩
theorem rwl1_any (kind : List UInt8) (ms : List (List UInt8 × List UInt8)) (A : Option Addr) (n c : Nat) (B : Option Addr) (l : List UInt8) (nb cb : Nat) (C : Option Addr) (cc : Nat) (deep : Int) (w : World)
 (hk : kind.length ≤ 1000) (hmul : Lib.hasPrefix kind mulN = false) (hn : ms.length = n) (hn2 : n ≤ 20) (hp : ∀ p ∈ ms,p.1.length ≤ 2000000 ∧ p.2.length ≤ 2000000) (hlo : ∀ p ∈ ms,Tk.onlyB Tk.loc' p.2 = true) (hA : Rv w A (Tk.pcells ms)) (hr : Tk.rightB kind ms = true)
 (hl : l.length = nb) (hB : Rb w B l) (hnc : nb ≤ cb) (hb : nb ≤ 10000) (hrf : Fd.rightF [(ctN,Tk.writeB kind ms),(cteN,codeN 1)] = true) (hfl : (Fd.foldAll [(ctN,Tk.writeB kind ms),(cteN,codeN 1)]).length ≤ 60000) :
 Calls Tryz.prog 34 #[.agg #[.string (bs kind),.slice A n c,.int .i64 1,.slice B nb cb,.slice C 0 cc],.int .i64 deep] w fun e w' => WOut (.ok ([(ctN,Tk.writeB kind ms),(cteN,codeN 1)],encB 1 l)) w' e ∧ Below w.heap.size w w' := by
 have HL := Lib.hid hl
 have HN := Lib.hid hn
 have HR := Lib.hid hr
 have HM := Lib.hid hmul
 obtain ⟨wv,hwv⟩ : ∃ x,Tk.writeB kind ms = x := ⟨_,rfl⟩
 rw [hwv] at hrf hfl ⊢
 have HWV := Lib.hid hwv
 have HRF := Lib.hid hrf
 have HFL := Lib.hid hfl
 clear hn hl hr hmul hwv hrf hfl
 have hpu : ∀ W,Sem.run Tryz.prog (pure #[] : Sem (Array Value)) W = .ok #[] W := fun _ => rfl
 have hst : ∀ a W,Sem.run Tryz.prog (storeCells a []) W = .ok () W := fun _ _ => rfl
 have hB00 : Below w.heap.size w (w.alloc (.cells #[.string (bs kind),.slice A n c,.int .i64 1,.slice B nb cb,.slice C 0 cc] 34)) := (Below.refl _ _).alloc (Nat.le_refl _) _
 have hB0 : Below w.heap.size w ((w.alloc (.cells #[.string (bs kind),.slice A n c,.int .i64 1,.slice B nb cb,.slice C 0 cc] 34)).alloc (.cells #[.slice none 0 0,.slice none 0 0] 39)) := hB00.alloc hB00.size _
 have rp := (Row.new w #[.string (bs kind),.slice A n c,.int .i64 1,.slice B nb cb,.slice C 0 cc] 34).below ((Below.refl _ (w.alloc (.cells #[.string (bs kind),.slice A n c,.int .i64 1,.slice B nb cb,.slice C 0 cc] 34))).alloc (Nat.le_refl _) (.cells #[.slice none 0 0,.slice none 0 0] 39))
 have rl := Row.new (w.alloc (.cells #[.string (bs kind),.slice A n c,.int .i64 1,.slice B nb cb,.slice C 0 cc] 34)) #[.slice none 0 0,.slice none 0 0] 39
 rw [World.size_alloc] at rl
 have hz0 : w.heap.size + 2 ≤ ((w.alloc (.cells #[.string (bs kind),.slice A n c,.int .i64 1,.slice B nb cb,.slice C 0 cc] 34)).alloc (.cells #[.slice none 0 0,.slice none 0 0] 39)).heap.size := by simp
 go_enter Tryz.func34,Tryz.ntmps34
 go_wp2_with fail
 generalize ((w.alloc (.cells #[.string (bs kind),.slice A n c,.int .i64 1,.slice B nb cb,.slice C 0 cc] 34)).alloc (.cells #[.slice none 0 0,.slice none 0 0] 39)) = W0 at *
 clear hB00
 refine (Tk.W.rright_any kind A ms n c W0 hk HN.out (hA.below hB0) (by omega) (fun p h => by have := hp p h; omega) HR.out).mono ?_
 rintro e w1 ⟨rfl,hb1⟩
 have hB1 := hB0.trans (hb1.mono hB0.size)
 have rp1 := rp.below hb1
 have rl1 := rl.below hb1
 have hz1 : w.heap.size + 2 ≤ w1.heap.size := Nat.le_trans hz0 hb1.size
 clear rp rl hb1 hB0 hz0
 have k0 := rp1.cell (j := 0) rfl
 have k1 := rp1.cell (j := 1) rfl
 go_wp2_with fail
 refine (Tk.W.rwrite_any kind A ms n c w1 hk HN.out hn2 hp (hA.below hB1) hlo).mono ?_
 rintro e w2 ⟨rfl,hb2⟩
 rw [HWV.out]
 have hB2 := hB1.trans (hb2.mono hB1.size)
 have rp2 := rp1.below hb2
 have rl2 := rl1.below hb2
 have hz2 : w.heap.size + 2 ≤ w2.heap.size := Nat.le_trans hz1 hb2.size
 clear rp1 rl1 hb2 hB1 hz1 k0 k1
 have hbF : Below w2.heap.size w2 (w2.alloc (.cells #[.string ⟨#[67,111,110,116,101,110,116,45,84,121,112,101]⟩,.string (bs wv)] 73)) := (Below.refl _ _).alloc (Nat.le_refl _) _
 have hbG : Below w2.heap.size w2 ((w2.alloc (.cells #[.string ⟨#[67,111,110,116,101,110,116,45,84,121,112,101]⟩,.string (bs wv)] 73)).alloc (.cells #[.slice (some ⟨w2.heap.size,0,none⟩) 1 1,.slice none 0 0] 39)) := hbF.alloc (by simp) _
 have rp3 := rp2.below hbG
 have rl3 := rl2.below hbG
 have hB3 := hB2.trans (hbG.mono hB2.size)
 have k0 := rp3.cell (j := 0) rfl
 have rL := Row.new (w2.alloc (.cells #[.string ⟨#[67,111,110,116,101,110,116,45,84,121,112,101]⟩,.string (bs wv)] 73)) #[.slice (some ⟨w2.heap.size,0,none⟩) 1 1,.slice none 0 0] 39
 rw [World.size_alloc] at rL
 have hox : ((w2.alloc (.cells #[.string ⟨#[67,111,110,116,101,110,116,45,84,121,112,101]⟩,.string (bs wv)] 73)).alloc (.cells #[.slice (some ⟨w2.heap.size,0,none⟩) 1 1,.slice none 0 0] 39)).ownsRow (w.heap.size + 2) 73 2 (.slice (some ⟨w2.heap.size,0,none⟩) 1 1) 1 [Fd.strv ctN,Fd.strv wv] := (World.ownsRow_lit w2 #[Fd.strv ctN,Fd.strv wv] 1 hz2 (by unfold maxLen; omega) rfl).alloc _
 have hz3 : w2.heap.size + 2 ≤ ((w2.alloc (.cells #[.string ⟨#[67,111,110,116,101,110,116,45,84,121,112,101]⟩,.string (bs wv)] 73)).alloc (.cells #[.slice (some ⟨w2.heap.size,0,none⟩) 1 1,.slice none 0 0] 39)).heap.size := by simp
 go_wp2_with fail
 refine (rmul_any kind _ (by omega)).mono ?_
 rintro e w' ⟨rfl,hw⟩
 rw [hw,HM.out]
 clear hw k0
 obtain ⟨W3,hW3⟩ : ∃ W,((w2.alloc (.cells #[.string ⟨#[67,111,110,116,101,110,116,45,84,121,112,101]⟩,.string (bs wv)] 73)).alloc (.cells #[.slice (some ⟨w2.heap.size,0,none⟩) 1 1,.slice none 0 0] 39)) = W := ⟨_,rfl⟩
 rw [hW3] at rp3 rl3 hB3 rL hox hz3 ⊢
 clear hW3 hbF hbG rp2 rl2 hB2
 have k2 := rp3.cell (j := 2) rfl
 have k4 := rp3.cell (j := 4) rfl
 have l0 := rL.cell (j := 0) rfl
 have l1 := rL.cell (j := 1) rfl
 go_upto_region 33 with fail
 have halN : Below W3.heap.size W3 (W3.alloc (.cells #[.string ⟨#[56,98,105,116]⟩,.string ⟨#[98,97,115,101,54,52]⟩,.string ⟨#[113,117,111,116,101,100,45,112,114,105,110,116,97,98,108,101]⟩] 9)) := (Below.refl _ _).alloc (Nat.le_refl _) _
 have rp4 := rp3.below halN
 have rl4 := rl3.below halN
 have rL4 := rL.below halN
 have hox4 := hox.alloc (.cells #[.string ⟨#[56,98,105,116]⟩,.string ⟨#[98,97,115,101,54,52]⟩,.string ⟨#[113,117,111,116,101,100,45,112,114,105,110,116,97,98,108,101]⟩] 9)
 have hB4 := hB3.trans (halN.mono hB3.size)
 have hz4 : w2.heap.size + 3 ≤ (W3.alloc (.cells #[.string ⟨#[56,98,105,116]⟩,.string ⟨#[98,97,115,101,54,52]⟩,.string ⟨#[113,117,111,116,101,100,45,112,114,105,110,116,97,98,108,101]⟩] 9)).heap.size := by rw [World.size_alloc]; omega
 have g2 := rp4.cell (j := 2) rfl
 go_upto_region 34 with fail
 obtain ⟨W4,hW4⟩ : ∃ W,(W3.alloc (.cells #[.string ⟨#[56,98,105,116]⟩,.string ⟨#[98,97,115,101,54,52]⟩,.string ⟨#[113,117,111,116,101,100,45,112,114,105,110,116,97,98,108,101]⟩] 9)) = W := ⟨_,rfl⟩
 rw [hW4] at rp4 rl4 rL4 hox4 hB4 hz4 ⊢
 clear hW4 halN rp3 rl3 rL hox hB3 hz3 k2 k4 l0 l1 g2
 have l0 := rL4.cell (j := 0) rfl
 have halF : Below W4.heap.size W4 (W4.alloc (.cells #[.string ⟨#[67,111,110,116,101,110,116,45,84,114,97,110,115,102,101,114,45,69,110,99,111,100,105,110,103]⟩,.string ⟨#[98,97,115,101,54,52]⟩] 73)) := (Below.refl _ _).alloc (Nat.le_refl _) _
 have rp5 := rp4.below halF
 have rl5 := rl4.below halF
 have rL5 := rL4.below halF
 have hox5 : (W4.alloc (.cells #[.string ⟨#[67,111,110,116,101,110,116,45,84,114,97,110,115,102,101,114,45,69,110,99,111,100,105,110,103]⟩,.string ⟨#[98,97,115,101,54,52]⟩] 73)).ownsRow (w.heap.size + 2) 73 2 (.slice (some ⟨w2.heap.size,0,none⟩) 1 1) 1 [Fd.strv ctN,Fd.strv wv] := hox4.alloc (.cells #[.string ⟨#[67,111,110,116,101,110,116,45,84,114,97,110,115,102,101,114,45,69,110,99,111,100,105,110,103]⟩,.string ⟨#[98,97,115,101,54,52]⟩] 73)
 have hB5 := hB4.trans (halF.mono hB4.size)
 have hz5 : w2.heap.size + 4 ≤ (W4.alloc (.cells #[.string ⟨#[67,111,110,116,101,110,116,45,84,114,97,110,115,102,101,114,45,69,110,99,111,100,105,110,103]⟩,.string ⟨#[98,97,115,101,54,52]⟩] 73)).heap.size := by rw [World.size_alloc]; omega
 have hsrc5 : Src Tryz.prog 2 37 (.slice (some ⟨W4.heap.size,0,none⟩) 1 1) 1 [Fd.strv cteN,Fd.strv (codeN 1)] (W4.alloc (.cells #[.string ⟨#[67,111,110,116,101,110,116,45,84,114,97,110,115,102,101,114,45,69,110,99,111,100,105,110,103]⟩,.string ⟨#[98,97,115,101,54,52]⟩] 73)) := Src_rv (news := [Fd.strv cteN,Fd.strv (codeN 1)]) Tryz.underlying37 rfl (Rv_new W4 _ _ _ rfl) (by simp [Value.oneCell',Fd.strv]) (by omega)
 have hsz5 : w.heap.size + 2 ≤ (W4.alloc (.cells #[.string ⟨#[67,111,110,116,101,110,116,45,84,114,97,110,115,102,101,114,45,69,110,99,111,100,105,110,103]⟩,.string ⟨#[98,97,115,101,54,52]⟩] 73)).heap.size := by show _ ≤ (W4.alloc (.cells #[.string ⟨#[67,111,110,116,101,110,116,45,84,114,97,110,115,102,101,114,45,69,110,99,111,100,105,110,103]⟩,.string ⟨#[98,97,115,101,54,52]⟩] 73)).heap.size; omega
 have hne1 : (Value.slice (some ⟨w2.heap.size,0,none⟩) 1 1).ownBlock ≠ some (w2.heap.size + 1) := by simp [Value.ownBlock]
 have hne2 : (Value.slice (some ⟨w2.heap.size,0,none⟩) 1 1).ownBlock ≠ some (w.heap.size + 1) := by simp [Value.ownBlock]; omega
 have hne3 : (Value.slice (some ⟨w2.heap.size,0,none⟩) 1 1).ownBlock ≠ some w.heap.size := by simp [Value.ownBlock]; omega
 go_upto_region 35 with (at_builtin; refine wpList_app rfl _ _ _ _ rfl Fd.TField hox5 rfl hsrc5 rfl (by omega) hsz5 ?_; intro v6 w6 hown6 hgr6 hat6; obtain ⟨A6,c6,hv6,_,_,hR6,_⟩ := own_form hown6; subst hv6; have rL6 := Row.grown (w := (W4.alloc (.cells #[.string ⟨#[67,111,110,116,101,110,116,45,84,114,97,110,115,102,101,114,45,69,110,99,111,100,105,110,103]⟩,.string ⟨#[98,97,115,101,54,52]⟩] 73))) rL5 hgr6 hne1; have rl6 := Row.grown (w := (W4.alloc (.cells #[.string ⟨#[67,111,110,116,101,110,116,45,84,114,97,110,115,102,101,114,45,69,110,99,111,100,105,110,103]⟩,.string ⟨#[98,97,115,101,54,52]⟩] 73))) rl5 hgr6 hne2; have rp6 := Row.grown (w := (W4.alloc (.cells #[.string ⟨#[67,111,110,116,101,110,116,45,84,114,97,110,115,102,101,114,45,69,110,99,111,100,105,110,103]⟩,.string ⟨#[98,97,115,101,54,52]⟩] 73))) rp5 hgr6 hne3; have k60 := rL6.cell (j := 0) rfl; have z60 := rL6.frozen 0)
 have hR6v : Fd.Rf w6 A6 [(ctN,wv),(cteN,codeN 1)] := hR6
 have rL7 := rL6.set 0 (.slice A6 2 c6)
 have rl7 := rl6.far (a := ⟨w2.heap.size + 1,0,none⟩) (by simp; omega) (.slice A6 2 c6)
 have rp7 := rp6.far (a := ⟨w2.heap.size + 1,0,none⟩) (by simp; omega) (.slice A6 2 c6)
 have hF7 : Fd.Rf (w6.setCell ⟨w2.heap.size + 1,0,none⟩ (.slice A6 2 c6)) A6 [(ctN,wv),(cteN,codeN 1)] := Rv_setFar rL6 hR6v (sl_fields (two_sl _ _ _ _ _ _) _) 0 _
 have hB6 := hB5.grown hgr6 hB5.size (fun j hj => by simp [Value.ownBlock] at hj; omega)
 have hB7 := hB6.setCell (p := ⟨w2.heap.size + 1,0,none⟩) (by simp; omega) (.slice A6 2 c6)
 have hz7 : w2.heap.size + 4 ≤ (w6.setCell ⟨w2.heap.size + 1,0,none⟩ (.slice A6 2 c6)).heap.size := by rw [World.size_setCell]; exact Nat.le_trans hz5 hgr6.size
 obtain ⟨W7,hW7⟩ : ∃ W,w6.setCell ⟨w2.heap.size + 1,0,none⟩ (.slice A6 2 c6) = W := ⟨_,rfl⟩
 rw [hW7] at rL7 rl7 rp7 hF7 hB7 hz7 ⊢
 clear hW7 rL6 rl6 rp6 hR6 hR6v hB6 hgr6 hat6 hown6 k60 z60 rp5 rl5 rL5 hox5 hB5 hz5 hsrc5 hsz5 hne1 hne2 hne3 halF rp4 rl4 rL4 hox4 hB4 hz4 l0
 have hown0 := World.ownsRow_made (base := W7.heap.size) (e := 5) (size := 1) W7 #[] 0 (Nat.le_refl _) (by unfold maxLen; omega) rfl
 have hC0 : Below W7.heap.size W7 (W7.alloc (.cells #[] 5)) := (Below.refl _ _).alloc (Nat.le_refl _) _
 have hsB := hB.below (hB7.trans (hC0.mono hB7.size))
 have p3 := (rp7.below hC0).cell (j := 3) rfl
 go_upto_region 36 with (at_builtin; refine wpList_app rfl _ _ _ _ rfl TU8 hown0 rfl (Src_rb Tryz.underlying22 HL.out hsB) rfl (by omega) hC0.size ?_; intro v8 w8 hown8 hgr8 hat8; rw [Nat.zero_add] at hown8; obtain ⟨A8,c8,hv8,h8c,h8m,hR8,_⟩ := own_form hown8; subst hv8; have hC8 := below_app hC0 hown0 hgr8 hC0.size (Nat.le_refl _); have rL8 := rL7.below hC8; have k8 := rL8.cell (j := 1) rfl; have z8 := rL8.frozen 1)
 have hRb8 : Rb w8 A8 l := hR8
 have hpl8 := Pl_own hown8
 have rL9 := rL8.set 1 (.slice A8 nb c8)
 have rl9 := (rl7.below hC8).far (a := ⟨w2.heap.size + 1,1,none⟩) (by simp; omega) (.slice A8 nb c8)
 have rp9 := (rp7.below hC8).far (a := ⟨w2.heap.size + 1,1,none⟩) (by simp; omega) (.slice A8 nb c8)
 have hF9 : Fd.Rf (w8.setCell ⟨w2.heap.size + 1,1,none⟩ (.slice A8 nb c8)) A6 [(ctN,wv),(cteN,codeN 1)] := Rv_setFar rL8 (Rv.below hF7 hC8) (sl_fields (two_sl _ _ _ _ _ _) _) 1 _
 have hE9 : Rb (w8.setCell ⟨w2.heap.size + 1,1,none⟩ (.slice A8 nb c8)) A8 l := Rv_setFar rL8 hRb8 (sl_bytes (two_sl _ _ _ _ _ _) _) 1 _
 have hB8 := hB7.trans (hC8.mono hB7.size)
 have hB9 := hB8.setCell (p := ⟨w2.heap.size + 1,1,none⟩) (by simp; omega) (.slice A8 nb c8)
 have hz9 : w2.heap.size + 4 ≤ (w8.setCell ⟨w2.heap.size + 1,1,none⟩ (.slice A8 nb c8)).heap.size := by rw [World.size_setCell]; exact Nat.le_trans hz7 hC8.size
 obtain ⟨W9,hW9⟩ : ∃ W,w8.setCell ⟨w2.heap.size + 1,1,none⟩ (.slice A8 nb c8) = W := ⟨_,rfl⟩
 rw [hW9] at rL9 rl9 rp9 hF9 hE9 hB9 hz9 ⊢
 clear hW9 rL8 rL7 rl7 rp7 hF7 hRb8 hR8 hown8 hgr8 hat8 hown0 hC0 hC8 hsB p3 k8 z8 hB7 hB8 hz7
 have p2 := rp9.cell (j := 2) rfl
 have p3 := rp9.cell (j := 3) rfl
 go_wp2_with fail
 refine (Ar.rlines_any B l nb cb W9 HL.out (hB.below hB9) hnc (by omega)).mono ?_
 rintro e w10 ⟨⟨v10,rfl,hown10⟩,hb10⟩
 obtain ⟨X,hX⟩ : ∃ x,Ar.lin (Ar.enc l) = x := ⟨_,rfl⟩
 rw [hX] at hown10
 obtain ⟨NX,hNX⟩ : ∃ x,X.length = x := ⟨_,rfl⟩
 have hXb : NX ≤ 100000 := by
  have h1 := encB_bound 1 l
  have h2 : encB 1 l = X := hX
  rw [h2,hNX,HL.out] at h1
  omega
 rw [hNX] at hown10
 have HENC := Lib.hid (show encB 1 l = X from hX)
 have HNE := Lib.hid hNX
 clear hX hNX
 obtain ⟨A10,c10,hv10,h10c,h10m,hR10,_⟩ := own_form hown10
 subst hv10
 have hRb10 : Rb w10 A10 X := hR10
 have hpl10 := Pl_own hown10
 have rL10 := rL9.below hb10
 have k10 := rL10.cell (j := 1) rfl
 have z10 := rL10.frozen 1
 go_upto_region 38 with fail
 have rL11 := rL10.set 1 (.slice A10 NX c10)
 have rl11 := (rl9.below hb10).far (a := ⟨w2.heap.size + 1,1,none⟩) (by simp; omega) (.slice A10 NX c10)
 have rp11 := (rp9.below hb10).far (a := ⟨w2.heap.size + 1,1,none⟩) (by simp; omega) (.slice A10 NX c10)
 have hF11 : Fd.Rf (w10.setCell ⟨w2.heap.size + 1,1,none⟩ (.slice A10 NX c10)) A6 [(ctN,wv),(cteN,codeN 1)] := Rv_setFar rL10 (Rv.below hF9 hb10) (sl_fields (two_sl _ _ _ _ _ _) _) 1 _
 have hE11 : Rb (w10.setCell ⟨w2.heap.size + 1,1,none⟩ (.slice A10 NX c10)) A10 X := Rv_setFar rL10 hRb10 (sl_bytes (two_sl _ _ _ _ _ _) _) 1 _
 have hB10 := hB9.trans (hb10.mono hB9.size)
 have hB11 := hB10.setCell (p := ⟨w2.heap.size + 1,1,none⟩) (by simp; omega) (.slice A10 NX c10)
 have hz11 : w2.heap.size + 4 ≤ (w10.setCell ⟨w2.heap.size + 1,1,none⟩ (.slice A10 NX c10)).heap.size := by rw [World.size_setCell]; exact Nat.le_trans hz9 hb10.size
 obtain ⟨W11,hW11⟩ : ∃ W,w10.setCell ⟨w2.heap.size + 1,1,none⟩ (.slice A10 NX c10) = W := ⟨_,rfl⟩
 rw [hW11] at rL11 rl11 rp11 hF11 hE11 hB11 hz11 ⊢
 clear hW11 rL10 rL9 rl9 rp9 hF9 hE9 hb10 hB9 hB10 hz9 k10 z10 p2 p3 hRb10 hR10 hown10
 have p2 := rp11.cell (j := 2) rfl
 have l0 := rL11.cell (j := 0) rfl
 have l1 := rL11.cell (j := 1) rfl
 go_wp2_with fail
 refine (Fd.rlw_any A6 A10 [(ctN,wv),(cteN,codeN 1)] X 2 c6 NX c10 W11 rfl HNE.out hF11 hE11 HRF.out HFL.out (by omega) (by omega)).mono ?_
 rintro e w12 ⟨⟨v12,rfl,_⟩,hb12⟩
 have rL12 := rL11.below hb12
 have rl12 := rl11.below hb12
 have hF12 : Fd.Rf w12 A6 [(ctN,wv),(cteN,codeN 1)] := Rv.below hF11 hb12
 have hE12 := hE11.below hb12
 have hB12 := hB11.trans (hb12.mono hB11.size)
 clear l0 l1 rL11 rl11 hF11 hE11 hB11 hb12
 have l0 := rL12.cell (j := 0) rfl
 have l1 := rL12.cell (j := 1) rfl
 have m0 := rl12.cell (j := 0) rfl
 have m1 := rl12.cell (j := 1) rfl
 have n0 := rl12.frozen 0
 have n1 := rl12.frozen 1
 go_wp2_with fail
 have r13 := rl12.set 0 (.slice A6 2 c6)
 have r14 := r13.set 1 (.slice A10 NX c10)
 have hFF := Rv_setFar r13 (Rv_setFar rl12 hF12 (sl_fields (two_sl _ _ _ _ _ _) _) 0 (.slice A6 2 c6)) (sl_fields (two_sl _ _ _ _ _ _) _) 1 (.slice A10 NX c10)
 have hEF := Rv_setFar r13 (Rv_setFar rl12 hE12 (sl_bytes (two_sl _ _ _ _ _ _) _) 0 (.slice A6 2 c6)) (sl_bytes (two_sl _ _ _ _ _ _) _) 1 (.slice A10 NX c10)
 have hBF := (hB12.setCell (p := ⟨w.heap.size + 1,0,none⟩) (by simp) (.slice A6 2 c6)).setCell (p := ⟨w.heap.size + 1,1,none⟩) (by simp) (.slice A10 NX c10)
 have e0 := r14.cell (j := 0) rfl
 have e1 := r14.cell (j := 1) rfl
 refine bodyPost_ret (v := .tuple #[.agg #[.slice A6 2 c6,.slice A10 NX c10],.int .i64 0]) (by simp [results,Tryz.results34,go_sem,e0,e1]) rfl ⟨?_,hBF⟩
 rw [HENC.out]
 exact ⟨A6,c6,A10,c10,by simp only [HNE.out]; rfl,hFF,hEF,by simp only [HNE.out]; exact h10c,h10m,hpl10⟩
theorem rwl0_any (kind : List UInt8) (ms : List (List UInt8 × List UInt8)) (A : Option Addr) (n c : Nat) (B : Option Addr) (l : List UInt8) (nb cb : Nat) (C : Option Addr) (cc : Nat) (deep : Int) (w : World)
 (hk : kind.length ≤ 1000) (hmul : Lib.hasPrefix kind mulN = false) (hn : ms.length = n) (hn2 : n ≤ 20) (hp : ∀ p ∈ ms,p.1.length ≤ 2000000 ∧ p.2.length ≤ 2000000) (hlo : ∀ p ∈ ms,Tk.onlyB Tk.loc' p.2 = true) (hA : Rv w A (Tk.pcells ms)) (hr : Tk.rightB kind ms = true)
 (hl : l.length = nb) (hB : Rb w B l) (hnc : nb ≤ cb) (hb : nb ≤ 10000) (hrf : Fd.rightF [(ctN,Tk.writeB kind ms),(cteN,codeN 0)] = true) (hfl : (Fd.foldAll [(ctN,Tk.writeB kind ms),(cteN,codeN 0)]).length ≤ 60000) :
 Calls Tryz.prog 34 #[.agg #[.string (bs kind),.slice A n c,.int .i64 0,.slice B nb cb,.slice C 0 cc],.int .i64 deep] w fun e w' => WOut (.ok ([(ctN,Tk.writeB kind ms),(cteN,codeN 0)],encB 0 l)) w' e ∧ Below w.heap.size w w' := by
 have HL := Lib.hid hl
 have HN := Lib.hid hn
 have HR := Lib.hid hr
 have HM := Lib.hid hmul
 obtain ⟨wv,hwv⟩ : ∃ x,Tk.writeB kind ms = x := ⟨_,rfl⟩
 rw [hwv] at hrf hfl ⊢
 have HWV := Lib.hid hwv
 have HRF := Lib.hid hrf
 have HFL := Lib.hid hfl
 clear hn hl hr hmul hwv hrf hfl
 have hpu : ∀ W,Sem.run Tryz.prog (pure #[] : Sem (Array Value)) W = .ok #[] W := fun _ => rfl
 have hst : ∀ a W,Sem.run Tryz.prog (storeCells a []) W = .ok () W := fun _ _ => rfl
 have hB00 : Below w.heap.size w (w.alloc (.cells #[.string (bs kind),.slice A n c,.int .i64 0,.slice B nb cb,.slice C 0 cc] 34)) := (Below.refl _ _).alloc (Nat.le_refl _) _
 have hB0 : Below w.heap.size w ((w.alloc (.cells #[.string (bs kind),.slice A n c,.int .i64 0,.slice B nb cb,.slice C 0 cc] 34)).alloc (.cells #[.slice none 0 0,.slice none 0 0] 39)) := hB00.alloc hB00.size _
 have rp := (Row.new w #[.string (bs kind),.slice A n c,.int .i64 0,.slice B nb cb,.slice C 0 cc] 34).below ((Below.refl _ (w.alloc (.cells #[.string (bs kind),.slice A n c,.int .i64 0,.slice B nb cb,.slice C 0 cc] 34))).alloc (Nat.le_refl _) (.cells #[.slice none 0 0,.slice none 0 0] 39))
 have rl := Row.new (w.alloc (.cells #[.string (bs kind),.slice A n c,.int .i64 0,.slice B nb cb,.slice C 0 cc] 34)) #[.slice none 0 0,.slice none 0 0] 39
 rw [World.size_alloc] at rl
 have hz0 : w.heap.size + 2 ≤ ((w.alloc (.cells #[.string (bs kind),.slice A n c,.int .i64 0,.slice B nb cb,.slice C 0 cc] 34)).alloc (.cells #[.slice none 0 0,.slice none 0 0] 39)).heap.size := by simp
 go_enter Tryz.func34,Tryz.ntmps34
 go_wp2_with fail
 generalize ((w.alloc (.cells #[.string (bs kind),.slice A n c,.int .i64 0,.slice B nb cb,.slice C 0 cc] 34)).alloc (.cells #[.slice none 0 0,.slice none 0 0] 39)) = W0 at *
 clear hB00
 refine (Tk.W.rright_any kind A ms n c W0 hk HN.out (hA.below hB0) (by omega) (fun p h => by have := hp p h; omega) HR.out).mono ?_
 rintro e w1 ⟨rfl,hb1⟩
 have hB1 := hB0.trans (hb1.mono hB0.size)
 have rp1 := rp.below hb1
 have rl1 := rl.below hb1
 have hz1 : w.heap.size + 2 ≤ w1.heap.size := Nat.le_trans hz0 hb1.size
 clear rp rl hb1 hB0 hz0
 have k0 := rp1.cell (j := 0) rfl
 have k1 := rp1.cell (j := 1) rfl
 go_wp2_with fail
 refine (Tk.W.rwrite_any kind A ms n c w1 hk HN.out hn2 hp (hA.below hB1) hlo).mono ?_
 rintro e w2 ⟨rfl,hb2⟩
 rw [HWV.out]
 have hB2 := hB1.trans (hb2.mono hB1.size)
 have rp2 := rp1.below hb2
 have rl2 := rl1.below hb2
 have hz2 : w.heap.size + 2 ≤ w2.heap.size := Nat.le_trans hz1 hb2.size
 clear rp1 rl1 hb2 hB1 hz1 k0 k1
 have hbF : Below w2.heap.size w2 (w2.alloc (.cells #[.string ⟨#[67,111,110,116,101,110,116,45,84,121,112,101]⟩,.string (bs wv)] 73)) := (Below.refl _ _).alloc (Nat.le_refl _) _
 have hbG : Below w2.heap.size w2 ((w2.alloc (.cells #[.string ⟨#[67,111,110,116,101,110,116,45,84,121,112,101]⟩,.string (bs wv)] 73)).alloc (.cells #[.slice (some ⟨w2.heap.size,0,none⟩) 1 1,.slice none 0 0] 39)) := hbF.alloc (by simp) _
 have rp3 := rp2.below hbG
 have rl3 := rl2.below hbG
 have hB3 := hB2.trans (hbG.mono hB2.size)
 have k0 := rp3.cell (j := 0) rfl
 have rL := Row.new (w2.alloc (.cells #[.string ⟨#[67,111,110,116,101,110,116,45,84,121,112,101]⟩,.string (bs wv)] 73)) #[.slice (some ⟨w2.heap.size,0,none⟩) 1 1,.slice none 0 0] 39
 rw [World.size_alloc] at rL
 have hox : ((w2.alloc (.cells #[.string ⟨#[67,111,110,116,101,110,116,45,84,121,112,101]⟩,.string (bs wv)] 73)).alloc (.cells #[.slice (some ⟨w2.heap.size,0,none⟩) 1 1,.slice none 0 0] 39)).ownsRow (w.heap.size + 2) 73 2 (.slice (some ⟨w2.heap.size,0,none⟩) 1 1) 1 [Fd.strv ctN,Fd.strv wv] := (World.ownsRow_lit w2 #[Fd.strv ctN,Fd.strv wv] 1 hz2 (by unfold maxLen; omega) rfl).alloc _
 have hz3 : w2.heap.size + 2 ≤ ((w2.alloc (.cells #[.string ⟨#[67,111,110,116,101,110,116,45,84,121,112,101]⟩,.string (bs wv)] 73)).alloc (.cells #[.slice (some ⟨w2.heap.size,0,none⟩) 1 1,.slice none 0 0] 39)).heap.size := by simp
 go_wp2_with fail
 refine (rmul_any kind _ (by omega)).mono ?_
 rintro e w' ⟨rfl,hw⟩
 rw [hw,HM.out]
 clear hw k0
 obtain ⟨W3,hW3⟩ : ∃ W,((w2.alloc (.cells #[.string ⟨#[67,111,110,116,101,110,116,45,84,121,112,101]⟩,.string (bs wv)] 73)).alloc (.cells #[.slice (some ⟨w2.heap.size,0,none⟩) 1 1,.slice none 0 0] 39)) = W := ⟨_,rfl⟩
 rw [hW3] at rp3 rl3 hB3 rL hox hz3 ⊢
 clear hW3 hbF hbG rp2 rl2 hB2
 have k2 := rp3.cell (j := 2) rfl
 have k4 := rp3.cell (j := 4) rfl
 have l0 := rL.cell (j := 0) rfl
 have l1 := rL.cell (j := 1) rfl
 go_upto_region 33 with fail
 have halN : Below W3.heap.size W3 (W3.alloc (.cells #[.string ⟨#[56,98,105,116]⟩,.string ⟨#[98,97,115,101,54,52]⟩,.string ⟨#[113,117,111,116,101,100,45,112,114,105,110,116,97,98,108,101]⟩] 9)) := (Below.refl _ _).alloc (Nat.le_refl _) _
 have rp4 := rp3.below halN
 have rl4 := rl3.below halN
 have rL4 := rL.below halN
 have hox4 := hox.alloc (.cells #[.string ⟨#[56,98,105,116]⟩,.string ⟨#[98,97,115,101,54,52]⟩,.string ⟨#[113,117,111,116,101,100,45,112,114,105,110,116,97,98,108,101]⟩] 9)
 have hB4 := hB3.trans (halN.mono hB3.size)
 have hz4 : w2.heap.size + 3 ≤ (W3.alloc (.cells #[.string ⟨#[56,98,105,116]⟩,.string ⟨#[98,97,115,101,54,52]⟩,.string ⟨#[113,117,111,116,101,100,45,112,114,105,110,116,97,98,108,101]⟩] 9)).heap.size := by rw [World.size_alloc]; omega
 have g2 := rp4.cell (j := 2) rfl
 go_upto_region 34 with fail
 obtain ⟨W4,hW4⟩ : ∃ W,(W3.alloc (.cells #[.string ⟨#[56,98,105,116]⟩,.string ⟨#[98,97,115,101,54,52]⟩,.string ⟨#[113,117,111,116,101,100,45,112,114,105,110,116,97,98,108,101]⟩] 9)) = W := ⟨_,rfl⟩
 rw [hW4] at rp4 rl4 rL4 hox4 hB4 hz4 ⊢
 clear hW4 halN rp3 rl3 rL hox hB3 hz3 k2 k4 l0 l1 g2
 have l0 := rL4.cell (j := 0) rfl
 have halF : Below W4.heap.size W4 (W4.alloc (.cells #[.string ⟨#[67,111,110,116,101,110,116,45,84,114,97,110,115,102,101,114,45,69,110,99,111,100,105,110,103]⟩,.string ⟨#[56,98,105,116]⟩] 73)) := (Below.refl _ _).alloc (Nat.le_refl _) _
 have rp5 := rp4.below halF
 have rl5 := rl4.below halF
 have rL5 := rL4.below halF
 have hox5 : (W4.alloc (.cells #[.string ⟨#[67,111,110,116,101,110,116,45,84,114,97,110,115,102,101,114,45,69,110,99,111,100,105,110,103]⟩,.string ⟨#[56,98,105,116]⟩] 73)).ownsRow (w.heap.size + 2) 73 2 (.slice (some ⟨w2.heap.size,0,none⟩) 1 1) 1 [Fd.strv ctN,Fd.strv wv] := hox4.alloc (.cells #[.string ⟨#[67,111,110,116,101,110,116,45,84,114,97,110,115,102,101,114,45,69,110,99,111,100,105,110,103]⟩,.string ⟨#[56,98,105,116]⟩] 73)
 have hB5 := hB4.trans (halF.mono hB4.size)
 have hz5 : w2.heap.size + 4 ≤ (W4.alloc (.cells #[.string ⟨#[67,111,110,116,101,110,116,45,84,114,97,110,115,102,101,114,45,69,110,99,111,100,105,110,103]⟩,.string ⟨#[56,98,105,116]⟩] 73)).heap.size := by rw [World.size_alloc]; omega
 have hsrc5 : Src Tryz.prog 2 37 (.slice (some ⟨W4.heap.size,0,none⟩) 1 1) 1 [Fd.strv cteN,Fd.strv (codeN 0)] (W4.alloc (.cells #[.string ⟨#[67,111,110,116,101,110,116,45,84,114,97,110,115,102,101,114,45,69,110,99,111,100,105,110,103]⟩,.string ⟨#[56,98,105,116]⟩] 73)) := Src_rv (news := [Fd.strv cteN,Fd.strv (codeN 0)]) Tryz.underlying37 rfl (Rv_new W4 _ _ _ rfl) (by simp [Value.oneCell',Fd.strv]) (by omega)
 have hsz5 : w.heap.size + 2 ≤ (W4.alloc (.cells #[.string ⟨#[67,111,110,116,101,110,116,45,84,114,97,110,115,102,101,114,45,69,110,99,111,100,105,110,103]⟩,.string ⟨#[56,98,105,116]⟩] 73)).heap.size := by show _ ≤ (W4.alloc (.cells #[.string ⟨#[67,111,110,116,101,110,116,45,84,114,97,110,115,102,101,114,45,69,110,99,111,100,105,110,103]⟩,.string ⟨#[56,98,105,116]⟩] 73)).heap.size; omega
 have hne1 : (Value.slice (some ⟨w2.heap.size,0,none⟩) 1 1).ownBlock ≠ some (w2.heap.size + 1) := by simp [Value.ownBlock]
 have hne2 : (Value.slice (some ⟨w2.heap.size,0,none⟩) 1 1).ownBlock ≠ some (w.heap.size + 1) := by simp [Value.ownBlock]; omega
 have hne3 : (Value.slice (some ⟨w2.heap.size,0,none⟩) 1 1).ownBlock ≠ some w.heap.size := by simp [Value.ownBlock]; omega
 go_upto_region 35 with (at_builtin; refine wpList_app rfl _ _ _ _ rfl Fd.TField hox5 rfl hsrc5 rfl (by omega) hsz5 ?_; intro v6 w6 hown6 hgr6 hat6; obtain ⟨A6,c6,hv6,_,_,hR6,_⟩ := own_form hown6; subst hv6; have rL6 := Row.grown (w := (W4.alloc (.cells #[.string ⟨#[67,111,110,116,101,110,116,45,84,114,97,110,115,102,101,114,45,69,110,99,111,100,105,110,103]⟩,.string ⟨#[56,98,105,116]⟩] 73))) rL5 hgr6 hne1; have rl6 := Row.grown (w := (W4.alloc (.cells #[.string ⟨#[67,111,110,116,101,110,116,45,84,114,97,110,115,102,101,114,45,69,110,99,111,100,105,110,103]⟩,.string ⟨#[56,98,105,116]⟩] 73))) rl5 hgr6 hne2; have rp6 := Row.grown (w := (W4.alloc (.cells #[.string ⟨#[67,111,110,116,101,110,116,45,84,114,97,110,115,102,101,114,45,69,110,99,111,100,105,110,103]⟩,.string ⟨#[56,98,105,116]⟩] 73))) rp5 hgr6 hne3; have k60 := rL6.cell (j := 0) rfl; have z60 := rL6.frozen 0)
 have hR6v : Fd.Rf w6 A6 [(ctN,wv),(cteN,codeN 0)] := hR6
 have rL7 := rL6.set 0 (.slice A6 2 c6)
 have rl7 := rl6.far (a := ⟨w2.heap.size + 1,0,none⟩) (by simp; omega) (.slice A6 2 c6)
 have rp7 := rp6.far (a := ⟨w2.heap.size + 1,0,none⟩) (by simp; omega) (.slice A6 2 c6)
 have hF7 : Fd.Rf (w6.setCell ⟨w2.heap.size + 1,0,none⟩ (.slice A6 2 c6)) A6 [(ctN,wv),(cteN,codeN 0)] := Rv_setFar rL6 hR6v (sl_fields (two_sl _ _ _ _ _ _) _) 0 _
 have hB6 := hB5.grown hgr6 hB5.size (fun j hj => by simp [Value.ownBlock] at hj; omega)
 have hB7 := hB6.setCell (p := ⟨w2.heap.size + 1,0,none⟩) (by simp; omega) (.slice A6 2 c6)
 have hz7 : w2.heap.size + 4 ≤ (w6.setCell ⟨w2.heap.size + 1,0,none⟩ (.slice A6 2 c6)).heap.size := by rw [World.size_setCell]; exact Nat.le_trans hz5 hgr6.size
 obtain ⟨W7,hW7⟩ : ∃ W,w6.setCell ⟨w2.heap.size + 1,0,none⟩ (.slice A6 2 c6) = W := ⟨_,rfl⟩
 rw [hW7] at rL7 rl7 rp7 hF7 hB7 hz7 ⊢
 clear hW7 rL6 rl6 rp6 hR6 hR6v hB6 hgr6 hat6 hown6 k60 z60 rp5 rl5 rL5 hox5 hB5 hz5 hsrc5 hsz5 hne1 hne2 hne3 halF rp4 rl4 rL4 hox4 hB4 hz4 l0
 have hown0 := World.ownsRow_made (base := W7.heap.size) (e := 5) (size := 1) W7 #[] 0 (Nat.le_refl _) (by unfold maxLen; omega) rfl
 have hC0 : Below W7.heap.size W7 (W7.alloc (.cells #[] 5)) := (Below.refl _ _).alloc (Nat.le_refl _) _
 have hsB := hB.below (hB7.trans (hC0.mono hB7.size))
 have p3 := (rp7.below hC0).cell (j := 3) rfl
 go_upto_region 36 with (at_builtin; refine wpList_app rfl _ _ _ _ rfl TU8 hown0 rfl (Src_rb Tryz.underlying22 HL.out hsB) rfl (by omega) hC0.size ?_; intro v8 w8 hown8 hgr8 hat8; rw [Nat.zero_add] at hown8; obtain ⟨A8,c8,hv8,h8c,h8m,hR8,_⟩ := own_form hown8; subst hv8; have hC8 := below_app hC0 hown0 hgr8 hC0.size (Nat.le_refl _); have rL8 := rL7.below hC8; have k8 := rL8.cell (j := 1) rfl; have z8 := rL8.frozen 1)
 have hRb8 : Rb w8 A8 l := hR8
 have hpl8 := Pl_own hown8
 have rL9 := rL8.set 1 (.slice A8 nb c8)
 have rl9 := (rl7.below hC8).far (a := ⟨w2.heap.size + 1,1,none⟩) (by simp; omega) (.slice A8 nb c8)
 have rp9 := (rp7.below hC8).far (a := ⟨w2.heap.size + 1,1,none⟩) (by simp; omega) (.slice A8 nb c8)
 have hF9 : Fd.Rf (w8.setCell ⟨w2.heap.size + 1,1,none⟩ (.slice A8 nb c8)) A6 [(ctN,wv),(cteN,codeN 0)] := Rv_setFar rL8 (Rv.below hF7 hC8) (sl_fields (two_sl _ _ _ _ _ _) _) 1 _
 have hE9 : Rb (w8.setCell ⟨w2.heap.size + 1,1,none⟩ (.slice A8 nb c8)) A8 l := Rv_setFar rL8 hRb8 (sl_bytes (two_sl _ _ _ _ _ _) _) 1 _
 have hB8 := hB7.trans (hC8.mono hB7.size)
 have hB9 := hB8.setCell (p := ⟨w2.heap.size + 1,1,none⟩) (by simp; omega) (.slice A8 nb c8)
 have hz9 : w2.heap.size + 4 ≤ (w8.setCell ⟨w2.heap.size + 1,1,none⟩ (.slice A8 nb c8)).heap.size := by rw [World.size_setCell]; exact Nat.le_trans hz7 hC8.size
 obtain ⟨W9,hW9⟩ : ∃ W,w8.setCell ⟨w2.heap.size + 1,1,none⟩ (.slice A8 nb c8) = W := ⟨_,rfl⟩
 rw [hW9] at rL9 rl9 rp9 hF9 hE9 hB9 hz9 ⊢
 clear hW9 rL8 rL7 rl7 rp7 hF7 hRb8 hR8 hown8 hgr8 hat8 hown0 hC0 hC8 hsB p3 k8 z8 hB7 hB8 hz7
 have p2 := rp9.cell (j := 2) rfl
 have p3 := rp9.cell (j := 3) rfl
 have HENC := Lib.hid (show encB 0 l = l from rfl)
 have HNE := Lib.hid HL.out
 have l0 := rL9.cell (j := 0) rfl
 have l1 := rL9.cell (j := 1) rfl
 go_wp2_with fail
 refine (Fd.rlw_any A6 A8 [(ctN,wv),(cteN,codeN 0)] l 2 c6 nb c8 W9 rfl HNE.out hF9 hE9 HRF.out HFL.out (by omega) (by omega)).mono ?_
 rintro e w12 ⟨⟨v12,rfl,_⟩,hb12⟩
 have rL12 := rL9.below hb12
 have rl12 := rl9.below hb12
 have hF12 : Fd.Rf w12 A6 [(ctN,wv),(cteN,codeN 0)] := Rv.below hF9 hb12
 have hE12 := hE9.below hb12
 have hB12 := hB9.trans (hb12.mono hB9.size)
 clear l0 l1 rL9 rl9 hF9 hE9 hB9 hb12
 have l0 := rL12.cell (j := 0) rfl
 have l1 := rL12.cell (j := 1) rfl
 have m0 := rl12.cell (j := 0) rfl
 have m1 := rl12.cell (j := 1) rfl
 have n0 := rl12.frozen 0
 have n1 := rl12.frozen 1
 go_wp2_with fail
 have r13 := rl12.set 0 (.slice A6 2 c6)
 have r14 := r13.set 1 (.slice A8 nb c8)
 have hFF := Rv_setFar r13 (Rv_setFar rl12 hF12 (sl_fields (two_sl _ _ _ _ _ _) _) 0 (.slice A6 2 c6)) (sl_fields (two_sl _ _ _ _ _ _) _) 1 (.slice A8 nb c8)
 have hEF := Rv_setFar r13 (Rv_setFar rl12 hE12 (sl_bytes (two_sl _ _ _ _ _ _) _) 0 (.slice A6 2 c6)) (sl_bytes (two_sl _ _ _ _ _ _) _) 1 (.slice A8 nb c8)
 have hBF := (hB12.setCell (p := ⟨w.heap.size + 1,0,none⟩) (by simp) (.slice A6 2 c6)).setCell (p := ⟨w.heap.size + 1,1,none⟩) (by simp) (.slice A8 nb c8)
 have e0 := r14.cell (j := 0) rfl
 have e1 := r14.cell (j := 1) rfl
 refine bodyPost_ret (v := .tuple #[.agg #[.slice A6 2 c6,.slice A8 nb c8],.int .i64 0]) (by simp [results,Tryz.results34,go_sem,e0,e1]) rfl ⟨?_,hBF⟩
 rw [HENC.out]
 exact ⟨A6,c6,A8,c8,by simp only [HNE.out]; rfl,hFF,hEF,by simp only [HNE.out]; exact h8c,h8m,hpl8⟩
end
end Go.Proofs.YtkllecicddfjpaaGreatDoor
