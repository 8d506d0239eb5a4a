/- The walk of the law, part 43. -/
import Derived.Test.YtkllecicddfjpaaGreatDoorJ42
import Derived.KernelRfl
set_option maxRecDepth 100000
set_option maxHeartbeats 16000000
set_option linter.unusedVariables false
set_option linter.unusedSimpArgs false
namespace Go.Proofs.YtkllecicddfjpaaGreatDoor
section
open Go.RowKit
theorem raddress_any (l : List UInt8) (w : World) (hl : l.length ≤ 1000000) :
 Calls Tryz.prog 9 #[.string (bs l)] w fun e w' => e = .returned (.bool (adB l)) ∧ Below w.heap.size w w' := by
 have ha := Tk.raddr_any l w hl
 cases hp : Tk.addrP l with
 | error k =>
   rw [hp] at ha
   have hk : ((k : Int) == 0) = false := by
    rw [beq_eq_false_iff_ne]
    have := addrP_err' hp
    omega
   have HA := Lib.hid (show adB l = false by unfold adB; rw [hp])
   have ha' : Calls Tryz.prog 29 #[.string (bs l)] w fun e w' => e = .returned (.tuple #[.string (bs []),.int .i64 (k : Int)]) ∧ Below w.heap.size w w' := ha
   clear ha hp
   go_enter Tryz.func9,Tryz.ntmps9
   go_wp2_with fail
   refine ha'.mono ?_
   rintro e w1 ⟨rfl,hb1⟩
   go_wp2_with fail
   go_ret
   exact ⟨ret_bool HA.out.symm,hb1⟩
 | ok a =>
   rw [hp] at ha
   obtain ⟨z,hz⟩ : ∃ z,(a == l) = z := ⟨_,rfl⟩
   have HA := Lib.hid (show adB l = z by unfold adB; rw [hp]; exact hz)
   have ha' : Calls Tryz.prog 29 #[.string (bs l)] w fun e w' => e = .returned (.tuple #[.string (bs a),.int .i64 0]) ∧ Below w.heap.size w w' := ha
   clear ha hp
   go_enter Tryz.func9,Tryz.ntmps9
   go_wp2_with fail
   refine ha'.mono ?_
   rintro e w1 ⟨rfl,hb1⟩
   go_wp2_with fail
   go_ret
   exact ⟨ret_bool HA.out.symm,hb1⟩
theorem bdC_def (c : UInt8) : Pk.bdC c = !(decide (c.toNat < 33) || decide (126 < c.toNat) || (c == 60) || (c == 62) || (c == 40) || (c == 41) || (c == 34) || (c == 92)) := by
 unfold Pk.bdC Pk.sgn
 simp only [List.contains_cons,List.contains_nil,UInt8.le_iff_toNat_le]
 have h1 : decide ((33 : UInt8).toNat ≤ c.toNat) = !decide (c.toNat < 33) := by
  rw [← decide_not]
  exact decide_eq_decide.2 (by simp)
 have h2 : decide (c.toNat ≤ (126 : UInt8).toNat) = !decide (126 < c.toNat) := by
  rw [← decide_not]
  exact decide_eq_decide.2 (by simp)
 rw [h1,h2]
 cases decide (c.toNat < 33) <;> cases decide (126 < c.toNat) <;> simp [Bool.or_assoc]
theorem idOk_all {l : List UInt8} (h : Pk.idOk l = true) : ∀ c ∈ l,Pk.bdC c = true := by
 unfold Pk.idOk at h
 simp only [Bool.and_eq_true,List.all_eq_true] at h
 exact h.2
theorem idOk_bad {l : List UInt8} {q : Nat} {x : UInt8} (hx : l[q]? = some x) (h : Pk.bdC x = false) : Pk.idOk l = false := by
 cases hb : Pk.idOk l with
 | false => rfl
 | true =>
   have := idOk_all hb x (List.mem_of_getElem? hx)
   rw [h] at this
   cases this
theorem rid_any (l : List UInt8) (w : World) (hl : l.length ≤ 1000000) :
 Calls Tryz.prog 10 #[.string (bs l)] w fun e w' => e = .returned (.bool (Pk.idOk l)) ∧ w = w' := by
 obtain ⟨n,hn⟩ : ∃ n,l.length = n := ⟨_,rfl⟩
 have HN := Lib.hid hn
 go_enter Tryz.func10,Tryz.ntmps10
 go_wp2_with fail
 go_loop [3] (fun i => ∃ q : Nat,i = .int .i64 q ∧ q ≤ n ∧ Hid ((l.take q).all Pk.bdC = true)) (fun i => n - (intOf i).toNat)
 case atStart => exact ⟨0,rfl,by omega,Lib.hid (by simp)⟩
 case round =>
  obtain ⟨q,rfl,hq,HA⟩ := hrel
  by_cases hlt : q < n
  ·obtain ⟨x,hx⟩ : ∃ x,l[q]? = some x := ⟨_,List.getElem?_eq_getElem (by rw [hn]; exact hlt)⟩
   have hi := str_index (P := Tryz.prog) Tryz.underlying9 hx .i64
   have HBAD := fun h => Lib.hid (idOk_bad hx h)
   have HOK := fun (h : Pk.bdC x = true) => Lib.hid (show (l.take (q + 1)).all Pk.bdC = true by rw [take_succ_of hx,List.all_append,HA.out]; simp [h])
   have hdef := bdC_def x
   have hx0 := u8_ge x
   have hx255 := u8_lt x
   clear hx
   by_cases h0 : x.toNat < 33
   ·have j0 : (x.toNat : Int) < 33 := by omega
    have HB := HBAD (by rw [hdef]; simp [h0])
    clear hdef HBAD HOK
    go_wp2_with fail
    go_ret
    exact ⟨ret_bool HB.out.symm,rfl⟩
   have j0 : ¬ (x.toNat : Int) < 33 := by omega
   by_cases h1 : 126 < x.toNat
   ·have j1 : 126 < (x.toNat : Int) := by omega
    have HB := HBAD (by rw [hdef]; simp [h0,h1])
    clear hdef HBAD HOK
    go_wp2_with fail
    go_ret
    exact ⟨ret_bool HB.out.symm,rfl⟩
   have j1 : ¬ 126 < (x.toNat : Int) := by omega
   by_cases h2 : x = 60
   ·have j2 : ((x.toNat : Int) == 60) = true := by rw [h2]; rfl
    have HB := HBAD (by rw [hdef]; simp [h0,h1,h2])
    clear hdef HBAD HOK h2
    go_wp2_with fail
    go_ret
    exact ⟨ret_bool HB.out.symm,rfl⟩
   have j2 : ((x.toNat : Int) == 60) = false := by rw [show ((x.toNat : Int) == 60) = (x == 60) from u8_beq x 60]; simpa using h2
   by_cases h3 : x = 62
   ·have j3 : ((x.toNat : Int) == 62) = true := by rw [h3]; rfl
    have HB := HBAD (by rw [hdef]; simp [h0,h1,h2,h3])
    clear hdef HBAD HOK h3
    go_wp2_with fail
    go_ret
    exact ⟨ret_bool HB.out.symm,rfl⟩
   have j3 : ((x.toNat : Int) == 62) = false := by rw [show ((x.toNat : Int) == 62) = (x == 62) from u8_beq x 62]; simpa using h3
   by_cases h4 : x = 40
   ·have j4 : ((x.toNat : Int) == 40) = true := by rw [h4]; rfl
    have HB := HBAD (by rw [hdef]; simp [h0,h1,h2,h3,h4])
    clear hdef HBAD HOK h4
    go_wp2_with fail
    go_ret
    exact ⟨ret_bool HB.out.symm,rfl⟩
   have j4 : ((x.toNat : Int) == 40) = false := by rw [show ((x.toNat : Int) == 40) = (x == 40) from u8_beq x 40]; simpa using h4
   by_cases h5 : x = 41
   ·have j5 : ((x.toNat : Int) == 41) = true := by rw [h5]; rfl
    have HB := HBAD (by rw [hdef]; simp [h0,h1,h2,h3,h4,h5])
    clear hdef HBAD HOK h5
    go_wp2_with fail
    go_ret
    exact ⟨ret_bool HB.out.symm,rfl⟩
   have j5 : ((x.toNat : Int) == 41) = false := by rw [show ((x.toNat : Int) == 41) = (x == 41) from u8_beq x 41]; simpa using h5
   by_cases h6 : x = 34
   ·have j6 : ((x.toNat : Int) == 34) = true := by rw [h6]; rfl
    have HB := HBAD (by rw [hdef]; simp [h0,h1,h2,h3,h4,h5,h6])
    clear hdef HBAD HOK h6
    go_wp2_with fail
    go_ret
    exact ⟨ret_bool HB.out.symm,rfl⟩
   have j6 : ((x.toNat : Int) == 34) = false := by rw [show ((x.toNat : Int) == 34) = (x == 34) from u8_beq x 34]; simpa using h6
   by_cases h7 : x = 92
   ·have j7 : ((x.toNat : Int) == 92) = true := by rw [h7]; rfl
    have HB := HBAD (by rw [hdef]; simp [h0,h1,h2,h3,h4,h5,h6,h7])
    clear hdef HBAD HOK h7
    go_wp2_with fail
    go_ret
    exact ⟨ret_bool HB.out.symm,rfl⟩
   have j7 : ((x.toNat : Int) == 92) = false := by rw [show ((x.toNat : Int) == 92) = (x == 92) from u8_beq x 92]; simpa using h7
   have HO := HOK (by rw [hdef]; simp [h0,h1,h2,h3,h4,h5,h6,h7])
   clear hdef HBAD HOK
   go_wp2_with fail
   go_round
   case rel => exact ⟨q + 1,by go_num,by omega,HO⟩
   case measure => simp [intOf]; omega
  ·obtain rfl : q = n := by omega
   have hall : l.all Pk.bdC = true := by
    have h := HA.out
    rwa [List.take_of_length_le (by rw [hn]; exact Nat.le_refl _)] at h
   have HI := Lib.hid (show Pk.idOk l = (decide (1 ≤ q) && decide (q ≤ 200)) by unfold Pk.idOk; rw [hall,hn,Bool.and_true])
   rcases (by omega : q = 0 ∨ (1 ≤ q ∧ q ≤ 200) ∨ 200 < q) with h | ⟨h1,h2⟩ | h
   ·subst h
    go_wp2_with fail
    go_ret
    exact ⟨ret_bool (by rw [HI.out]; rfl),rfl⟩
   ·have i1 : (1 : Int) ≤ (q : Int) := by omega
    have i2 : (q : Int) ≤ 200 := by omega
    go_wp2_with fail
    go_ret
    exact ⟨ret_bool (by rw [HI.out,decide_eq_true h1,decide_eq_true h2]; try rfl),rfl⟩
   ·have i1 : (1 : Int) ≤ (q : Int) := by omega
    have i2 : ¬ (q : Int) ≤ 200 := by omega
    go_wp2_with fail
    go_ret
    exact ⟨ret_bool (by rw [HI.out,decide_eq_false (p := q ≤ 200) (by omega),Bool.and_false]),rfl⟩
def greatE (x : En) : Bool := decide (300 < x.fr.length) || decide (300 < x.too.length) || decide (300 < x.id.length) || decide (300 < x.th.length) || decide (3000 < x.cip.length) || decide (4000 < x.bun.length)
theorem great13_any (x : En) (A : Option Addr) (ca : Nat) (B : Option Addr) (cb : Nat) (w : World) :
 Calls Tryz.prog 8 #[env x A ca B cb] w fun e w' => e = .returned (.bool (greatE x)) ∧ Below w.heap.size w w' := by
 obtain ⟨fr,too,id,th,pl,bun,cip⟩ := x
 obtain ⟨n0,hn0⟩ : ∃ n,fr.length = n := ⟨_,rfl⟩
 obtain ⟨n1,hn1⟩ : ∃ n,too.length = n := ⟨_,rfl⟩
 obtain ⟨n2,hn2⟩ : ∃ n,id.length = n := ⟨_,rfl⟩
 obtain ⟨n3,hn3⟩ : ∃ n,th.length = n := ⟨_,rfl⟩
 obtain ⟨n4,hn4⟩ : ∃ n,cip.length = n := ⟨_,rfl⟩
 obtain ⟨n5,hn5⟩ : ∃ n,bun.length = n := ⟨_,rfl⟩
 have HG := Lib.hid (show greatE ⟨fr,too,id,th,pl,bun,cip⟩ = (decide (300 < n0) || decide (300 < n1) || decide (300 < n2) || decide (300 < n3) || decide (3000 < n4) || decide (4000 < n5)) by unfold greatE; simp only [hn0,hn1,hn2,hn3,hn4,hn5])
 unfold env
 simp only [hn4,hn5]
 have hB0 : Below w.heap.size w (w.alloc (.cells #[.string (bs fr),.string (bs too),.string (bs id),.string (bs th),.bool pl,.slice A n5 ca,.slice B n4 cb] 24)) := (Below.refl _ _).alloc (Nat.le_refl _) _
 go_enter Tryz.func8,Tryz.ntmps8
 by_cases h0 : 300 < n0
 ·have j0 : (300 : Int) < (n0 : Int) := by omega
  go_wp2_with fail
  go_ret
  exact ⟨ret_bool (by rw [HG.out]; simp [h0]),hB0⟩
 have j0 : ¬ (300 : Int) < (n0 : Int) := by omega
 by_cases h1 : 300 < n1
 ·have j1 : (300 : Int) < (n1 : Int) := by omega
  go_wp2_with fail
  go_ret
  exact ⟨ret_bool (by rw [HG.out]; simp [h0,h1]),hB0⟩
 have j1 : ¬ (300 : Int) < (n1 : Int) := by omega
 by_cases h2 : 300 < n2
 ·have j2 : (300 : Int) < (n2 : Int) := by omega
  go_wp2_with fail
  go_ret
  exact ⟨ret_bool (by rw [HG.out]; simp [h0,h1,h2]),hB0⟩
 have j2 : ¬ (300 : Int) < (n2 : Int) := by omega
 by_cases h3 : 300 < n3
 ·have j3 : (300 : Int) < (n3 : Int) := by omega
  go_wp2_with fail
  go_ret
  exact ⟨ret_bool (by rw [HG.out]; simp [h0,h1,h2,h3]),hB0⟩
 have j3 : ¬ (300 : Int) < (n3 : Int) := by omega
 by_cases h4 : 3000 < n4
 ·have j4 : (3000 : Int) < (n4 : Int) := by omega
  go_wp2_with fail
  go_ret
  exact ⟨ret_bool (by rw [HG.out]; simp [h0,h1,h2,h3,h4]),hB0⟩
 have j4 : ¬ (3000 : Int) < (n4 : Int) := by omega
 by_cases h5 : 4000 < n5
 ·have j5 : (4000 : Int) < (n5 : Int) := by omega
  go_wp2_with fail
  go_ret
  exact ⟨ret_bool (by rw [HG.out]; simp [h0,h1,h2,h3,h4,h5]),hB0⟩
 have j5 : ¬ (4000 : Int) < (n5 : Int) := by omega
 go_wp2_with fail
 go_ret
 exact ⟨ret_bool (by rw [HG.out]; simp [h0,h1,h2,h3,h4,h5]),hB0⟩
def ex1 : En := ⟨[97,64,98],[99,64,100],[49,64,97],[116],false,[],[]⟩
def ex2 : En := ⟨[97,64,98],[99,64,100],[49,64,97],[116,32,117],false,[],[]⟩
theorem ex1_ok : (match packW ex1 with | .ok m => m.1.length == 5 | .error _ => false) = true := by kernel_rfl
theorem ex2_no : packW ex2 = .error 3 := by kernel_rfl
end
end Go.Proofs.YtkllecicddfjpaaGreatDoor
