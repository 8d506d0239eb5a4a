/- The walk of the law, part 28. -/
import Derived.Test.YtkllecicddfjpaaGreatDoorJ18
import Derived.Test.YtkllecicddfjpaaGreatDoorJ02
import Derived.Test.YtkllecicddfjpaaGreatDoorJ10
import Derived.Test.YtkllecicddfjpaaGreatDoorChecked
set_option maxRecDepth 100000
set_option maxHeartbeats 16000000
set_option linter.unusedVariables false
set_option linter.unusedSimpArgs false
namespace Go.Proofs.YtkllecicddfjpaaGreatDoor
section
open Go.RowKit
theorem trimE_snoc (l : List UInt8) (x : UInt8) : trimE (l ++ [x]) = if x = 32 ∨ x = 9 then trimE l else l ++ [x] := by
 unfold trimE Lib.trimRightS
 rw [List.reverse_append,List.reverse_singleton,List.singleton_append,List.dropWhile_cons]
 by_cases h : x = 32 ∨ x = 9
 ·rw [if_pos h,if_pos (by rcases h with rfl | rfl <;> rfl)]
 ·rw [if_neg h,if_neg (by simpa [not_or] using h)]
  simp
theorem rmark_any (A : Option Addr) (l bd : List UInt8) (n c : Nat) (w : World) (hn : l.length = n) (hA : Rb w A l) (hnc : n ≤ c) (hb : n ≤ 1000000) (hbd : bd.length ≤ 1000000) :
 Calls Tryz.prog 145 #[.slice A n c,.string (bs bd)] w fun e w' => e = .returned (.int .i64 (mk bd l)) ∧ w = w' := by
 have HN := Lib.hid hn
 clear hn
 go_enter Tryz.func145,Tryz.ntmps145
 go_upto_block 0 with fail
 go_cut [5] from 8 to 27 (fun s5 wx => (s5 = .int .i64 ((trimE l).length : Int) ∧ Hid (l.take (trimE l).length = trimE l ∧ (trimE l).length ≤ n)) ∧ wx = w)
 case first =>
  go_wp2_with fail
  go_loop [5] (fun i => ∃ k : Nat,k ≤ n ∧ i = .int .i64 k ∧ Hid (trimE l = trimE (l.take k))) (fun i => (intOf i).toNat)
  case atStart => exact ⟨n,Nat.le_refl _,rfl,Lib.hid (by rw [List.take_of_length_le (by rw [HN.out]; exact Nat.le_refl _)])⟩
  case round =>
   obtain ⟨k,hk,rfl,HT⟩ := hrel
   by_cases h0 : 0 < k
   ·obtain ⟨m,rfl⟩ : ∃ m,k = m + 1 := ⟨k - 1,by omega⟩
    obtain ⟨b,o,x,rfl,HX,hxk⟩ := hA.one (k := m) (by rw [HN.out]; omega)
    have hsn := trimE_snoc (l.take m) x
    rw [← take_succ_of HX.out] at hsn
    have HS := Lib.hid hsn
    clear hsn
    have e1 : (((m + 1 : Nat) : Int) - 1) = (m : Int) := by omega
    have hm0 : (0 : Int) < ((m + 1 : Nat) : Int) := by omega
    have t32 : ((x.toNat : Int) == 32) = (x == 32) := u8_beq x 32
    have t9 : ((x.toNat : Int) == 9) = (x == 9) := u8_beq x 9
    by_cases hb : x = 32 ∨ x = 9
    ·have HT2 := Lib.hid (show trimE l = trimE (l.take m) by rw [HT.out,HS.out,if_pos hb])
     by_cases h32 : x = 32
     ·have hb1 : ((x.toNat : Int) == 32) = true := by rw [t32,h32]; rfl
      clear t32 t9 hb h32
      go_wp2_with fail
      go_round
      case rel => exact ⟨m,by omega,by go_num,HT2⟩
      case measure => simp [intOf]
     ·have hb1 : ((x.toNat : Int) == 32) = false := by rw [t32]; simpa using h32
      have hb2 : ((x.toNat : Int) == 9) = true := by rw [t9]; rcases hb with h | h; exact absurd h h32; rw [h]; rfl
      clear t32 t9 hb h32
      go_wp2_with fail
      go_round
      case rel => exact ⟨m,by omega,by go_num,HT2⟩
      case measure => simp [intOf]
    ·have hb1 : ((x.toNat : Int) == 32) = false := by rw [t32]; simpa using fun h => hb (.inl h)
     have hb2 : ((x.toNat : Int) == 9) = false := by rw [t9]; simpa using fun h => hb (.inr h)
     have HT2 := Lib.hid (show trimE l = l.take (m + 1) by rw [HT.out,HS.out,if_neg hb,take_succ_of HX.out])
     clear t32 t9 hb
     go_wp2_with fail
     go_meet
     have hl : (trimE l).length = m + 1 := by rw [HT2.out,List.length_take,HN.out]; omega
     exact ⟨⟨by rw [hl]; go_num,Lib.hid ⟨by rw [hl,HT2.out],by omega⟩⟩,rfl⟩
   ·obtain rfl : k = 0 := by omega
    have HT2 := Lib.hid (show trimE l = [] by rw [HT.out]; rfl)
    go_wp2_with fail
    go_meet
    exact ⟨⟨by rw [HT2.out]; rfl,Lib.hid ⟨by rw [HT2.out]; rfl,by rw [HT2.out]; exact Nat.zero_le _⟩⟩,rfl⟩
 case rest =>
  obtain ⟨⟨rfl,HT⟩,rfl⟩ := hcut
  obtain ⟨hT,hTn⟩ := HT.out
  have hRt : Rb wc A (trimE l) := by rw [← hT]; exact hA.take _
  have hsl := slice_to (P := Tryz.prog) Tryz.underlying22 (s := 1) (fun w => Tryz.sizeOf5 w) A n c (trimE l).length (by omega)
  have hcv := fun W (h : Rb W A (trimE l)) => conv_str (P := Tryz.prog) (src := 22) (dst := 9) (e := 5) Tryz.underlying22 Tryz.underlying5 Tryz.underlying9 (A := A) (l := trimE l) (c := c) h rfl
  have hcv2 := hcv wc hRt
  have hdd : ∀ a : List UInt8,(⟨#[45,45]⟩ : ByteArray) ++ bs a = bs ([45,45] ++ a) := fun a => bs_add [45,45] a
  have hdd2 : ∀ a : List UInt8,bs a ++ (⟨#[45,45]⟩ : ByteArray) = bs (a ++ [45,45]) := fun a => bs_add a [45,45]
  clear hcv hT HT
  by_cases h1 : trimE l = [45,45] ++ bd
  ·have e1 : (trimE l == 45 :: 45 :: bd) = true := by simpa using h1
   have HM := Lib.hid (mk_one.2 h1)
   have H1 := Lib.hid h1
   clear h1
   go_wp2_with fail
   go_ret
   exact ⟨ret_int (by rw [HM.out]; rfl),rfl⟩
  ·have e1 : (trimE l == 45 :: 45 :: bd) = false := by simpa using h1
   by_cases h2 : trimE l = [45,45] ++ bd ++ [45,45]
   ·have e2 : (trimE l == 45 :: 45 :: (bd ++ [45,45])) = true := by simpa using h2
    have HM := Lib.hid (mk_two.2 h2)
    have H2 := Lib.hid h2
    clear h1 h2
    go_wp2_with fail
    go_ret
    exact ⟨ret_int (by rw [HM.out]; rfl),rfl⟩
   ·have e2 : (trimE l == 45 :: 45 :: (bd ++ [45,45])) = false := by simpa using h2
    have HM := Lib.hid (mk_zero.2 ⟨h1,h2⟩)
    clear h1 h2
    go_wp2_with fail
    go_ret
    exact ⟨ret_int (by rw [HM.out]; rfl),rfl⟩
end
end Go.Proofs.YtkllecicddfjpaaGreatDoor
