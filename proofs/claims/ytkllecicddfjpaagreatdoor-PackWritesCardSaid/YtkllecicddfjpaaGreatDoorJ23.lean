/- The walk of the law, part 23. -/
import Derived.Test.YtkllecicddfjpaaGreatDoorJ01
import Derived.Test.YtkllecicddfjpaaGreatDoorJ16
import Derived.Test.YtkllecicddfjpaaGreatDoorJ02
import Derived.Test.YtkllecicddfjpaaGreatDoorJ06
import Derived.Shelf.Spec.DecodeRune
import Derived.Test.YtkllecicddfjpaaGreatDoorJ17
import Derived.Laws.BitsAllLaws
set_option maxRecDepth 100000
set_option maxHeartbeats 16000000
set_option linter.unusedVariables false
set_option linter.unusedSimpArgs false
namespace Go.Proofs.YtkllecicddfjpaaGreatDoor
section
namespace Ar
def nbits (k N : Nat) : List Nat := (List.range k).map fun j => N / 2 ^ (k - 1 - j) % 2
theorem nbits_length (k N : Nat) : (nbits k N).length = k := by simp [nbits]
theorem nbits_get {k N j : Nat} (h : j < k) : (nbits k N)[j]? = some (N / 2 ^ (k - 1 - j) % 2) := by simp [nbits,h]
theorem nbits_lt {k N : Nat} : ∀ b ∈ nbits k N,b < 2 := by
 intro b hb
 simp only [nbits,List.mem_map,List.mem_range] at hb
 obtain ⟨j,_,rfl⟩ := hb
 omega
def num (l : List Nat) : Nat := l.foldl (fun n b => 2 * n + b) 0
theorem num_snoc (l : List Nat) (b : Nat) : num (l ++ [b]) = 2 * num l + b := by simp [num]
theorem num_acc (l : List Nat) (h : ∀ b ∈ l,b < 2) (n : Nat) : l.foldl (fun n b => 2 * n + b) n < (n + 1) * 2 ^ l.length := by
 induction l generalizing n with
 | nil => simp
 | cons b l ih =>
  have h1 := ih (fun x hx => h x (by simp [hx])) (2 * n + b)
  have h2 := h b (by simp)
  rw [List.foldl_cons,List.length_cons,Nat.pow_succ]
  have h3 : (2 * n + b + 1) * 2 ^ l.length ≤ (2 * (n + 1)) * 2 ^ l.length := Nat.mul_le_mul_right _ (by omega)
  have e : (n + 1) * (2 ^ l.length * 2) = (2 * (n + 1)) * 2 ^ l.length := by rw [Nat.mul_comm (2 ^ l.length) 2,← Nat.mul_assoc,Nat.mul_comm (n + 1) 2]
  omega
theorem num_lt {l : List Nat} (h : ∀ b ∈ l,b < 2) : num l < 2 ^ l.length := by simpa [num] using num_acc l h 0
def bits8 (xs : List UInt8) : List Nat := xs.flatMap fun y => nbits 8 y.toNat
theorem bits8_snoc (xs : List UInt8) (y : UInt8) : bits8 (xs ++ [y]) = bits8 xs ++ nbits 8 y.toNat := by simp [bits8]
theorem bits8_length (xs : List UInt8) : (bits8 xs).length = 8 * xs.length := by
 induction xs with
 | nil => rfl
 | cons y r ih =>
  have e : bits8 (y :: r) = nbits 8 y.toNat ++ bits8 r := rfl
  rw [e,List.length_append,ih,nbits_length,List.length_cons]
  omega
theorem bits8_lt (xs : List UInt8) : ∀ b ∈ bits8 xs,b < 2 := by
 intro b hb
 simp only [bits8,List.mem_flatMap] at hb
 obtain ⟨y,_,h⟩ := hb
 exact nbits_lt b h
def padTo {α : Type} (k : Nat) (z : α) (l : List α) : List α := l ++ List.replicate ((k - l.length % k) % k) z
theorem padTo_append {α : Type} (k : Nat) (z : α) (p l : List α) (h : p.length % k = 0) : padTo k z (p ++ l) = p ++ padTo k z l := by
 unfold padTo
 rw [List.length_append,List.append_assoc,Nat.add_mod,h,Nat.zero_add,Nat.mod_mod]
def sgnsTo (W : List Nat) (k : Nat) : List UInt8 := (List.range k).map fun j => sgs.getD (num ((W.drop (6 * j)).take 6)) 0
theorem sgnsTo_succ (W : List Nat) (k : Nat) : sgnsTo W (k + 1) = sgnsTo W k ++ [sgs.getD (num ((W.drop (6 * k)).take 6)) 0] := by simp [sgnsTo,List.range_succ]
theorem sgnsTo_append (p W : List Nat) (q k : Nat) (h : p.length = 6 * q) : sgnsTo (p ++ W) (q + k) = sgnsTo p q ++ sgnsTo W k := by
 unfold sgnsTo
 rw [List.range_add,List.map_append,List.map_map]
 congr 1
 ·apply List.map_congr_left
  intro j hj
  simp only [List.mem_range] at hj
  rw [List.drop_append_of_le_length (by omega),List.take_append_of_le_length (by simp; omega)]
 ·apply List.map_congr_left
  intro j _
  simp only [Function.comp]
  rw [show 6 * (q + j) = p.length + 6 * j by omega,← List.drop_drop,List.drop_left]
def refE (xs : List UInt8) : List UInt8 := padTo 4 61 (sgnsTo (padTo 6 0 (bits8 xs)) ((padTo 6 0 (bits8 xs)).length / 6))
theorem six (a : Nat) (h : a < 64) : num [a / 32 % 2,a / 16 % 2,a / 8 % 2,a / 4 % 2,a / 2 % 2,a % 2] = a := by
 simp only [num,List.foldl]
 omega
theorem nbits8 (a : Nat) : nbits 8 a = [a / 128 % 2,a / 64 % 2,a / 32 % 2,a / 16 % 2,a / 8 % 2,a / 4 % 2,a / 2 % 2,a % 2] := by
 simp [nbits,List.range,List.range.loop]
theorem nbits6 (a : Nat) : nbits 6 a = [a / 32 % 2,a / 16 % 2,a / 8 % 2,a / 4 % 2,a / 2 % 2,a % 2] := by
 simp [nbits,List.range,List.range.loop]
theorem gsign_get (ys : List UInt8) (i : Nat) (h : ¬ ys.length < i) : gsign ys i = sgs.getD (gnum ys 3 / 2 ^ (18 - 6 * i) % 64) 0 := by rw [gsign,if_neg h]
theorem gsign_pad (ys : List UInt8) (i : Nat) (h : ys.length < i) : gsign ys i = 61 := by rw [gsign,if_pos h]
theorem sixes (ss : List Nat) (h : ∀ s ∈ ss,s < 64) : sgnsTo (ss.flatMap (nbits 6)) ss.length = ss.map fun s => sgs.getD s 0 := by
 induction ss with
 | nil => rfl
 | cons s r ih =>
  have hs := h s (by simp)
  rw [List.flatMap_cons,List.length_cons,Nat.add_comm,sgnsTo_append _ _ 1 _ (by rw [nbits_length]),ih fun x hx => h x (by simp [hx])]
  have e : sgnsTo (nbits 6 s) 1 = [sgs.getD s 0] := by
   have e6 : (nbits 6 s).take 6 = nbits 6 s := List.take_of_length_le (by rw [nbits_length]; omega)
   have e7 : num (nbits 6 s) = s := by rw [nbits6]; exact six s hs
   simp [sgnsTo,e6,e7]
  rw [e]
  rfl
theorem flat6 (ss : List Nat) : (ss.flatMap (nbits 6)).length = 6 * ss.length := by
 induction ss with
 | nil => rfl
 | cons s r ih => rw [List.flatMap_cons,List.length_append,nbits_length,ih,List.length_cons]; omega
theorem b0 (a : Nat) : nbits 6 (a / 4) = [a / 128 % 2,a / 64 % 2,a / 32 % 2,a / 16 % 2,a / 8 % 2,a / 4 % 2] := by
 rw [nbits6]; simp only [List.cons.injEq,and_true]; (repeat' apply And.intro) <;> omega
theorem b1 (a b : Nat) (hb : b < 256) : nbits 6 (a % 4 * 16 + b / 16) = [a / 2 % 2,a % 2,b / 128 % 2,b / 64 % 2,b / 32 % 2,b / 16 % 2] := by
 rw [nbits6]; simp only [List.cons.injEq,and_true]; (repeat' apply And.intro) <;> omega
theorem b2 (b c : Nat) (hc : c < 256) : nbits 6 (b % 16 * 4 + c / 64) = [b / 8 % 2,b / 4 % 2,b / 2 % 2,b % 2,c / 128 % 2,c / 64 % 2] := by
 rw [nbits6]; simp only [List.cons.injEq,and_true]; (repeat' apply And.intro) <;> omega
theorem b3 (c : Nat) : nbits 6 (c % 64) = [c / 32 % 2,c / 16 % 2,c / 8 % 2,c / 4 % 2,c / 2 % 2,c % 2] := by
 rw [nbits6]; simp only [List.cons.injEq,and_true]; (repeat' apply And.intro) <;> omega
def gs3 (a b c : UInt8) : List Nat := [a.toNat / 4,a.toNat % 4 * 16 + b.toNat / 16,b.toNat % 16 * 4 + c.toNat / 64,c.toNat % 64]
def gs2 (a b : UInt8) : List Nat := [a.toNat / 4,a.toNat % 4 * 16 + b.toNat / 16,b.toNat % 16 * 4 + 0 / 64]
def gs1 (a : UInt8) : List Nat := [a.toNat / 4,a.toNat % 4 * 16 + 0 / 16]
theorem gs3_lt (a b c : UInt8) : ∀ s ∈ gs3 a b c,s < 64 := by
 have ha := a.toNat_lt
 have hb := b.toNat_lt
 have hc := c.toNat_lt
 simp [gs3]; omega
theorem gs2_lt (a b : UInt8) : ∀ s ∈ gs2 a b,s < 64 := by
 have ha := a.toNat_lt
 have hb := b.toNat_lt
 simp [gs2]; omega
theorem gs1_lt (a : UInt8) : ∀ s ∈ gs1 a,s < 64 := by
 have ha := a.toNat_lt
 simp [gs1]; omega
theorem gs3_bits (a b c : UInt8) : (gs3 a b c).flatMap (nbits 6) = bits8 [a,b,c] := by
 simp only [gs3,bits8,List.flatMap_cons,List.flatMap_nil,b0,b1 _ _ b.toNat_lt,b2 _ _ c.toNat_lt,b3,nbits8,List.append_nil,List.cons_append,List.nil_append]
theorem gs2_bits (a b : UInt8) : (gs2 a b).flatMap (nbits 6) = bits8 [a,b] ++ [0,0] := by
 simp only [gs2,bits8,List.flatMap_cons,List.flatMap_nil,b0,b1 _ _ b.toNat_lt,b2 _ 0 (by omega),nbits8,List.append_nil,List.cons_append,List.nil_append,Nat.zero_div,Nat.zero_mod]
theorem gs1_bits (a : UInt8) : (gs1 a).flatMap (nbits 6) = bits8 [a] ++ [0,0,0,0] := by
 simp only [gs1,bits8,List.flatMap_cons,List.flatMap_nil,b0,b1 _ 0 (by omega),nbits8,List.append_nil,List.cons_append,List.nil_append,Nat.zero_div,Nat.zero_mod]
theorem enc3_three (a b c : UInt8) : enc3 [a,b,c] = (gs3 a b c).map fun s => sgs.getD s 0 := by
 have ha := a.toNat_lt
 have hb := b.toNat_lt
 have hc := c.toNat_lt
 rw [enc3_cons _ (by simp),gsign_get _ 0 (by simp),gsign_get _ 1 (by simp),gsign_get _ 2 (by simp),gsign_get _ 3 (by simp)]
 have g : gnum [a,b,c] 3 = (a.toNat * 256 + b.toNat) * 256 + c.toNat := by simp [gnum]
 rw [g]
 refine List.cons_eq_cons.2 ⟨congrArg (fun n => sgs.getD n 0) (by omega),List.cons_eq_cons.2 ⟨congrArg (fun n => sgs.getD n 0) (by omega),List.cons_eq_cons.2 ⟨congrArg (fun n => sgs.getD n 0) (by omega),List.cons_eq_cons.2 ⟨congrArg (fun n => sgs.getD n 0) (by omega),rfl⟩⟩⟩⟩
theorem enc3_two (a b : UInt8) : enc3 [a,b] = ((gs2 a b).map fun s => sgs.getD s 0) ++ [61] := by
 have ha := a.toNat_lt
 have hb := b.toNat_lt
 rw [enc3_cons _ (by simp),gsign_get _ 0 (by simp),gsign_get _ 1 (by simp),gsign_get _ 2 (by simp),gsign_pad _ 3 (by simp)]
 have g : gnum [a,b] 3 = (a.toNat * 256 + b.toNat) * 256 := by simp [gnum]
 rw [g]
 refine List.cons_eq_cons.2 ⟨congrArg (fun n => sgs.getD n 0) (by omega),List.cons_eq_cons.2 ⟨congrArg (fun n => sgs.getD n 0) (by omega),List.cons_eq_cons.2 ⟨congrArg (fun n => sgs.getD n 0) (by omega),rfl⟩⟩⟩
theorem enc3_single (a : UInt8) : enc3 [a] = ((gs1 a).map fun s => sgs.getD s 0) ++ [61,61] := by
 have ha := a.toNat_lt
 rw [enc3_cons _ (by simp),gsign_get _ 0 (by simp),gsign_get _ 1 (by simp),gsign_pad _ 2 (by simp),gsign_pad _ 3 (by simp)]
 have g : gnum [a] 3 = a.toNat * 65536 := by simp [gnum]; omega
 rw [g]
 refine List.cons_eq_cons.2 ⟨congrArg (fun n => sgs.getD n 0) (by omega),List.cons_eq_cons.2 ⟨congrArg (fun n => sgs.getD n 0) (by omega),rfl⟩⟩
theorem refE_three (a b c : UInt8) : sgnsTo (bits8 [a,b,c]) 4 = enc3 [a,b,c] := by
 rw [enc3_three,← sixes _ (gs3_lt a b c),gs3_bits]
 rfl
theorem refE_two (a b : UInt8) : refE [a,b] = enc3 [a,b] := by
 have hl : (bits8 [a,b]).length = 16 := by rw [bits8_length]; rfl
 have e : padTo 6 0 (bits8 [a,b]) = (gs2 a b).flatMap (nbits 6) := by
  rw [gs2_bits,padTo,hl]
  rfl
 have e3 : (gs2 a b).length = 3 := rfl
 rw [refE,e,flat6,Nat.mul_div_cancel_left _ (by omega),sixes _ (gs2_lt a b),enc3_two,padTo,List.length_map,e3]
 rfl
theorem refE_one (a : UInt8) : refE [a] = enc3 [a] := by
 have hl : (bits8 [a]).length = 8 := by rw [bits8_length]; rfl
 have e : padTo 6 0 (bits8 [a]) = (gs1 a).flatMap (nbits 6) := by
  rw [gs1_bits,padTo,hl]
  rfl
 have e3 : (gs1 a).length = 2 := rfl
 rw [refE,e,flat6,Nat.mul_div_cancel_left _ (by omega),sixes _ (gs1_lt a),enc3_single,padTo,List.length_map,e3]
 rfl
theorem refE_cons (a b c : UInt8) (r : List UInt8) : refE (a :: b :: c :: r) = enc3 [a,b,c] ++ refE r := by
 have e : bits8 (a :: b :: c :: r) = bits8 [a,b,c] ++ bits8 r := by simp [bits8]
 have hl : (bits8 [a,b,c]).length = 6 * 4 := by rw [bits8_length]; rfl
 unfold refE
 rw [e,padTo_append 6 0 _ _ (by rw [hl]),List.length_append,hl,Nat.add_comm,Nat.add_mul_div_left _ _ (by omega),Nat.add_comm,sgnsTo_append _ _ 4 _ hl,refE_three,padTo_append 4 61 _ _ (by rw [enc3_len _ (by simp)])]
theorem refE_enc (xs : List UInt8) : refE xs = enc xs := by
 generalize hn : xs.length = n
 induction n using Nat.strongRecOn generalizing xs with
 | _ n ih =>
  rcases xs with _ | ⟨a,_ | ⟨b,_ | ⟨c,r⟩⟩⟩
  ·rfl
  ·rw [refE_one,enc_one _ (by simp) (by simp)]
  ·rw [refE_two,enc_one _ (by simp) (by simp)]
  ·simp only [List.length_cons] at hn
   rw [refE_cons,ih r.length (by omega) r rfl,enc_cons (a :: b :: c :: r) (by simp)]
   rfl
end Ar
end
section
namespace Ar
def isb (n : Nat) : Bool := n == 32 || n == 9 || n == 13 || n == 10
def nob (l : List UInt8) : List UInt8 := l.filter fun c => !isb c.toNat
theorem nob_append (l m : List UInt8) : nob (l ++ m) = nob l ++ nob m := by simp [nob]
theorem nob_all {l : List UInt8} (h : ∀ c ∈ l,isb c.toNat = false) : nob l = l := by
 unfold nob
 rw [List.filter_eq_self]
 intro c hc
 rw [h c hc]
 rfl
theorem nob_one {c : UInt8} (h : isb c.toNat = true) : nob [c] = [] := by simp [nob,h]
theorem bs_get (l : List UInt8) (k : Nat) : (bs l).get! k = l.getD k 0 := by
 unfold bs ByteArray.get!
 simp [List.getD,Array.getElem!_eq_getD]
 rfl
theorem dec_step (l : List UInt8) (h : 0 < l.length) (R K : Nat) (hd : Utf8.decode (bs l) 0 = (R,K)) :
  1 ≤ K ∧ K ≤ l.length ∧ R < 2147483648 ∧ (isb R = true → nob (l.take K) = []) ∧ (isb R = false → nob (l.take K) = l.take K) := by
 have hb : ∀ k,isb k = true → k < 128 := by intro k hk; simp [isb] at hk; omega
 have hnb : ∀ k,128 ≤ k → isb k = false := by
  intro k hk
  cases e : isb k
  ·rfl
  ·have := hb k e; omega
 have get : ∀ k,k < l.length → l.getD k 0 = l[k]?.getD 0 := fun k _ => by simp [List.getD]
 have pre : ∀ K,K ≤ l.length → (∀ k,k < K → 128 ≤ (l.getD k 0).toNat) → nob (l.take K) = l.take K := by
  intro K hK hall
  apply nob_all
  intro c hc
  obtain ⟨k,hk,rfl⟩ := List.getElem_of_mem hc
  simp only [List.length_take] at hk
  have := hall k (by omega)
  rw [List.getElem_take]
  have e : l.getD k 0 = l[k]'(by omega) := by simp [List.getD,List.getElem?_eq_getElem (show k < l.length by omega)]
  rw [e] at this
  exact hnb _ this
 have one : l.take 1 = [l.getD 0 0] := by
  rcases l with _ | ⟨a,r⟩
  ·simp at h
  ·simp
 unfold Utf8.decode at hd
 simp only [Nat.zero_add,bs_get,bs_size] at hd
 generalize h0 : (l.getD 0 0).toNat = b0 at *
 have hb0 : b0 < 256 := by rw [← h0]; exact UInt8.toNat_lt _
 by_cases c1 : b0 < 128
 ·rw [if_pos c1] at hd
  cases hd
  refine ⟨by omega,h,by omega,fun hi => ?_,fun hi => ?_⟩
  ·rw [one]; exact nob_one (by rw [h0]; exact hi)
  ·rw [one]; exact nob_all (by intro c hc; simp at hc; subst hc; simpa [List.getD] using (by rw [h0]; exact hi : isb (l.getD 0 0).toNat = false))
 ·rw [if_neg c1] at hd
  have err : (R,K) = (Utf8.runeError,1) → 1 ≤ K ∧ K ≤ l.length ∧ R < 2147483648 ∧ (isb R = true → nob (l.take K) = []) ∧ (isb R = false → nob (l.take K) = l.take K) := by
   intro e
   cases e
   refine ⟨by omega,h,by decide,fun hi => absurd hi (by decide),fun _ => ?_⟩
   exact pre 1 h (fun k hk => by obtain rfl : k = 0 := (by omega); rw [h0]; omega)
  have good : ∀ c q,(R,K) = (c,q) → 1 ≤ q → q ≤ l.length → 128 ≤ c → c < 2147483648 → (∀ k,k < q → 128 ≤ (l.getD k 0).toNat) → 1 ≤ K ∧ K ≤ l.length ∧ R < 2147483648 ∧ (isb R = true → nob (l.take K) = []) ∧ (isb R = false → nob (l.take K) = l.take K) := by
   intro c q e q1 q2 hc hc2 hall
   cases e
   exact ⟨q1,q2,hc2,fun hi => (by rw [hnb _ hc] at hi; cases hi),fun _ => pre _ q2 hall⟩
  split at hd
  ·rename_i g
   simp only [Bool.and_eq_true,beq_iff_eq,decide_eq_true_eq] at g
   split at hd
   ·rename_i g2
    refine good _ _ hd.symm (by omega) (by omega) g2 (by omega) (fun k hk => ?_)
    rcases (by omega : k = 0 ∨ k = 1) with rfl | rfl <;> omega
   ·exact err hd.symm
  ·split at hd
   ·rename_i g
    simp only [Bool.and_eq_true,beq_iff_eq,decide_eq_true_eq] at g
    split at hd
    ·rename_i g2
     simp only [Bool.and_eq_true,decide_eq_true_eq] at g2
     refine good _ _ hd.symm (by omega) (by omega) (by omega) (by omega) (fun k hk => ?_)
     rcases (by omega : k = 0 ∨ k = 1 ∨ k = 2) with rfl | rfl | rfl <;> omega
    ·exact err hd.symm
   ·split at hd
    ·rename_i g
     simp only [Bool.and_eq_true,beq_iff_eq,decide_eq_true_eq] at g
     split at hd
     ·rename_i g2
      simp only [Bool.and_eq_true,decide_eq_true_eq] at g2
      refine good _ _ hd.symm (by omega) (by omega) (by omega) (by omega) (fun k hk => ?_)
      rcases (by omega : k = 0 ∨ k = 1 ∨ k = 2 ∨ k = 3) with rfl | rfl | rfl | rfl <;> omega
     ·exact err hd.symm
    ·exact err hd.symm
end Ar
end
section
namespace Ar
open Go.RowKit
theorem rune_any (b o c : Nat) (l : List UInt8) (n : Nat) (w : World) (hT : Lib.Utf8Tabs 2 3 w) (hn : l.length = n) (h0 : 0 < n) (hr : Rb w (some ⟨b,o,none⟩) l) :
  Calls Tryz.prog 163 #[.slice (some ⟨b,o,none⟩) n c] w fun e w' => (∃ R K : Nat,e = .returned (.tuple #[.int .i32 R,.int .i64 K]) ∧
   1 ≤ K ∧ K ≤ n ∧ R < 2147483648 ∧ (isb R = true → nob (l.take K) = []) ∧ (isb R = false → nob (l.take K) = l.take K)) ∧ Below w.heap.size w w' := by
 subst hn
 have h := Any7.utf8_DecodeRune Tryz.lays7n32 (bs l) b o c w hT (fun j hj => by
  rw [bs_size] at hj
  obtain ⟨b',o',x,e,hx,hc⟩ := hr.one hj
  cases e
  rw [hc,bs_get]
  simp [List.getD,hx.out])
 rw [bs_size] at h
 refine h.mono ?_
 rintro e w' ⟨rfl,hb⟩
 have hd : Lib.decodeGo (bs l) = Utf8.decode (bs l) 0 := by unfold Lib.decodeGo; rw [if_neg (by rw [bs_size]; omega)]
 rw [hd]
 generalize hq : Utf8.decode (bs l) 0 = q
 obtain ⟨R,K⟩ := q
 obtain ⟨s1,s2,s3,s4,s5⟩ := dec_step l h0 R K hq
 exact ⟨⟨R,K,rfl,s1,s2,s3,s4,s5⟩,hb⟩
theorem blank_any (R : Nat) (w : World) (hR : R < 2147483648) :
  Calls Tryz.prog 93 #[.int .i32 R] w fun e w' => e = .returned (.bool (isb R)) ∧ w = w' := by
 have h1 : ((R : Int) == 32) = (R == 32) := by rw [Bool.eq_iff_iff]; simp; omega
 have h2 : ((R : Int) == 9) = (R == 9) := by rw [Bool.eq_iff_iff]; simp; omega
 have h3 : ((R : Int) == 13) = (R == 13) := by rw [Bool.eq_iff_iff]; simp; omega
 have h4 : ((R : Int) == 10) = (R == 10) := by rw [Bool.eq_iff_iff]; simp; omega
 have e : isb R = (((R : Int) == 32) || ((R : Int) == 9) || ((R : Int) == 13) || ((R : Int) == 10)) := by rw [h1,h2,h3,h4]; rfl
 rw [e]
 clear e h1 h2 h3 h4
 rcases Bool.eq_false_or_eq_true ((R : Int) == 32) with h | h
 ·go_enter Tryz.func93,Tryz.ntmps93
  go_wp2
  all_goals (go_ret; exact ⟨ret_bool (by rw [h]; rfl),rfl⟩)
 rcases Bool.eq_false_or_eq_true ((R : Int) == 9) with h' | h'
 ·go_enter Tryz.func93,Tryz.ntmps93
  go_wp2
  all_goals (go_ret; exact ⟨ret_bool (by rw [h,h']; rfl),rfl⟩)
 rcases Bool.eq_false_or_eq_true ((R : Int) == 13) with h2 | h2
 ·go_enter Tryz.func93,Tryz.ntmps93
  go_wp2
  all_goals (go_ret; exact ⟨ret_bool (by rw [h,h',h2]; rfl),rfl⟩)
 ·go_enter Tryz.func93,Tryz.ntmps93
  go_wp2
  all_goals (go_ret; exact ⟨ret_bool (by rw [h,h',h2]; rfl),rfl⟩)
end Ar
end
section
namespace Ar
open Go.RowKit
def iv (n : Nat) : Value := .int .i64 (n : Int)
theorem TI64 : ElT Tryz.prog 116 3 1 8 := ElT.mk' (z := .int .i64 0) Tryz.underlying116 (by omega) (by omega) rfl (by kernel_rfl)
theorem iv_snoc {w : World} {b e : Nat} {v x : Value} {n : Nat} {L L' : List Nat} {g : Nat} (h : w.ownsRow b e 1 v (n + 1) (L.map iv ++ [x])) (hx : x = iv g) (hL : L' = L ++ [g]) : w.ownsRow b e 1 v (n + 1) (L'.map iv) := by
 rw [hL,List.map_append]
 rw [hx] at h
 exact h
def lenOf : Value → Int
 | .slice _ n _ => n
 | _ => 0
theorem and1 (y : UInt8) (k : Nat) : bits .and .u8 ((y.toNat : Int) / 2 ^ k) 1 = ((y.toNat / 2 ^ k % 2 : Nat) : Int) := by
 have h := y.toNat_lt
 have hl : y.toNat / 2 ^ k ≤ y.toNat := Nat.div_le_self _ _
 rw [show ((y.toNat : Int) / 2 ^ k) = ((y.toNat / 2 ^ k : Nat) : Int) by simp,show (1 : Int) = ((1 : Nat) : Int) from rfl,u8_and_nat _ _ (by omega) (by omega)]
 exact congrArg _ (Nat.and_two_pow_sub_one_eq_mod _ 1)
theorem refE_any (A : Option Addr) (xs : List UInt8) (n c : Nat) (w : World) (hn : xs.length = n) (hA : Rb w A xs) (hnc : n ≤ c) (hb : n ≤ 1000000) :
  Calls Tryz.prog 35 #[.slice A n c] w fun e w' => e = .returned (.string (bs (enc xs))) ∧ Below w.heap.size w w' := by
 have HN := Lib.hid hn
 clear hn
 have hpu : ∀ W,Sem.run Tryz.prog (pure #[] : Sem (Array Value)) W = .ok #[] W := fun _ => rfl
 have hst : ∀ a W,Sem.run Tryz.prog (storeCells a []) W = .ok () W := fun _ _ => rfl
 have hown0 := World.ownsRow_made (base := w.heap.size) (e := 3) (size := 1) w #[] 0 (Nat.le_refl _) (by unfold maxLen; omega) rfl
 go_enter Tryz.func35,Tryz.ntmps35
 go_wp2_with fail
 go_loopw [3,4] (fun v i wr => ∃ q : Nat,i = .int .i64 q ∧ q ≤ n ∧ wr.ownsRow w.heap.size 3 1 v (8 * q) ((bits8 (xs.take q)).map iv) ∧ Below w.heap.size w wr) (fun _ i _ => n - (intOf i).toNat)
 case atStart => exact ⟨0,rfl,by omega,hown0,(Below.refl _ _).alloc (Nat.le_refl _) _⟩
 case round =>
  obtain ⟨q,rfl,hq,hown,hB⟩ := hrel
  obtain ⟨wo,rfl⟩ : ∃ wo : World,wo = wr := ⟨_,rfl⟩
  by_cases hlt : q < n
  ·obtain ⟨b,o,y,rfl,hy,hc⟩ := hA.one (k := q) (by rw [HN.out]; exact hlt)
   have hc0 := cell_lt hc
   have HC := Lib.hid hc
   clear hc
   clear hown0
   go_wp2_with fail
   go_loopw [3,5] (fun v i wr => ∃ r : Nat,i = .int .i64 ((r : Int) - 1) ∧ r ≤ 8 ∧ wr.ownsRow w.heap.size 3 1 v (8 * q + (8 - r)) ((bits8 (xs.take q) ++ (nbits 8 y.toNat).take (8 - r)).map iv) ∧ Below w.heap.size w wr) (fun _ i _ => (intOf i + 1).toNat)
   case atStart => exact ⟨8,rfl,by omega,by simpa using hown,hB⟩
   case round =>
    obtain ⟨r,rfl,hr,hown,hB⟩ := hrel
    rcases r with _ | k
    ·go_wp2_with fail
     go_roundw
     case rel => exact ⟨q + 1,by go_num,by omega,by rw [take_succ_of hy.out,bits8_snoc]; exact hown,hB⟩
     case measure => simp [intOf]; omega
    ·have e : (((k + 1 : Nat) : Int) - 1) = (k : Int) := by omega
     rw [e]
     have hc2 := (hB.cell (p := ⟨b,o + q,none⟩) hc0).trans HC.out
     have ha := and1 y k
     have hlt8 : 8 - (k + 1) < 8 := by omega
     have hg := nbits_get (N := y.toNat) hlt8
     rw [show 8 - 1 - (8 - (k + 1)) = k by omega] at hg
     obtain ⟨t,ht⟩ : ∃ t,y.toNat / 2 ^ k % 2 = t := ⟨_,rfl⟩
     rw [ht] at ha hg
     have htl : t < 2 := by omega
     have HG := Lib.hid hg
     have hs1 := hB.size
     clear hg ht
     go_wp2_with (at_builtin; refine wpList_app rfl (.tmp 21) (.tmp 30) _ _ rfl TI64 (hown.alloc (.cells #[iv t] 3)) rfl (Src_rv (news := [iv t]) Tryz.underlying116 rfl (Rv_new wr _ _ _ rfl) (by simp [Value.oneCell',iv]) (by omega)) rfl (by omega) (by simp; omega) ?_; intro v2 w2 hown2 hgr2 hat2; have hB2 := below_app (hB.alloc hs1 (.cells #[iv t] 3)) (hown.alloc _) hgr2 (by simp; omega) (Nat.le_refl _))
     go_roundw
     case rel =>
      refine ⟨k,by go_num,by omega,?_,hB2⟩
      have e2 : 8 - k = 8 - (k + 1) + 1 := by omega
      rw [e2,take_succ_of HG.out,← List.append_assoc,← Nat.add_assoc]
      exact iv_snoc hown2 rfl rfl
     case measure => simp [intOf]
  ·obtain rfl : q = n := by omega
   rw [take_all xs (by rw [HN.out]; omega)] at hown
   have hl0 := bits8_length xs
   rw [HN.out] at hl0
   clear hlt hown0
   go_wp2_with fail
   go_loopw [3] (fun v wr => ∃ r N : Nat,N = 8 * q + r ∧ r ≤ (6 - 8 * q % 6) % 6 ∧ wr.ownsRow w.heap.size 3 1 v N ((bits8 xs ++ List.replicate r 0).map iv) ∧ Below w.heap.size w wr) (fun v _ => ((6 - (lenOf v).toNat % 6) % 6))
   case atStart => exact ⟨0,8 * q,rfl,by omega,by simpa using hown,hB⟩
   case round =>
    obtain ⟨r,N,hN,hr,hown,hB⟩ := hrel
    have hown5 := hown
    obtain ⟨A3,c3,rfl,hc3,hc3m,hR3,hl3⟩ := own_form hown
    by_cases h6 : N % 6 = 0
    ·have hb6 : (((N : Int) % 6) != 0) = false := by
      have : (N : Int) % 6 = 0 := by omega
      simp [this]
     have hre : r = (6 - 8 * q % 6) % 6 := by omega
     have hW : bits8 xs ++ List.replicate r 0 = padTo 6 0 (bits8 xs) := by rw [padTo,hl0,hre]
     rw [hW] at hR3 hown5
     have hWb : ∀ b ∈ padTo 6 0 (bits8 xs),b < 2 := by
      rw [← hW]
      intro b hb
      rcases List.mem_append.1 hb with h | h
      ·exact bits8_lt xs b h
      ·rw [List.mem_replicate] at h
       omega
     have hWl : (padTo 6 0 (bits8 xs)).length = N := by rw [← hW,List.length_append,hl0,List.length_replicate,hN]
     have hRE : padTo 4 61 (sgnsTo (padTo 6 0 (bits8 xs)) (N / 6)) = enc xs := by rw [← refE_enc,refE,hWl]
     obtain ⟨G,hG⟩ : ∃ G,N = 6 * G := ⟨N / 6,by omega⟩
     rw [show N / 6 = G by omega] at hRE
     have hN2 : N ≤ 9000000 := by omega
     have HWB := Lib.hid hWb
     have HRE := Lib.hid hRE
     have HWL := Lib.hid hWl
     have HG := Lib.hid hG
     clear hRE hWb hWl hW hre hl3 hl0 hown hN hG hr h6
     generalize padTo 6 0 (bits8 xs) = W at *
     have hown8 := World.ownsRow_made (base := wr.heap.size) (e := 5) (size := 1) wr #[] 0 (Nat.le_refl _) (by unfold maxLen; omega) rfl
     have hB8 : Below wr.heap.size wr (wr.alloc (.cells #[] 5)) := (Below.refl _ _).alloc (Nat.le_refl _) _
     obtain ⟨w9,rfl⟩ : ∃ w9 : World,w9 = wr := ⟨_,rfl⟩
     go_wp2_with fail
     clear hb6
     go_loopw [6,7] (fun v i wr => ∃ k p : Nat,i = .int .i64 p ∧ p ≤ 6 * k ∧ 6 * k ≤ p ∧ p ≤ N ∧ wr.ownsRow w9.heap.size 5 1 v k ((sgnsTo W k).map bv) ∧ Below w9.heap.size w9 wr) (fun _ i _ => N - (intOf i).toNat)
     case atStart => exact ⟨0,0,rfl,by omega,by omega,by omega,hown8,hB8⟩
     case round =>
      obtain ⟨k,p,rfl,hp1,hp2,hpN,hown,hB10⟩ := hrel
      obtain ⟨w10,rfl⟩ : ∃ w10 : World,w10 = wr := ⟨_,rfl⟩
      have hown9 := hown
      obtain ⟨A6,c6,rfl,hc6,hc6m,hR6,hl6⟩ := own_form hown
      by_cases hlt : p < N
      ·have hp6 : p + 6 ≤ N := by have := HG.out; omega
       have hdl : ((W.drop p).take 6).length = 6 := by simp [HWL.out]; omega
       have HDL := Lib.hid hdl
       clear hdl
       go_wp2_with fail
       go_loopw [8,9] (fun v i wr => ∃ m : Nat,i = .int .i64 m ∧ m ≤ 6 ∧ v = .int .i64 (num ((W.drop p).take m)) ∧ Dn w10 wr) (fun _ i _ => 6 - (intOf i).toNat)
       case atStart => exact ⟨0,rfl,by omega,rfl,Dn.refl _⟩
       case round =>
        obtain ⟨m,rfl,hm,rfl,hdn⟩ := hrel
        have hnum : num ((W.drop p).take m) < 64 := by
         have h1 := num_lt (l := (W.drop p).take m) (fun b hb => HWB.out b (List.mem_of_mem_drop (List.mem_of_mem_take hb)))
         have h2 : ((W.drop p).take m).length ≤ 6 := by simp; omega
         have h3 : 2 ^ ((W.drop p).take m).length ≤ 2 ^ 6 := Nat.pow_le_pow_right (by omega) h2
         omega
        by_cases hm6 : m < 6
        ·obtain ⟨b3,o3,x,rfl,hx,hcx⟩ := ((hR3.below hB10).below (hdn.below _)).one (k := p + m) (by simp [HWL.out]; omega)
         obtain ⟨g,hg,rfl⟩ : ∃ g,W[p + m]? = some g ∧ x = iv g := by
          have := hx.out
          simp only [List.getElem?_map,Option.map_eq_some_iff] at this
          obtain ⟨g,h1,h2⟩ := this
          exact ⟨g,h1,h2.symm⟩
         have hg2 := HWB.out g (List.mem_of_getElem? hg)
         have hstep : num ((W.drop p).take (m + 1)) = 2 * num ((W.drop p).take m) + g := by
          rw [take_succ_of (x := g) (by rw [List.getElem?_drop]; exact hg),num_snoc]
         have HST := Lib.hid hstep
         unfold iv at hcx
         clear hstep hg hx
         generalize num ((W.drop p).take m) = M at *
         go_wp2_with fail
         go_roundw
         case rel => exact ⟨m + 1,by go_num,by omega,by rw [HST.out]; simp,by first | exact hdn | exact hdn.drewN _ | exact hdn.drew⟩
         case measure => simp [intOf]; omega
        ·obtain rfl : m = 6 := by omega
         obtain ⟨T,hTe⟩ : ∃ T,num ((W.drop p).take 6) = T := ⟨_,rfl⟩
         have hsn := sgnsTo_succ W k
         rw [show 6 * k = p by omega,hTe] at hsn
         rw [hTe] at hnum ⊢
         have hTl : T < (⟨#[65,66,67,68,69,70,71,72,73,74,75,76,77,78,79,80,81,82,83,84,85,86,87,88,89,90,97,98,99,100,101,102,103,104,105,106,107,108,109,110,111,112,113,114,115,116,117,118,119,120,121,122,48,49,50,51,52,53,54,55,56,57,43,47]⟩ : ByteArray).size := hnum
         obtain ⟨cb,hcb⟩ : ∃ cb,(⟨#[65,66,67,68,69,70,71,72,73,74,75,76,77,78,79,80,81,82,83,84,85,86,87,88,89,90,97,98,99,100,101,102,103,104,105,106,107,108,109,110,111,112,113,114,115,116,117,118,119,120,121,122,48,49,50,51,52,53,54,55,56,57,43,47]⟩ : ByteArray)[T] = cb := ⟨_,rfl⟩
         have hcs : sgs.getD T 0 = cb := by rw [← hcb]; exact (sgs_get T hnum).symm
         rw [hcs] at hsn
         have HSN := Lib.hid hsn
         clear hsn hTe hcs
         have hown11 : wr.ownsRow w9.heap.size 5 1 (.slice A6 k c6) k ((sgnsTo W k).map bv) := own_below hown9 (hdn.below _)
         have hB11 : Below w9.heap.size w9 wr := hB10.trans ((hdn.below _).mono hB10.size)
         have hs11 := hB11.size
         go_wp2_with (at_builtin; refine wpList_app rfl (.tmp 59) (.tmp 62) _ _ rfl TU8 (hown11.alloc (.cells #[bv cb] 5)) rfl (Src_rv (news := [bv cb]) Tryz.underlying22 rfl (Rv_new wr _ _ _ rfl) (by simp [Value.oneCell',bv]) (by omega)) rfl (by omega) (by simp; omega) ?_; intro v2 w2 hown2 hgr2 hat2; have hB2 := below_app (hB11.alloc hs11 (.cells #[bv cb] 5)) (hown11.alloc _) hgr2 (by simp; omega) (Nat.le_refl _))
         go_roundw
         case rel =>
          refine ⟨k + 1,p + 6,by go_num,by omega,by omega,by omega,?_,hB2⟩
          rw [HSN.out,List.map_append]
          exact hown2
         case measure => simp [intOf]; omega
      ·obtain rfl : p = N := by omega
       obtain rfl : G = k := by have := HG.out; omega
       have hsl : (sgnsTo W G).length = G := by simp [sgnsTo]
       have HSL := Lib.hid hsl
       clear hsl hl6 hR6
       go_wp2_with fail
       go_loopw [6] (fun v wr => ∃ r M : Nat,M ≤ G + r ∧ G + r ≤ M ∧ r ≤ (4 - G % 4) % 4 ∧ wr.ownsRow w9.heap.size 5 1 v M ((sgnsTo W G ++ List.replicate r 61).map bv) ∧ Below w9.heap.size w9 wr) (fun v _ => ((4 - (lenOf v).toNat % 4) % 4))
       case atStart => exact ⟨0,G,by omega,by omega,by omega,by simpa using hown9,hB10⟩
       case round =>
        obtain ⟨r,M,hM1,hM2,hr,hown,hB12⟩ := hrel
        have hown13 := hown
        obtain ⟨A7,c7,rfl,hc7,hc7m,hR7,hl7⟩ := own_form hown
        have hM3 : M ≤ 9000000 := by have := HG.out; omega
        clear hown9
        by_cases h4 : M % 4 = 0
        ·have hb4 : (((M : Int) % 4) != 0) = false := by
          have : (M : Int) % 4 = 0 := by omega
          simp [this]
         have hend : sgnsTo W G ++ List.replicate r 61 = enc xs := by
          rw [← HRE.out,padTo,HSL.out,show r = (4 - G % 4) % 4 by omega]
         rw [hend] at hR7 hl7
         have hl8 : (enc xs).length = M := by simpa using hl7
         have hcv := conv_str (P := Tryz.prog) (src := 22) (dst := 9) (e := 5) Tryz.underlying22 Tryz.underlying5 Tryz.underlying9 (n := M) (c := c7) (show Rb wr A7 (enc xs) from hR7) hl8
         have HL8 := Lib.hid hl8
         clear hl8 hl7
         go_wp2_with fail
         go_ret
         exact ⟨rfl,hB.trans (hB12.mono hB.size)⟩
        ·have hb4 : (((M : Int) % 4) != 0) = true := by
          have : ¬ (M : Int) % 4 = 0 := by omega
          simp [this]
         have hs12 := hB12.size
         go_wp2_with (at_builtin; refine wpList_app rfl (.tmp 68) (.tmp 69) _ _ rfl TU8 (hown13.alloc (.cells #[bv 61] 5)) rfl (Src_rv (news := [bv 61]) Tryz.underlying22 rfl (Rv_new wr _ _ _ rfl) (by simp [Value.oneCell',bv]) (by omega)) rfl (by omega) (by simp; omega) ?_; intro v2 w2 hown2 hgr2 hat2; have hB2 := below_app (hB12.alloc hs12 (.cells #[bv 61] 5)) (hown13.alloc _) hgr2 (by simp; omega) (Nat.le_refl _); have hown14 := hown2; obtain ⟨A8,c8,rfl,hc8,hc8m,hR8,hl8⟩ := own_form hown2)
         go_roundw
         case rel =>
          refine ⟨r + 1,M + 1,by omega,by omega,by omega,?_,hB2⟩
          rw [List.replicate_succ',← List.append_assoc,List.map_append]
          exact hown14
         case measure => simp [lenOf]; omega
    ·have hb6 : (((N : Int) % 6) != 0) = true := by
      have : ¬ (N : Int) % 6 = 0 := by omega
      simp [this]
     have hs1 := hB.size
     have hN2 : N ≤ 9000000 := by omega
     have HN6 := Lib.hid hN
     clear hN
     go_wp2_with (at_builtin; refine wpList_app rfl (.tmp 36) (.tmp 37) _ _ rfl TI64 (hown.alloc (.cells #[iv 0] 3)) rfl (Src_rv (news := [iv 0]) Tryz.underlying116 rfl (Rv_new wr _ _ _ rfl) (by simp [Value.oneCell',iv]) (by omega)) rfl (by omega) (by simp; omega) ?_; intro v2 w2 hown2 hgr2 hat2; have hB2 := below_app (hB.alloc hs1 (.cells #[iv 0] 3)) (hown.alloc _) hgr2 (by simp; omega) (Nat.le_refl _); have hown7 := hown2; obtain ⟨A4,c4,rfl,hc4,hc4m,hR4,hl4⟩ := own_form hown2)
     have hN := HN6.out
     go_roundw
     case rel =>
      refine ⟨r + 1,N + 1,by omega,by omega,?_,hB2⟩
      exact iv_snoc hown7 rfl (by rw [List.replicate_succ',List.append_assoc])
     case measure => simp [lenOf]; omega
end Ar
end
end Go.Proofs.YtkllecicddfjpaaGreatDoor
