/- Bytes as signs bit by bit, in plain words, and that these are the signs. Nothing of the program. -/
import Derived.Test.YtdnlelmajepleaaDoorK
import Derived.Test.YtdnlelmajepleaaDoorP6
namespace Go.Proofs.YtdnlelmajepleaaDoor

/-- the bits of a number, the highest first -/
def nbits (k N : Nat) : List Nat := (List.range k).map fun j => N / 2 ^ (k - 1 - j) % 2
theorem nbits_length (k N : Nat) : (nbits k N).length = k := by simp [nbits]
theorem nbits_get {k N j : Nat} (h : j < k) : (nbits k N)[j]? = some (N / 2 ^ (k - 1 - j) % 2) := by simp [nbits, h]
theorem nbits_lt {k N : Nat} : ∀ b ∈ nbits k N, b < 2 := by
  intro b hb
  simp only [nbits, List.mem_map, List.mem_range] at hb
  obtain ⟨j, _, rfl⟩ := hb
  omega
/-- the number of bits -/
def num (l : List Nat) : Nat := l.foldl (fun n b => 2 * n + b) 0
theorem num_snoc (l : List Nat) (b : Nat) : num (l ++ [b]) = 2 * num l + b := by simp [num]
theorem num_acc (l : List Nat) (h : ∀ b ∈ l, b < 2) (n : Nat) : l.foldl (fun n b => 2 * n + b) n < (n + 1) * 2 ^ l.length := by
  induction l generalizing n with
  | nil => simp
  | cons b l ih =>
    have h1 := ih (fun x hx => h x (by simp [hx])) (2 * n + b)
    have h2 := h b (by simp)
    rw [List.foldl_cons, List.length_cons, Nat.pow_succ]
    have h3 : (2 * n + b + 1) * 2 ^ l.length ≤ (2 * (n + 1)) * 2 ^ l.length := Nat.mul_le_mul_right _ (by omega)
    have e : (n + 1) * (2 ^ l.length * 2) = (2 * (n + 1)) * 2 ^ l.length := by rw [Nat.mul_comm (2 ^ l.length) 2, ← Nat.mul_assoc, Nat.mul_comm (n + 1) 2]
    omega
theorem num_lt {l : List Nat} (h : ∀ b ∈ l, b < 2) : num l < 2 ^ l.length := by simpa [num] using num_acc l h 0
/-- all bits of bytes -/
def bits8 (xs : List UInt8) : List Nat := xs.flatMap fun y => nbits 8 y.toNat
theorem bits8_snoc (xs : List UInt8) (y : UInt8) : bits8 (xs ++ [y]) = bits8 xs ++ nbits 8 y.toNat := by simp [bits8]
theorem bits8_length (xs : List UInt8) : (bits8 xs).length = 8 * xs.length := by
  induction xs with
  | nil => rfl
  | cons y r ih =>
    have e : bits8 (y :: r) = nbits 8 y.toNat ++ bits8 r := rfl
    rw [e, List.length_append, ih, nbits_length, List.length_cons]
    omega
theorem bits8_lt (xs : List UInt8) : ∀ b ∈ bits8 xs, b < 2 := by
  intro b hb
  simp only [bits8, List.mem_flatMap] at hb
  obtain ⟨y, _, h⟩ := hb
  exact nbits_lt b h
/-- padded up to a multiple -/
def padTo {α : Type} (k : Nat) (z : α) (l : List α) : List α := l ++ List.replicate ((k - l.length % k) % k) z
theorem padTo_append {α : Type} (k : Nat) (z : α) (p l : List α) (h : p.length % k = 0) : padTo k z (p ++ l) = p ++ padTo k z l := by
  unfold padTo
  rw [List.length_append, List.append_assoc, Nat.add_mod, h, Nat.zero_add, Nat.mod_mod]
theorem padTo_mod {α : Type} (k : Nat) (z : α) (l : List α) (hk : 0 < k) : (padTo k z l).length % k = 0 := by
  unfold padTo
  rw [List.length_append, List.length_replicate]
  have h1 := Nat.mod_lt l.length hk
  rcases Nat.eq_zero_or_pos (l.length % k) with h0 | h0
  · rw [h0, Nat.sub_zero, Nat.mod_self, Nat.add_zero, h0]
  · rw [Nat.mod_eq_of_lt (show k - l.length % k < k by omega)]
    have h2 := Nat.div_add_mod l.length k
    have e : l.length + (k - l.length % k) = k * (l.length / k + 1) := by rw [Nat.mul_add]; omega
    rw [e]
    exact Nat.mul_mod_right _ _
/-- the first k signs of bits -/
def sgnsTo (W : List Nat) (k : Nat) : List UInt8 := (List.range k).map fun j => sgs.getD (num ((W.drop (6 * j)).take 6)) 0
theorem sgnsTo_succ (W : List Nat) (k : Nat) : sgnsTo W (k + 1) = sgnsTo W k ++ [sgs.getD (num ((W.drop (6 * k)).take 6)) 0] := by simp [sgnsTo, List.range_succ]
theorem sgnsTo_append (p W : List Nat) (q k : Nat) (h : p.length = 6 * q) : sgnsTo (p ++ W) (q + k) = sgnsTo p q ++ sgnsTo W k := by
  unfold sgnsTo
  rw [List.range_add, List.map_append, List.map_map]
  congr 1
  · apply List.map_congr_left
    intro j hj
    simp only [List.mem_range] at hj
    rw [List.drop_append_of_le_length (by omega), List.take_append_of_le_length (by simp; omega)]
  · apply List.map_congr_left
    intro j _
    simp only [Function.comp]
    rw [show 6 * (q + j) = p.length + 6 * j by omega, ← List.drop_drop, List.drop_left]
/-- bytes as signs, bit by bit -/
def refE (xs : List UInt8) : List UInt8 := padTo 4 61 (sgnsTo (padTo 6 0 (bits8 xs)) ((padTo 6 0 (bits8 xs)).length / 6))

theorem six (a : Nat) (h : a < 64) : num [a / 32 % 2, a / 16 % 2, a / 8 % 2, a / 4 % 2, a / 2 % 2, a % 2] = a := by
  simp only [num, List.foldl]
  omega
theorem nbits8 (a : Nat) : nbits 8 a = [a / 128 % 2, a / 64 % 2, a / 32 % 2, a / 16 % 2, a / 8 % 2, a / 4 % 2, a / 2 % 2, a % 2] := by
  simp [nbits, List.range, List.range.loop]
theorem nbits6 (a : Nat) : nbits 6 a = [a / 32 % 2, a / 16 % 2, a / 8 % 2, a / 4 % 2, a / 2 % 2, a % 2] := by
  simp [nbits, List.range, List.range.loop]
theorem num8 (a : Nat) (h : a < 256) : num (nbits 8 a) = a := by
  rw [nbits8]
  simp only [num, List.foldl]
  omega
theorem gsign_get (ys : List UInt8) (i : Nat) (h : ¬ ys.length < i) : gsign ys i = sgs.getD (gnum ys 3 / 2 ^ (18 - 6 * i) % 64) 0 := by rw [gsign, if_neg h]
theorem gsign_pad (ys : List UInt8) (i : Nat) (h : ys.length < i) : gsign ys i = 61 := by rw [gsign, if_pos h]

theorem sixes (ss : List Nat) (h : ∀ s ∈ ss, s < 64) : sgnsTo (ss.flatMap (nbits 6)) ss.length = ss.map fun s => sgs.getD s 0 := by
  induction ss with
  | nil => rfl
  | cons s r ih =>
    have hs := h s (by simp)
    rw [List.flatMap_cons, List.length_cons, Nat.add_comm, sgnsTo_append _ _ 1 _ (by rw [nbits_length]), ih fun x hx => h x (by simp [hx])]
    have e : sgnsTo (nbits 6 s) 1 = [sgs.getD s 0] := by
      have e6 : (nbits 6 s).take 6 = nbits 6 s := List.take_of_length_le (by rw [nbits_length]; omega)
      have e7 : num (nbits 6 s) = s := by rw [nbits6]; exact six s hs
      simp [sgnsTo, e6, e7]
    rw [e]
    rfl
theorem flat6 (ss : List Nat) : (ss.flatMap (nbits 6)).length = 6 * ss.length := by
  induction ss with
  | nil => rfl
  | cons s r ih => rw [List.flatMap_cons, List.length_append, nbits_length, ih, List.length_cons]; omega
theorem b0 (a : Nat) : nbits 6 (a / 4) = [a / 128 % 2, a / 64 % 2, a / 32 % 2, a / 16 % 2, a / 8 % 2, a / 4 % 2] := by
  rw [nbits6]; simp only [List.cons.injEq, and_true]; (repeat' apply And.intro) <;> omega
theorem b1 (a b : Nat) (hb : b < 256) : nbits 6 (a % 4 * 16 + b / 16) = [a / 2 % 2, a % 2, b / 128 % 2, b / 64 % 2, b / 32 % 2, b / 16 % 2] := by
  rw [nbits6]; simp only [List.cons.injEq, and_true]; (repeat' apply And.intro) <;> omega
theorem b2 (b c : Nat) (hc : c < 256) : nbits 6 (b % 16 * 4 + c / 64) = [b / 8 % 2, b / 4 % 2, b / 2 % 2, b % 2, c / 128 % 2, c / 64 % 2] := by
  rw [nbits6]; simp only [List.cons.injEq, and_true]; (repeat' apply And.intro) <;> omega
theorem b3 (c : Nat) : nbits 6 (c % 64) = [c / 32 % 2, c / 16 % 2, c / 8 % 2, c / 4 % 2, c / 2 % 2, c % 2] := by
  rw [nbits6]; simp only [List.cons.injEq, and_true]; (repeat' apply And.intro) <;> omega
/-- the numbers of the signs of a group -/
def gs3 (a b c : UInt8) : List Nat := [a.toNat / 4, a.toNat % 4 * 16 + b.toNat / 16, b.toNat % 16 * 4 + c.toNat / 64, c.toNat % 64]
def gs2 (a b : UInt8) : List Nat := [a.toNat / 4, a.toNat % 4 * 16 + b.toNat / 16, b.toNat % 16 * 4 + 0 / 64]
def gs1 (a : UInt8) : List Nat := [a.toNat / 4, a.toNat % 4 * 16 + 0 / 16]
theorem gs3_lt (a b c : UInt8) : ∀ s ∈ gs3 a b c, s < 64 := by
  have ha := a.toNat_lt
  have hb := b.toNat_lt
  have hc := c.toNat_lt
  simp [gs3]; omega
theorem gs2_lt (a b : UInt8) : ∀ s ∈ gs2 a b, s < 64 := by
  have ha := a.toNat_lt
  have hb := b.toNat_lt
  simp [gs2]; omega
theorem gs1_lt (a : UInt8) : ∀ s ∈ gs1 a, s < 64 := by
  have ha := a.toNat_lt
  simp [gs1]; omega
theorem gs3_bits (a b c : UInt8) : (gs3 a b c).flatMap (nbits 6) = bits8 [a, b, c] := by
  simp only [gs3, bits8, List.flatMap_cons, List.flatMap_nil, b0, b1 _ _ b.toNat_lt, b2 _ _ c.toNat_lt, b3, nbits8, List.append_nil, List.cons_append, List.nil_append]
theorem gs2_bits (a b : UInt8) : (gs2 a b).flatMap (nbits 6) = bits8 [a, b] ++ [0, 0] := by
  simp only [gs2, bits8, List.flatMap_cons, List.flatMap_nil, b0, b1 _ _ b.toNat_lt, b2 _ 0 (by omega), nbits8, List.append_nil, List.cons_append, List.nil_append, Nat.zero_div, Nat.zero_mod]
theorem gs1_bits (a : UInt8) : (gs1 a).flatMap (nbits 6) = bits8 [a] ++ [0, 0, 0, 0] := by
  simp only [gs1, bits8, List.flatMap_cons, List.flatMap_nil, b0, b1 _ 0 (by omega), nbits8, List.append_nil, List.cons_append, List.nil_append, Nat.zero_div, Nat.zero_mod]
theorem enc3_three (a b c : UInt8) : enc3 [a, b, c] = (gs3 a b c).map fun s => sgs.getD s 0 := by
  have ha := a.toNat_lt
  have hb := b.toNat_lt
  have hc := c.toNat_lt
  rw [enc3_cons _ (by simp), gsign_get _ 0 (by simp), gsign_get _ 1 (by simp), gsign_get _ 2 (by simp), gsign_get _ 3 (by simp)]
  have g : gnum [a, b, c] 3 = (a.toNat * 256 + b.toNat) * 256 + c.toNat := by simp [gnum]
  rw [g]
  refine List.cons_eq_cons.2 ⟨congrArg (fun n => sgs.getD n 0) (by omega), List.cons_eq_cons.2 ⟨congrArg (fun n => sgs.getD n 0) (by omega), List.cons_eq_cons.2 ⟨congrArg (fun n => sgs.getD n 0) (by omega), List.cons_eq_cons.2 ⟨congrArg (fun n => sgs.getD n 0) (by omega), rfl⟩⟩⟩⟩
theorem enc3_two (a b : UInt8) : enc3 [a, b] = ((gs2 a b).map fun s => sgs.getD s 0) ++ [61] := by
  have ha := a.toNat_lt
  have hb := b.toNat_lt
  rw [enc3_cons _ (by simp), gsign_get _ 0 (by simp), gsign_get _ 1 (by simp), gsign_get _ 2 (by simp), gsign_pad _ 3 (by simp)]
  have g : gnum [a, b] 3 = (a.toNat * 256 + b.toNat) * 256 := by simp [gnum]
  rw [g]
  refine List.cons_eq_cons.2 ⟨congrArg (fun n => sgs.getD n 0) (by omega), List.cons_eq_cons.2 ⟨congrArg (fun n => sgs.getD n 0) (by omega), List.cons_eq_cons.2 ⟨congrArg (fun n => sgs.getD n 0) (by omega), rfl⟩⟩⟩
theorem enc3_single (a : UInt8) : enc3 [a] = ((gs1 a).map fun s => sgs.getD s 0) ++ [61, 61] := by
  have ha := a.toNat_lt
  rw [enc3_cons _ (by simp), gsign_get _ 0 (by simp), gsign_get _ 1 (by simp), gsign_pad _ 2 (by simp), gsign_pad _ 3 (by simp)]
  have g : gnum [a] 3 = a.toNat * 65536 := by simp [gnum]; omega
  rw [g]
  refine List.cons_eq_cons.2 ⟨congrArg (fun n => sgs.getD n 0) (by omega), List.cons_eq_cons.2 ⟨congrArg (fun n => sgs.getD n 0) (by omega), rfl⟩⟩

theorem refE_three (a b c : UInt8) : sgnsTo (bits8 [a, b, c]) 4 = enc3 [a, b, c] := by
  rw [enc3_three, ← sixes _ (gs3_lt a b c), gs3_bits]
  rfl
theorem refE_two (a b : UInt8) : refE [a, b] = enc3 [a, b] := by
  have hl : (bits8 [a, b]).length = 16 := by rw [bits8_length]; rfl
  have e : padTo 6 0 (bits8 [a, b]) = (gs2 a b).flatMap (nbits 6) := by
    rw [gs2_bits, padTo, hl]
    rfl
  have e3 : (gs2 a b).length = 3 := rfl
  rw [refE, e, flat6, Nat.mul_div_cancel_left _ (by omega), sixes _ (gs2_lt a b), enc3_two, padTo, List.length_map, e3]
  rfl
theorem refE_one (a : UInt8) : refE [a] = enc3 [a] := by
  have hl : (bits8 [a]).length = 8 := by rw [bits8_length]; rfl
  have e : padTo 6 0 (bits8 [a]) = (gs1 a).flatMap (nbits 6) := by
    rw [gs1_bits, padTo, hl]
    rfl
  have e3 : (gs1 a).length = 2 := rfl
  rw [refE, e, flat6, Nat.mul_div_cancel_left _ (by omega), sixes _ (gs1_lt a), enc3_single, padTo, List.length_map, e3]
  rfl
theorem refE_cons (a b c : UInt8) (r : List UInt8) : refE (a :: b :: c :: r) = enc3 [a, b, c] ++ refE r := by
  have e : bits8 (a :: b :: c :: r) = bits8 [a, b, c] ++ bits8 r := by simp [bits8]
  have hl : (bits8 [a, b, c]).length = 6 * 4 := by rw [bits8_length]; rfl
  unfold refE
  rw [e, padTo_append 6 0 _ _ (by rw [hl]), List.length_append, hl, Nat.add_comm, Nat.add_mul_div_left _ _ (by omega), Nat.add_comm, sgnsTo_append _ _ 4 _ hl, refE_three, padTo_append 4 61 _ _ (by rw [enc3_len _ (by simp)])]
theorem refE_enc (xs : List UInt8) : refE xs = enc xs := by
  generalize hn : xs.length = n
  induction n using Nat.strongRecOn generalizing xs with
  | _ n ih =>
    rcases xs with _ | ⟨a, _ | ⟨b, _ | ⟨c, r⟩⟩⟩
    · rfl
    · rw [refE_one, enc_one _ (by simp) (by simp)]
    · rw [refE_two, enc_one _ (by simp) (by simp)]
    · simp only [List.length_cons] at hn
      rw [refE_cons, ih r.length (by omega) r rfl, enc_cons (a :: b :: c :: r) (by simp)]
      rfl

/-- the bits that signs tell -/
def dbits (l : List UInt8) : List Nat := l.flatMap fun c => if sok c then nbits 6 (svn c) else []
/-- the first k bytes of bits -/
def bytesTo (W : List Nat) (k : Nat) : List UInt8 := (List.range k).map fun j => UInt8.ofNat (num ((W.drop (8 * j)).take 8))
theorem bytesTo_succ (W : List Nat) (k : Nat) : bytesTo W (k + 1) = bytesTo W k ++ [UInt8.ofNat (num ((W.drop (8 * k)).take 8))] := by simp [bytesTo, List.range_succ]
/-- the bytes that signs tell, bit by bit -/
def refD (l : List UInt8) : List UInt8 := bytesTo (dbits l) ((dbits l).length / 8)
theorem dbits_snoc (l : List UInt8) (c : UInt8) : dbits (l ++ [c]) = dbits l ++ if sok c then nbits 6 (svn c) else [] := by simp [dbits]
theorem dbits_append (l m : List UInt8) : dbits (l ++ m) = dbits l ++ dbits m := by simp [dbits]
theorem dbits_length (l : List UInt8) : (dbits l).length ≤ 6 * l.length := by
  induction l with
  | nil => simp [dbits]
  | cons c r ih =>
    have e : dbits (c :: r) = (if sok c then nbits 6 (svn c) else []) ++ dbits r := rfl
    rw [e, List.length_append, List.length_cons]
    split
    · rw [nbits_length]; omega
    · simp; omega
theorem dbits_lt (l : List UInt8) : ∀ b ∈ dbits l, b < 2 := by
  intro b hb
  simp only [dbits, List.mem_flatMap] at hb
  obtain ⟨c, _, h⟩ := hb
  split at h
  · exact nbits_lt b h
  · simp at h
theorem sgs_iff {n : Nat} (h : n < 64) (c : UInt8) : sgs.getD n 0 = c ↔ (sok c = true ∧ svn c = n) := by
  constructor
  · rintro rfl
    exact ⟨(sgs_tell n h).2.1, (sgs_tell n h).1⟩
  · rintro ⟨h1, h2⟩
    have key : ∀ k : Fin 256, sok (UInt8.ofNat k) = true → sgs.getD (svn (UInt8.ofNat k)) 0 = UInt8.ofNat k := by decide +kernel
    have := key ⟨c.toNat, c.toNat_lt⟩
    simp only [UInt8.ofNat_toNat] at this
    rw [← h2]
    exact this h1
theorem bytesTo_append (p W : List Nat) (q k : Nat) (h : p.length = 8 * q) : bytesTo (p ++ W) (q + k) = bytesTo p q ++ bytesTo W k := by
  unfold bytesTo
  rw [List.range_add, List.map_append, List.map_map]
  congr 1
  · apply List.map_congr_left
    intro j hj
    simp only [List.mem_range] at hj
    rw [List.drop_append_of_le_length (by omega), List.take_append_of_le_length (by simp; omega)]
  · apply List.map_congr_left
    intro j _
    simp only [Function.comp]
    rw [show 8 * (q + j) = p.length + 8 * j by omega, ← List.drop_drop, List.drop_left]
theorem sok61 : sok 61 = false := by decide
theorem dbits_map (ss : List Nat) (h : ∀ s ∈ ss, s < 64) : dbits (ss.map fun s => sgs.getD s 0) = ss.flatMap (nbits 6) := by
  induction ss with
  | nil => rfl
  | cons s r ih =>
    have t := sgs_tell s (h s (by simp))
    have e : dbits ((s :: r).map fun s => sgs.getD s 0) = (if sok (sgs.getD s 0) then nbits 6 (svn (sgs.getD s 0)) else []) ++ dbits (r.map fun s => sgs.getD s 0) := rfl
    rw [e, t.2.1, t.1, if_pos rfl, ih fun x hx => h x (by simp [hx]), List.flatMap_cons]
theorem dbits_three (a b c : UInt8) : dbits (enc3 [a, b, c]) = bits8 [a, b, c] := by rw [enc3_three, dbits_map _ (gs3_lt a b c), gs3_bits]
theorem bytes_back (xs : List UInt8) : bytesTo (bits8 xs) xs.length = xs := by
  induction xs with
  | nil => rfl
  | cons y r ih =>
    have e : bits8 (y :: r) = nbits 8 y.toNat ++ bits8 r := rfl
    rw [e, List.length_cons, Nat.add_comm, bytesTo_append _ _ 1 _ (by rw [nbits_length]), ih]
    have e8 : (nbits 8 y.toNat).take 8 = nbits 8 y.toNat := List.take_of_length_le (by rw [nbits_length]; omega)
    have e1 : bytesTo (nbits 8 y.toNat) 1 = [y] := by
      simp [bytesTo, e8, num8 _ y.toNat_lt]
    rw [e1]
    rfl
theorem refD_two (a b : UInt8) : refD (enc3 [a, b]) = [a, b] := by
  have e : dbits (enc3 [a, b]) = bits8 [a, b] ++ [0, 0] := by
    rw [enc3_two, dbits_append, dbits_map _ (gs2_lt a b), gs2_bits, show dbits [61] = [] from by decide, List.append_nil]
  have hl : (bits8 [a, b]).length = 8 * 2 := by rw [bits8_length]; rfl
  have h := bytesTo_append (bits8 [a, b]) [0, 0] 2 0 hl
  unfold refD
  rw [e, List.length_append, hl]
  exact h.trans (by rw [show bytesTo (bits8 [a, b]) 2 = [a, b] from bytes_back [a, b]]; rfl)
theorem refD_one (a : UInt8) : refD (enc3 [a]) = [a] := by
  have e : dbits (enc3 [a]) = bits8 [a] ++ [0, 0, 0, 0] := by
    rw [enc3_single, dbits_append, dbits_map _ (gs1_lt a), gs1_bits, show dbits [61, 61] = [] from by decide, List.append_nil]
  have hl : (bits8 [a]).length = 8 * 1 := by rw [bits8_length]; rfl
  have h := bytesTo_append (bits8 [a]) [0, 0, 0, 0] 1 0 hl
  unfold refD
  rw [e, List.length_append, hl]
  exact h.trans (by rw [show bytesTo (bits8 [a]) 1 = [a] from bytes_back [a]]; rfl)
theorem bytes_three (a b c : UInt8) : bytesTo (bits8 [a, b, c]) 3 = [a, b, c] := bytes_back [a, b, c]
/-- Bytes come back from their signs. -/
theorem refD_enc (xs : List UInt8) : refD (enc xs) = xs := by
  generalize hn : xs.length = n
  induction n using Nat.strongRecOn generalizing xs with
  | _ n ih =>
    rcases xs with _ | ⟨a, _ | ⟨b, _ | ⟨c, r⟩⟩⟩
    · rfl
    · rw [enc_one _ (by simp) (by simp), refD_one]
    · rw [enc_one _ (by simp) (by simp), refD_two]
    · simp only [List.length_cons] at hn
      have hl : (bits8 [a, b, c]).length = 8 * 3 := by rw [bits8_length]; rfl
      have i2 := ih r.length (by omega) r rfl
      rw [enc_cons (a :: b :: c :: r) (by simp)]
      simp only [List.take_succ_cons, List.take_zero, List.drop_succ_cons, List.drop_zero]
      unfold refD at i2 ⊢
      rw [dbits_append, dbits_three, List.length_append, hl, Nat.add_comm, Nat.add_mul_div_left _ _ (by omega), Nat.add_comm, bytesTo_append _ _ 3 _ hl, bytes_three, i2]
      rfl
end Go.Proofs.YtdnlelmajepleaaDoor
