/- No beginning of a head is a head: in plain words. Nothing of the program. · Whether two rows of bytes are the same. · The statement FieldFront: the walk of the law. · letter's Write; the statements of layer 11: speaks, great. -/
import Derived.Test.YtkllecicddfjpaaGreatDoorJ22
import Derived.Test.YtkllecicddfjpaaGreatDoorChecked
import Derived.Test.YtkllecicddfjpaaGreatDoorJ01
import Derived.Test.YtkllecicddfjpaaGreatDoorJ21
import Derived.Test.YtkllecicddfjpaaGreatDoorJ20
import Derived.Laws.Bits128
namespace Go.Proofs.YtkllecicddfjpaaGreatDoor
namespace Fd
set_option linter.unusedVariables false
set_option linter.unusedSimpArgs false

theorem plain_no10 {s : List UInt8} (h : plain s) : 10 ∉ s := fun hm => (h 10 hm).1 rfl
/-- a part of a line has no end -/
theorem line_part {s p q : List UInt8} (h : plain s) (e : p ++ q = s ++ [13, 10]) (hq : q ≠ []) : cutAt 10 p = none := by
  apply cutAt_not
  intro hm
  obtain ⟨q', x, rfl⟩ : ∃ q' x, q = q' ++ [x] := ⟨q.dropLast, q.getLast hq, (List.dropLast_concat_getLast hq).symm⟩
  have e2 : (p ++ q') ++ [x] = (s ++ [13]) ++ [10] := by simpa using e
  obtain ⟨e3, _⟩ := List.append_inj' e2 rfl
  have : 10 ∈ s ++ [13] := by rw [← e3]; exact List.mem_append_left _ hm
  rcases List.mem_append.1 this with h1 | h1
  · exact plain_no10 h h1
  · simp at h1
/-- a part of a text that begins with a line: a part of the line, or more -/
theorem parts {L more p q : List UInt8} (e : p ++ q = L ++ more) : (∃ q', q' ≠ [] ∧ p ++ q' = L) ∨ ∃ p', p = L ++ p' ∧ p' ++ q = more := by
  rcases List.append_eq_append_iff.1 e with ⟨a, h1, h2⟩ | ⟨a, h1, h2⟩
  · by_cases ha : a = []
    · subst ha
      right
      exact ⟨[], by simpa using h1.symm, by simpa using h2⟩
    · exact .inl ⟨a, ha, h1.symm⟩
  · exact .inr ⟨a, h1, h2.symm⟩
theorem val_part : ∀ (ss : List (List UInt8 × Bool)) (acc more p q : List UInt8), further ss → whole ss → stops more → p ++ q = segT ss ++ more →
    valGo acc p = none ∨ (∃ v, valGo acc p = some (acc ++ v, []) ∧ ∃ u, v ++ u = segV ss) ∨ ∃ p', p' ++ q = more ∧ valGo acc p = some (acc ++ segV ss, p')
  | [], acc, more, p, q, _, _, hm, e => by
    right; right
    have e' : p ++ q = more := e
    refine ⟨p, e', ?_⟩
    have hst : stops p := by
      match p, e' with
      | [], _ => exact .inl rfl
      | c :: r, e' =>
        rcases hm with h | ⟨c', r', h, hb⟩
        · rw [h] at e'; cases e'
        · rw [h] at e'
          cases e'
          exact .inr ⟨c, r, rfl, hb⟩
    rw [valGo_stops hst]
    simp [segV]
  | (s, b) :: ss, acc, more, p, q, hf, hw, hm, e => by
    obtain ⟨hp, c, r, hc, hb⟩ := hf (s, b) (by simp)
    have hb2 : b = true := hw (s, b) (by simp)
    subst hb2
    change s = c :: r at hc
    change plain s at hp
    have e1 : p ++ q = (s ++ [13, 10]) ++ (segT ss ++ more) := by rw [e]; simp [segT, eol]
    rcases parts e1 with ⟨q', hq', h1⟩ | ⟨p', rfl, h1⟩
    · have hcut := line_part hp h1 hq'
      match p, h1, hcut with
      | [], _, _ =>
        right; left
        exact ⟨[], by rw [valGo_nil]; simp, _, rfl⟩
      | x :: p1, h1, hcut =>
        left
        have hx : x = c := by
          rw [hc] at h1
          exact (List.cons.inj h1).1
        subst hx
        exact valGo_none hb hcut
    · have hcut : cutAt 10 ((s ++ [13, 10]) ++ p') = some (s ++ [13], p') := by
        have : (s ++ [13, 10]) ++ p' = (s ++ [13]) ++ 10 :: p' := by simp
        rw [this]
        exact cutAt_of (by
          intro hm
          rcases List.mem_append.1 hm with h1 | h1
          · exact plain_no10 hp h1
          · simp at h1)
      have hgo : valGo acc ((s ++ [13, 10]) ++ p') = valGo (acc ++ s) p' := by
        rw [hc] at hcut ⊢
        have := valGo_more (acc := acc) hb hcut
        rw [deCr_cr] at this
        exact this
      rw [hgo]
      rcases val_part ss (acc ++ s) more p' q (fun p hp => hf p (by simp [hp])) (fun p hp => hw p (by simp [hp])) hm h1 with h | ⟨v, h, u, hu⟩ | ⟨p2, h2, h⟩
      · exact .inl h
      · right; left
        exact ⟨s ++ v, by rw [h, List.append_assoc], u, by rw [List.append_assoc, hu]; rfl⟩
      · right; right
        exact ⟨p2, h2, by rw [h]; simp [segV]⟩
theorem trimB_sub (l : List UInt8) : ∀ c ∈ trimB l, c ∈ l := by
  intro c hc
  unfold trimB Lib.trimS Lib.trimLeftS Lib.trimRightS at hc
  have h1 := (List.dropWhile_sublist _).subset hc
  rw [List.mem_reverse] at h1
  have h2 := (List.dropWhile_sublist _).subset h1
  rwa [List.mem_reverse] at h2
theorem trimB_front (r : List UInt8) : (trimB (32 :: r)).length ≤ r.length := by
  have h1 := trimB_len (32 :: r)
  by_cases h : (trimB (32 :: r)).length = r.length + 1
  · exfalso
    have hs : trimB (32 :: r) = 32 :: r := by
      have hsub : (trimB (32 :: r)).Sublist (32 :: r) := by
        unfold trimB Lib.trimS Lib.trimLeftS Lib.trimRightS
        have a1 := List.dropWhile_sublist (l := ((32 :: r).reverse.dropWhile (([32, 9] : List UInt8).contains ·)).reverse) (([32, 9] : List UInt8).contains ·)
        have a2 := (List.dropWhile_sublist (l := (32 :: r).reverse) (([32, 9] : List UInt8).contains ·)).reverse
        rw [List.reverse_reverse] at a2
        exact a1.trans a2
      exact hsub.eq_of_length (by rw [h]; rfl)
    have he := (trimB_edges (32 :: r)).1 hs
    rw [edges_iff, Bool.and_eq_true] at he
    have : blk 32 = true := by decide
    rw [this] at he
    exact absurd he.1 (by decide)
  · simp at h1
    omega
/-- a part of a head is none -/
theorem front_none {fs : List (List UInt8 × List UInt8)} {t : List UInt8} (h : HeadW fs t) : ∀ (acc : List (List UInt8 × List UInt8)) (p q : List UInt8), acc.length + fs.length ≤ 200 → q ≠ [] → p ++ q = t ++ [13, 10] → readGo acc p = .error 3 := by
  induction h with
  | nil =>
    intro acc p q _ hq e
    exact readGo_none (line_part (s := []) (fun c hc => by simp at hc) e hq)
  | cons nm v s0 t ss fs hn hp hs hw hv hl h ih =>
    intro acc p q hk hq e
    have hpl : plain (nm ++ 58 :: s0) := by
      intro c hc
      rcases List.mem_append.1 hc with h1 | h1
      · exact nm_plain hn c h1
      · rcases List.mem_cons.1 h1 with rfl | h2
        · decide
        · exact hp c h2
    have e1 : p ++ q = (nm ++ 58 :: s0 ++ [13, 10]) ++ (segT ss ++ (t ++ [13, 10])) := by rw [e]; simp [eol]
    rcases parts e1 with ⟨q', hq', h1⟩ | ⟨p', rfl, h1⟩
    · exact readGo_none (line_part hpl h1 hq')
    · have hcut : cutAt 10 ((nm ++ 58 :: s0 ++ [13, 10]) ++ p') = some (nm ++ 58 :: s0 ++ [13], p') := by
        have : (nm ++ 58 :: s0 ++ [13, 10]) ++ p' = (nm ++ 58 :: s0 ++ [13]) ++ 10 :: p' := by simp
        rw [this]
        exact cutAt_of (by
          intro hm
          rcases List.mem_append.1 hm with h1 | h1
          · exact plain_no10 hpl h1
          · simp at h1)
      have hde : deCr (nm ++ 58 :: s0 ++ [13]) = nm ++ 58 :: s0 := deCr_cr _
      have hne : deCr (nm ++ 58 :: s0 ++ [13]) ≠ [] := by rw [hde]; simp
      obtain ⟨g1, g2, g3⟩ := vl_edges hl
      have hst : stops (t ++ [13, 10]) := by
        have := h.toT.stops true []
        simpa [eol] using this
      have hf : fieldP acc.length (nm ++ 58 :: s0) p' = match valGo s0 p' with
          | none => .error 3
          | some (v, b) => if 8192 < (trimB v).length then .error 4 else if (trimB v).all sgc then .ok ((nm, trimB v), b) else .error 3 := by
        unfold fieldP
        rw [cutAt_of (nm_no58 hn)]
        simp only [hn, if_true]
        rw [if_neg (by simp at hk; omega)]
        rfl
      rcases val_part ss s0 (t ++ [13, 10]) p' q hs hw hst h1 with h2 | ⟨v', h2, u, hu⟩ | ⟨p2, h3, h2⟩
      · rw [h2] at hf
        exact readGo_err hcut hne (by rw [hde]; exact hf)
      · rw [h2] at hf
        have hpre : (s0 ++ v') ++ u = 32 :: v := by rw [← hv, List.append_assoc, hu]
        have hall : ∀ c ∈ trimB (s0 ++ v'), sgc c = true := by
          intro c hc
          have h5 : c ∈ (32 :: v : List UInt8) := by rw [← hpre]; exact List.mem_append_left _ (trimB_sub _ c hc)
          rcases List.mem_cons.1 h5 with rfl | h6
          · decide
          · exact List.all_eq_true.1 g3 c h6
        have hlen : (trimB (s0 ++ v')).length ≤ 8192 := by
          match hs0 : s0 ++ v', hpre with
          | [], _ => decide
          | x :: r, hpre =>
            have hx : x = 32 ∧ r ++ u = v := by
              rw [List.cons_append] at hpre
              exact ⟨(List.cons.inj hpre).1, (List.cons.inj hpre).2⟩
            rw [hx.1]
            have h7 := trimB_front r
            have h8 : r.length ≤ v.length := by rw [← hx.2]; simp
            omega
        have hok : fieldP acc.length (nm ++ 58 :: s0) p' = .ok ((nm, trimB (s0 ++ v')), []) := by
          rw [hf]
          simp only
          rw [if_neg (by omega), if_pos (List.all_eq_true.2 hall)]
        rw [readGo_ok hcut hne (by rw [hde]; exact hok)]
        exact readGo_none (by rfl)
      · have hok : fieldP acc.length (nm ++ 58 :: s0) p' = .ok ((nm, v), p2) := by
          rw [hf, h2, hv]
          simp only
          rw [trimB_pad g1, if_neg (by omega), if_pos g3]
        rw [readGo_ok hcut hne (by rw [hde]; exact hok)]
        exact ih (acc ++ [(nm, v)]) p2 q (by simp at hk ⊢; omega) hq h3
end Fd
end Go.Proofs.YtkllecicddfjpaaGreatDoor

namespace Go.Proofs.YtkllecicddfjpaaGreatDoor
set_option linter.unusedVariables false
set_option linter.unusedSimpArgs false
open Go.RowKit

set_option maxHeartbeats 400000 in
theorem same_any (A B : Option Addr) (xs ys : List UInt8) (n m c d : Nat) (w : World) (hn : xs.length = n) (hm : ys.length = m) (hA : Rb w A xs) (hB : Rb w B ys) (hl : n ≤ 9223372036854775807) :
    Calls Tryz.prog 11 #[.slice A n c, .slice B m d] w fun e w' => e = .returned (.bool (decide (xs = ys))) ∧ Dn w w' := by
  by_cases hnm : n = m
  · have HN := Lib.hid hn
    have HM := Lib.hid hm
    subst hnm
    clear hn hm
    go_enter Tryz.func11, Tryz.ntmps11
    go_wp2
    go_loopw [5] (fun i wr => ∃ k : Nat, k ≤ n ∧ i = .int .i64 k ∧ xs.take k = ys.take k ∧ ∃ q, wr = w.drewN q) (fun i _ => n - (intOf i).toNat)
    case atStart => exact ⟨0, Nat.zero_le _, rfl, by simp, 0, rfl⟩
    case round =>
      obtain ⟨k, hk, rfl, ht, q, rfl⟩ := hrel
      have HT := Lib.hid ht
      clear ht
      by_cases hlt : k < n
      · obtain ⟨b, o, x, rfl, HX, hxk⟩ := hA.one (k := k) (by rw [HN.out]; omega)
        obtain ⟨b', o', y, rfl, HY, hyk⟩ := hB.one (k := k) (by rw [HM.out]; omega)
        go_wp2_with fail
        go_quiet (fail)
        go_wp2
        · have h : ((x.toNat : Int) != y.toNat) = true := by assumption
          have hxy : ¬ xs = ys := fun e => by
            subst e
            have := HX.out.symm.trans HY.out
            simp_all
          go_ret
          exact ⟨ret_bool (decide_eq_false hxy).symm, Dn.of2 _ _ _⟩
        · have h : ((x.toNat : Int) != y.toNat) = false := by assumption
          have he : x = y := u8_eq.1 (by simpa using h)
          go_roundw
          case rel => exact ⟨k + 1, by omega, by go_num, by rw [take_succ_of HX.out, take_succ_of HY.out, HT.out, he], _, rfl⟩
          case measure => simp [intOf]; omega
      · have hxy : xs = ys := by
          have h := HT.out
          rwa [List.take_of_length_le (by rw [HN.out]; omega), List.take_of_length_le (by rw [HM.out]; omega)] at h
        go_wp2
        go_ret
        exact ⟨ret_bool (decide_eq_true hxy).symm, Dn.of _ _⟩
  · have hxy : ¬ xs = ys := fun e => by subst e; omega
    clear hn hm
    go_enter Tryz.func11, Tryz.ntmps11
    go_wp2
    go_ret
    exact ⟨ret_bool (decide_eq_false hxy).symm, Dn.refl _⟩
end Go.Proofs.YtkllecicddfjpaaGreatDoor

namespace Go.Proofs.YtkllecicddfjpaaGreatDoor
namespace Fd
set_option linter.unusedVariables false
set_option linter.unusedSimpArgs false
open Go.RowKit

theorem and16 (z : Int) : bits .and .i64 z 65535 = z % 65536 := by
  have h127 : (BitVec.ofInt 64 65535).toNat = 2 ^ 16 - 1 := by decide
  have key : (BitVec.ofInt 64 z &&& BitVec.ofInt 64 65535).toNat = (z % ((2 ^ 64 : Nat) : Int)).toNat % 2 ^ 16 := by
    rw [BitVec.toNat_and, BitVec.toNat_ofInt, h127, Nat.and_two_pow_sub_one_eq_mod]
  show IntKind.i64.wrap ((BitVec.ofInt 64 z &&& BitVec.ofInt 64 65535).toNat : Nat) = z % 65536
  rw [key, IntKind.wrap_i64]
  omega
/-- the lines of fields -/
def foldAll (fs : List (List UInt8 × List UInt8)) : List UInt8 := fs.flatMap fun p => foldF p.1 p.2
theorem foldAll_snoc (fs : List (List UInt8 × List UInt8)) (p : List UInt8 × List UInt8) : foldAll (fs ++ [p]) = foldAll fs ++ foldF p.1 p.2 := by simp [foldAll]
theorem foldAll_whole : ∀ (fs : List (List UInt8 × List UInt8)), rightF fs = true → HeadW fs (foldAll fs)
  | [], _ => .nil
  | p :: fs, h => by
    unfold rightF at h
    rw [List.all_cons, Bool.and_eq_true, Bool.and_eq_true] at h
    exact (fold_whole h.1.1 h.1.2).append (foldAll_whole fs h.2)
theorem right_at {fs : List (List UInt8 × List UInt8)} (h : rightF fs = true) {k : Nat} {p : List UInt8 × List UInt8} (hp : fs[k]? = some p) : nmOk p.1 = true ∧ vlOk p.2 = true := by
  have := List.all_eq_true.1 h p (List.mem_of_getElem? hp)
  rwa [Bool.and_eq_true] at this
theorem foldAll_len : ∀ (fs : List (List UInt8 × List UInt8)), rightF fs = true → (foldAll fs).length ≤ 24646 * fs.length
  | [], _ => by simp [foldAll]
  | p :: fs, h => by
    unfold rightF at h
    rw [List.all_cons, Bool.and_eq_true, Bool.and_eq_true] at h
    have ih := foldAll_len fs h.2
    have h1 := foldF_len p.1 p.2
    have h2 := (nmOk_len h.1.1).2
    have h3 := vlOk_len h.1.2
    have e : foldAll (p :: fs) = foldF p.1 p.2 ++ foldAll fs := rfl
    rw [e, List.length_append, List.length_cons]
    omega
theorem rightF_take {fs : List (List UInt8 × List UInt8)} (h : rightF fs = true) (k : Nat) : rightF (fs.take k) = true :=
  List.all_eq_true.2 fun p hp => List.all_eq_true.1 h p (List.mem_of_mem_take hp)


end Fd
end Go.Proofs.YtkllecicddfjpaaGreatDoor

namespace Go.Proofs.YtkllecicddfjpaaGreatDoor
namespace Fd
set_option linter.unusedVariables false
set_option linter.unusedSimpArgs false
open Go.RowKit

/-- a mail's bytes -/
def writeP (fs : List (List UInt8 × List UInt8)) (bd : List UInt8) : Except Nat (List UInt8) :=
  if rightF fs then
    if 200 < fs.length ∨ 65536 < (foldAll fs ++ [13, 10]).length ∨ 2097152 < bd.length + (foldAll fs ++ [13, 10]).length then .error 4 else .ok (foldAll fs ++ [13, 10] ++ bd)
  else .error 3
/-- what Write answers -/
def WriteOut (fs : List (List UInt8 × List UInt8)) (bd : List UInt8) (w : World) (e : Ending) (w' : World) : Prop :=
  (match writeP fs bd with
  | .error x => e = .returned (.tuple #[.slice none 0 0, .int .i64 (x : Int)])
  | .ok l => ∃ v, e = .returned (.tuple #[v, .int .i64 0]) ∧ w'.ownsRow w.heap.size 5 1 v l.length (l.map bv)) ∧ Below w.heap.size w w'
theorem right_no {fs : List (List UInt8 × List UInt8)} {k : Nat} {p : List UInt8 × List UInt8} (hp : fs[k]? = some p) (h : (nmOk p.1 && vlOk p.2) = false) : rightF fs = false := all_hit _ hp h
theorem right_take {fs : List (List UInt8 × List UInt8)} {k : Nat} {p : List UInt8 × List UInt8} (hp : fs[k]? = some p) (h : (nmOk p.1 && vlOk p.2) = true) (hk : rightF (fs.take k) = true) : rightF (fs.take (k + 1)) = true := by
  unfold rightF at *
  rw [all_take _ _ hp, hk, h]
  rfl

set_option maxRecDepth 100000 in
set_option maxHeartbeats 2000000 in
theorem write_any (A A2 : Option Addr) (fs : List (List UInt8 × List UInt8)) (bd : List UInt8) (n c n2 c2 : Nat) (w : World) (hn : fs.length = n) (hn2 : bd.length = n2) (hA : Rf w A fs) (hA2 : Rb w A2 bd)
    (hs : ∀ p ∈ fs, p.1.length ≤ 9223372036854775807 ∧ p.2.length ≤ 9223372036854775807) (hb : n ≤ 1000000) (hb2 : n2 ≤ 9223372036854775807) :
    Calls Tryz.prog 27 #[.agg #[.slice A n c, .slice A2 n2 c2]] w (WriteOut fs bd w) := by
  have HN := Lib.hid hn
  have HN2 := Lib.hid hn2
  have HS := Lib.hid hs
  clear hn hn2 hs
  have hB0 : Below w.heap.size w (w.alloc (.cells #[.slice A n c, .slice A2 n2 c2] 39)) := (Below.refl _ _).alloc (Nat.le_refl _) _
  have c00 : (w.alloc (.cells #[.slice A n c, .slice A2 n2 c2] 39)).cell? ⟨w.heap.size, 0, none⟩ = some (.slice A n c) := by simp
  have c01 : (w.alloc (.cells #[.slice A n c, .slice A2 n2 c2] 39)).cell? ⟨w.heap.size, 1, none⟩ = some (.slice A2 n2 c2) := by simp
  have hW0 : w.heap.size + 1 ≤ (w.alloc (.cells #[.slice A n c, .slice A2 n2 c2] 39)).heap.size := by simp
  go_enter Tryz.func27, Tryz.ntmps27
  go_wp2_with fail
  generalize w.alloc (.cells #[.slice A n c, .slice A2 n2 c2] 39) = W0 at *
  have hs0 := hB0.size
  go_loopw [2, 11] (fun x i wr => ∃ k N : Nat, i = .int .i64 k ∧ k ≤ n ∧ N ≤ 24646 * k ∧ Hid (rightF (fs.take k) = true) ∧ wr.ownsRow W0.heap.size 5 1 x N ((foldAll (fs.take k)).map bv) ∧ Below W0.heap.size W0 wr) (fun _ i _ => n - (intOf i).toNat)
  case atStart => exact ⟨0, 0, rfl, by omega, by omega, Lib.hid rfl, World.ownsRow_nil _ _ _ _, Below.refl _ _⟩
  case round =>
    obtain ⟨k, N, rfl, hk, hN, hrk, hown, hC⟩ := hrel
    have hB := hB0.trans (hC.mono hs0)
    have hsC := hC.size
    by_cases hlt : k < n
    · obtain ⟨b, o, p, rfl, hp, g0, g1⟩ := (hA.below hB).one (k := k) (by rw [HN.out]; exact hlt)
      obtain ⟨l1, l2⟩ := HS.out p (List.mem_of_getElem? hp.out)
      have hfl := foldF_len p.1 p.2
      have hst2 : foldAll (fs.take (k + 1)) = foldAll (fs.take k) ++ foldF p.1 p.2 := by rw [take_succ_of hp.out, foldAll_snoc]
      have HST := Lib.hid hst2
      have hrno := Lib.hid (right_no hp.out)
      have hrok := Lib.hid (fun h => right_take hp.out h hrk.out)
      have hAl : Below W0.heap.size W0 (wr.alloc (.cells #[.string (bs p.1), .string (bs p.2)] 73)) := hC.alloc hsC _
      clear hst2
      go_wp2_with fail
      refine (fold_any p.1 p.2 _ l1 l2).mono ?_
      rintro e w5 ⟨hfo, hb5⟩
      have hC5 := hAl.trans (hb5.mono hAl.size)
      have hs5 := hC5.size
      have hB5 := hB0.trans (hC5.mono hs0)
      rcases hfo with ⟨hnm, hvl, x', rfl, hx'⟩ | ⟨hno, rfl⟩
      · obtain ⟨XA, xc, rfl, hxc, _, hXR, _⟩ := hx'.form
        have hnl := (nmOk_len hnm).2
        have hvll := vlOk_len hvl
        have hown5 := own_below (hown.alloc (.cells #[.string (bs p.1), .string (bs p.2)] 73)) hb5
        have hXRb : Rb w5 XA (foldF p.1 p.2) := hXR
        have HOK := Lib.hid (hrok.out (by rw [hnm, hvl]; rfl))
        clear hrok hrno hrk
        generalize foldF p.1 p.2 = ff at *
        go_wp2_with (at_builtin; refine wpList_app rfl (.tmp 23) (.tmp 24) _ _ rfl TU8 hown5 rfl (Src_rb Tryz.underlying22 rfl hXRb) rfl (by omega) hs5 ?_; intro v6 w6 hown6 hgr6 hat6; have hB6 := below_app hC5 hown5 hgr6 hs5 (Nat.le_refl _))
        go_roundw
        case rel => exact ⟨k + 1, N + ff.length, by go_num, by omega, by omega, HOK, by rw [HST.out, List.map_append]; exact hown6, hB6⟩
        case measure => simp [intOf]; omega
      · have HNO := Lib.hid (hrno.out hno)
        clear hrok hrno hrk
        go_wp2_with fail
        go_ret2
        exact ⟨by unfold writeP; rw [if_neg (by rw [HNO.out]; simp)]; rfl, hB5⟩
    · obtain rfl : k = n := by omega
      have hfa : fs.take k = fs := List.take_of_length_le (by rw [HN.out]; omega)
      rw [hfa] at hown hrk
      have HRK := hrk
      clear hfa
      have hcr0 := (hC.cell (p := ⟨w.heap.size, 0, none⟩) (cell_lt c00)).trans c00
      have hcr1 := (hC.cell (p := ⟨w.heap.size, 1, none⟩) (cell_lt c01)).trans c01
      have hown7 := hown
      have hl : (foldAll fs).length = N := by simpa using hown.1
      have hNN : N ≤ 24646000000 := by omega
      have hwr : writeP fs bd = if 200 < k ∨ 65536 < N + 2 ∨ 2097152 < n2 + (N + 2) then .error 4 else .ok (foldAll fs ++ [13, 10] ++ bd) := by
        unfold writeP
        rw [if_pos HRK.out, List.length_append, hl, HN.out, HN2.out]
        rfl
      have HWR := Lib.hid hwr
      have HL := Lib.hid hl
      clear hown hl hwr
      obtain ⟨M, hM⟩ : ∃ M, N + 2 = M := ⟨_, rfl⟩
      have hMM : M ≤ 24646000002 := by omega
      have HM := Lib.hid hM
      have hw2 : ∀ (v : Value) (w6 : World) (xs : List Value), w6.ownsRow W0.heap.size 5 1 v (N + [13, 10].length) xs → w6.ownsRow W0.heap.size 5 1 v M xs := fun v w6 xs h => by rw [← hM]; exact h
      clear hM
      by_cases h1 : 200 < k
      · have HE := Lib.hid (show writeP fs bd = .error 4 by rw [HWR.out, if_pos (.inl h1)])
        clear HM
        go_wp2_with (at_builtin; refine wpList_app rfl (.tmp 27) (.const (.string ⟨#[13, 10]⟩)) _ _ rfl TU8 hown7 rfl (Src_str Tryz.underlying9 [13, 10]) rfl (by simp; omega) hsC ?_; intro v6 w6 hown60 hgr6 hat6; have hown6 := hw2 _ _ _ hown60; clear hown60; have hC6 := below_app hC hown7 hgr6 hsC (Nat.le_refl _); have d60 := (hC6.cell (p := ⟨w.heap.size, 0, none⟩) (cell_lt c00)).trans c00; have d61 := (hC6.cell (p := ⟨w.heap.size, 1, none⟩) (cell_lt c01)).trans c01)
        go_ret2
        exact ⟨by rw [HE.out]; rfl, hB0.trans (hC6.mono hs0)⟩
      · by_cases h2 : 65536 < M
        · have HE := Lib.hid (show writeP fs bd = .error 4 by rw [HWR.out, if_pos (.inr (.inl (by rw [HM.out]; exact h2)))])
          have h2i : (65536 : Int) < (M : Int) := by omega
          clear h2
          go_wp2_with (at_builtin; refine wpList_app rfl (.tmp 27) (.const (.string ⟨#[13, 10]⟩)) _ _ rfl TU8 hown7 rfl (Src_str Tryz.underlying9 [13, 10]) rfl (by simp; omega) hsC ?_; intro v6 w6 hown60 hgr6 hat6; have hown6 := hw2 _ _ _ hown60; clear hown60; have hC6 := below_app hC hown7 hgr6 hsC (Nat.le_refl _); have d60 := (hC6.cell (p := ⟨w.heap.size, 0, none⟩) (cell_lt c00)).trans c00; have d61 := (hC6.cell (p := ⟨w.heap.size, 1, none⟩) (cell_lt c01)).trans c01; have hown9 := hown6; obtain ⟨Z, z, rfl, _, _, _, _⟩ := own_form hown9)
          go_ret2
          exact ⟨by rw [HE.out]; rfl, hB0.trans (hC6.mono hs0)⟩
        · have h2i : (M : Int) ≤ 65536 := by omega
          by_cases h3 : 2097152 < n2 + M
          · have HE := Lib.hid (show writeP fs bd = .error 4 by rw [HWR.out, if_pos (.inr (.inr (by rw [HM.out]; exact h3)))])
            have h3i : (2097152 : Int) - (M : Int) < (n2 : Int) := by omega
            clear h2 h3
            go_wp2_with (at_builtin; refine wpList_app rfl (.tmp 27) (.const (.string ⟨#[13, 10]⟩)) _ _ rfl TU8 hown7 rfl (Src_str Tryz.underlying9 [13, 10]) rfl (by simp; omega) hsC ?_; intro v6 w6 hown60 hgr6 hat6; have hown6 := hw2 _ _ _ hown60; clear hown60; have hC6 := below_app hC hown7 hgr6 hsC (Nat.le_refl _); have d60 := (hC6.cell (p := ⟨w.heap.size, 0, none⟩) (cell_lt c00)).trans c00; have d61 := (hC6.cell (p := ⟨w.heap.size, 1, none⟩) (cell_lt c01)).trans c01; have hown9 := hown6; obtain ⟨Z, z, rfl, _, _, _, _⟩ := own_form hown9)
            go_ret2
            exact ⟨by rw [HE.out]; rfl, hB0.trans (hC6.mono hs0)⟩
          · have HE := Lib.hid (show writeP fs bd = .ok (foldAll fs ++ [13, 10] ++ bd) by rw [HWR.out, if_neg (by rw [HM.out]; rintro (h | h | h) <;> omega)])
            have h3i : ¬ (2097152 : Int) - (M : Int) < (n2 : Int) := by omega
            have hn2 : n2 ≤ 2097152 := by omega
            clear h2 h3
            go_wp2_with (first
              | (at_builtin; refine wpList_app rfl (.tmp 27) (.const (.string ⟨#[13, 10]⟩)) _ _ rfl TU8 hown7 rfl (Src_str Tryz.underlying9 [13, 10]) rfl (by simp; omega) hsC ?_; intro v6 w6 hown60 hgr6 hat6; have hown6 := hw2 _ _ _ hown60; clear hown60; have hC6 := below_app hC hown7 hgr6 hsC (Nat.le_refl _); have d60 := (hC6.cell (p := ⟨w.heap.size, 0, none⟩) (cell_lt c00)).trans c00; have d61 := (hC6.cell (p := ⟨w.heap.size, 1, none⟩) (cell_lt c01)).trans c01; have hown9 := hown6; have hs6 := hC6.size; obtain ⟨Z, z, rfl, _, _, _, _⟩ := own_form hown6)
              | (at_builtin; refine wpList_app rfl (.tmp 47) (.tmp 49) _ _ rfl TU8 hown9 rfl (Src_rb Tryz.underlying22 HN2.out (hA2.below (hB0.trans (hC6.mono hs0)))) rfl (by simp; omega) hs6 ?_; intro v8 w8 hown8 hgr8 hat8; have hC8 := below_app hC6 hown9 hgr8 hs6 (Nat.le_refl _)))
            go_ret2
            refine ⟨?_, hB0.trans (hC8.mono hs0)⟩
            rw [HE.out]
            refine ⟨_, rfl, ?_⟩
            have e : (foldAll fs ++ [13, 10] ++ bd).length = M + n2 := by rw [← HM.out]; simp only [List.length_append, HL.out, HN2.out]; rfl
            rw [e, List.map_append, List.map_append]
            exact own_base hown8 hs0
theorem writeEx : writeP [([65], [98])] [99] = .ok [65, 58, 32, 98, 13, 10, 13, 10, 99] := by
  have h1 : rightF [([65], [98])] = true := by decide
  have h2 : foldAll [([65], [98])] = [65, 58, 32, 98, 13, 10] := by decide
  unfold writeP
  rw [if_pos h1, h2, if_neg (by decide)]
  rfl



end Fd
end Go.Proofs.YtkllecicddfjpaaGreatDoor
