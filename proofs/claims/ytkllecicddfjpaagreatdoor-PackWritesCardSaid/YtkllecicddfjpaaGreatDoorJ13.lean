/- The walk of the law, part 13. -/
import Derived.Test.YtkllecicddfjpaaGreatDoorJ12
import Derived.Test.YtkllecicddfjpaaGreatDoorJ02
import Derived.Test.YtkllecicddfjpaaGreatDoorJ03
set_option maxRecDepth 100000
set_option maxHeartbeats 16000000
set_option linter.unusedVariables false
set_option linter.unusedSimpArgs false
namespace Go.Proofs.YtkllecicddfjpaaGreatDoor
section
namespace Fd
open Go.RowKit
theorem grown_trans {w w1 w2 : World} {g : Nat} {row : Option Nat} (h : w.grownBy w1 (some g)) (k : w1.grownBy w2 row) (hr : ∀ j,row = some j → j = g ∨ w.heap.size ≤ j) : w.grownBy w2 (some g) :=
 ⟨k.os.trans h.os,k.tape.trans h.tape,k.output.trans h.output,Nat.le_trans h.size k.size,fun j hj hne => (k.block j (Nat.lt_of_lt_of_le hj h.size) (fun e => by
  rcases hr j e.symm with rfl | h2
  ·exact hne rfl
  ·omega)).trans (h.block j hj hne)⟩
theorem grown_below {w w1 w2 : World} {g : Nat} (h : w.grownBy w1 (some g)) (k : Below w1.heap.size w1 w2) : w.grownBy w2 (some g) := grown_trans h (grown_of_below k none) (by simp)
theorem below_grown {N : Nat} {w w1 : World} {g : Nat} (h : w.grownBy w1 (some g)) (hN : N ≤ g) (hs : N ≤ w.heap.size) : Below N w w1 :=
 ⟨h.os,h.tape,h.output,h.size,fun j hj => h.block j (by omega) (fun e => by have := Option.some.inj e; omega)⟩
theorem mark_cell (w : World) (x : Value) (t : TypeId) : (w.alloc (.cells #[x] t (1,2))).cell? ⟨w.heap.size,0,none⟩ = some x := by
 have hh : (w.alloc (.cells #[x] t (1,2))).heap[w.heap.size]? = some (.cells #[x] t (1,2)) := World.alloc_heap_new w _
 simp only [World.cell?,hh]
 rfl
abbrev Rd (w : World) (g : Nat) (rest fields : Value) : Prop := Row w g 124 [rest,fields]
theorem Rd.apart {w : World} {g : Nat} {r f : Value} (h : Rd w g r f) (hr : ∀ k z,r ≠ .int k z) (hf : ∀ k z,f ≠ .int k z) {A : Option Addr} {l : List UInt8} (hA : Rb w A l) (hl : 0 < l.length) : ∃ b o,A = some ⟨b,o,none⟩ ∧ b ≠ g := by
 obtain ⟨b,o,x,rfl,_,hc⟩ := hA.one hl
 refine ⟨b,o,rfl,?_⟩
 rintro rfl
 simp only [World.cell?,show w.heap[b]? = _ from h] at hc
 match ho : o + 0 with
 | 0 => rw [ho] at hc; simp at hc; exact hr _ _ hc
 | 1 => rw [ho] at hc; simp at hc; exact hf _ _ hc
 | k + 2 => rw [ho] at hc; simp at hc
theorem _root_.Go.Proofs.YtkllecicddfjpaaGreatDoor.Rb.grown {w w1 : World} {g : Nat} {A : Option Addr} {l : List UInt8} (hA : Rb w A l) (hg : w.grownBy w1 (some g)) (hne : 0 < l.length → ∃ b o,A = some ⟨b,o,none⟩ ∧ b ≠ g) : Rb w1 A l := fun hp => by
 obtain ⟨b,o,rfl,hc⟩ := hA hp
 obtain ⟨b',o',e,hb⟩ := hne (by simpa using hp)
 cases e
 exact ⟨b,o,rfl,fun j v hj => hg.cell (hc j v hj) (fun e => hb (Option.some.inj e))⟩
def LineOut (g : Nat) (A : Option Addr) (l : List UInt8) (n c : Nat) (fv : Value) (e : Ending) (w' : World) : Prop :=
 match cutAt 10 l with
 | some (a,b) => ∃ B d,e = .returned (.tuple #[.slice A (deCr a).length c,.bool true]) ∧ Rd w' g (.slice B b.length d) fv ∧ Rb w' A (deCr a) ∧ Rb w' B b ∧ b.length ≤ d ∧ Pl B d ∧ SB A B
 | none => e = .returned (.tuple #[.slice A (deCr l).length c,.bool false]) ∧ Rd w' g (.slice A n c) fv
theorem line_any (g : Nat) (A : Option Addr) (l : List UInt8) (n c : Nat) (fv : Value) (w : World) (hn : l.length = n) (hR : Rd w g (.slice A n c) fv) (hf : ∀ k z,fv ≠ .int k z) (hA : Rb w A l) (hnc : n ≤ c) (hpl : Pl A c) (hb : n ≤ 100000000) :
  Calls Tryz.prog 84 #[.pointer (some ⟨g,0,none⟩)] w fun e w' => LineOut g A l n c fv e w' ∧ w.grownBy w' (some g) := by
 have c0 : w.cell? ⟨g,0,none⟩ = some (.slice A n c) := hR.cell rfl
 have kc := fun (w : World) (C : Array Value) (n c : Nat) => Lib.run_convert_bytes_const (P := Tryz.prog) w 22 5 C n c Tryz.underlying22 Tryz.underlying5
 have HR := Lib.hid hR
 clear hR
 go_enter Tryz.func84,Tryz.ntmps84
 go_wp2_with fail
 have hb1 : Below w.heap.size w (w.alloc (.cells #[.int .u8 10] 5 (1,2))) := (Below.refl _ _).alloc (Nat.le_refl _) _
 have hs10 : (w.alloc (.cells #[.int .u8 10] 5 (1,2))).cell? ⟨w.heap.size,0,none⟩ = some (bv 10) := mark_cell _ _ _
 refine (cut_any A l n c w.heap.size 0 1 10 _ hn (hA.below hb1) hnc hpl hs10 (by omega)).mono ?_
 rintro e w2 ⟨hcut,hd⟩
 have hb2 := hb1.trans ((hd.below _).mono hb1.size)
 have hR2 : Rd w2 g (.slice A n c) fv := HR.out.below hb2
 have hA2 := hA.below hb2
 have c2 : w2.cell? ⟨g,0,none⟩ = some (.slice A n c) := hR2.cell rfl
 have z2 : w2.frozen? ⟨g,0,none⟩ = false := hR2.frozen 0
 have hg2 : w.grownBy w2 (some g) := grown_of_below hb2 _
 unfold CutOut at hcut
 cases hc : cutAt 10 l with
 | none =>
  rw [hc] at hcut
  subst hcut
  have hb3 : Below w2.heap.size w2 (w2.alloc (.cells #[.int .u8 13] 5 (1,2))) := (Below.refl _ _).alloc (Nat.le_refl _) _
  have HR2 := Lib.hid hR2
  clear hR2 hd hs10
  go_wp2_with fail
  refine (trimCr_any A l n c w2.heap.size 0 1 _ hn (hA2.below hb3) hnc (mark_cell _ _ _) (by omega)).mono ?_
  rintro e w3 ⟨rfl,rfl⟩
  go_wp2_with fail
  go_ret2
  refine ⟨?_,grown_below hg2 hb3⟩
  unfold LineOut
  rw [hc]
  exact ⟨rfl,HR2.out.below hb3⟩
 | some p =>
  obtain ⟨a,b⟩ := p
  rw [hc] at hcut
  obtain ⟨B,d,rfl,hRa,hRb,hbd,hplB,hac,hsb⟩ := hcut
  have hR3 : Rd (w2.setCell ⟨g,0,none⟩ (.slice B b.length d)) g (.slice B b.length d) fv := hR2.set 0 _
  have hg3 : w2.grownBy (w2.setCell ⟨g,0,none⟩ (.slice B b.length d)) (some g) := grownBy_setCell' _ _ _
  have hap := fun {A : Option Addr} {l : List UInt8} (h : Rb w2 A l) => Rd.apart (A := A) (l := l) hR2 (fun _ _ h => by cases h) hf h
  have hRa3 := hRa.grown hg3 (hap hRa)
  have hRb3 := hRb.grown hg3 (hap hRb)
  have hal : a.length ≤ n := by
   have := (cutAt_some hc).1
   rw [← hn,this]
   simp
  have hg23 := grown_trans hg2 hg3 (fun j h => .inl (Option.some.inj h).symm)
  have HR3 := Lib.hid hR3
  have hsz : (w2.setCell ⟨g,0,none⟩ (.slice B b.length d)).heap.size = w2.heap.size := by simp
  have kc3 : ∀ (C : Array Value) (n c : Nat),_ := fun C n c => kc (w2.setCell ⟨g,0,none⟩ (.slice B b.length d)) C n c
  rw [hsz] at kc3
  have HSZ := Lib.hid hsz
  clear hR3 hR2 hd hs10 hsz
  go_wp2_with fail
  generalize w2.setCell ⟨g,0,none⟩ (.slice B b.length d) = w3 at *
  rw [← HSZ.out]
  have hb4 : Below w3.heap.size w3 (w3.alloc (.cells #[.int .u8 13] 5 (1,2))) := (Below.refl _ _).alloc (Nat.le_refl _) _
  refine (trimCr_any A a a.length c w3.heap.size 0 1 _ rfl (hRa3.below hb4) hac (mark_cell _ _ _) (by omega)).mono ?_
  rintro e w4 ⟨rfl,rfl⟩
  have hRd : Rb (w3.alloc (.cells #[.int .u8 13] 5 (1,2))) A (deCr a) := by
   unfold deCr
   split
   ·exact (hRa3.below hb4).take _
   ·exact hRa3.below hb4
  go_wp2_with fail
  go_ret2
  refine ⟨?_,grown_below hg23 hb4⟩
  unfold LineOut
  rw [hc]
  exact ⟨B,d,rfl,HR3.out.below hb4,hRd,hRb3.below hb4,hbd,hplB,hsb⟩
end Fd
end
section
namespace Fd
theorem cutAt_lt {s : UInt8} {l a b : List UInt8} (h : cutAt s l = some (a,b)) : a.length + b.length + 1 = l.length := by
 rw [(cutAt_some h).1]
 simp
 omega
theorem deCr_len (l : List UInt8) : (deCr l).length ≤ l.length := by
 unfold deCr
 split
 ·simp
 ·omega
def valGo (acc rest : List UInt8) : Option (List UInt8 × List UInt8) :=
 match rest with
 | [] => some (acc,[])
 | c :: r => if blk c then (match h : cutAt 10 (c :: r) with
   | none => none
   | some (a,b) => valGo (acc ++ deCr a) b) else some (acc,c :: r)
termination_by rest.length
decreasing_by
 have := cutAt_lt h
 omega
theorem valGo_nil (acc : List UInt8) : valGo acc [] = some (acc,[]) := by rw [valGo]
theorem valGo_stop {acc r : List UInt8} {c : UInt8} (h : blk c = false) : valGo acc (c :: r) = some (acc,c :: r) := by
 rw [valGo]
 simp [h]
theorem valGo_none {acc r : List UInt8} {c : UInt8} (h : blk c = true) (hc : cutAt 10 (c :: r) = none) : valGo acc (c :: r) = none := by
 rw [valGo,if_pos h]
 split
 ·rfl
 ·rename_i h2
  rw [hc] at h2
  cases h2
theorem valGo_more {acc r a b : List UInt8} {c : UInt8} (h : blk c = true) (hc : cutAt 10 (c :: r) = some (a,b)) : valGo acc (c :: r) = valGo (acc ++ deCr a) b := by
 rw [valGo,if_pos h]
 split
 ·rename_i h2
  rw [hc] at h2
  cases h2
 ·rename_i h2
  rw [hc] at h2
  cases h2
  rfl
def fieldP (k : Nat) (line rest : List UInt8) : Except Nat ((List UInt8 × List UInt8) × List UInt8) :=
 match cutAt 58 line with
 | none => .error 3
 | some (nm,first) => if nmOk nm then (if k = 200 then .error 4 else
   match valGo first rest with
   | none => .error 3
   | some (v,b) => if 8192 < (trimB v).length then .error 4 else if (trimB v).all sgc then .ok ((nm,trimB v),b) else .error 3) else .error 3
theorem valGo_len : ∀ (n : Nat) (acc rest v b : List UInt8),rest.length ≤ n → valGo acc rest = some (v,b) → v.length + b.length ≤ acc.length + rest.length
 | n,acc,[],v,b,_,h => by
  rw [valGo_nil] at h
  cases h
  simp
 | 0,acc,c :: r,v,b,hn,h => by simp at hn
 | n + 1,acc,c :: r,v,b,hn,h => by
  by_cases hb : blk c = true
  ·cases hc : cutAt 10 (c :: r) with
   | none => rw [valGo_none hb hc] at h; cases h
   | some p =>
    obtain ⟨a,b'⟩ := p
    rw [valGo_more hb hc] at h
    have h1 := cutAt_lt hc
    have h2 := valGo_len n _ _ _ _ (by simp at hn h1; omega) h
    have h3 := deCr_len a
    simp only [List.length_append] at h2
    omega
  ·rw [valGo_stop (by simpa using hb)] at h
   cases h
   omega
theorem valGo_rest {acc rest v b : List UInt8} (h : valGo acc rest = some (v,b)) : b.length ≤ rest.length := by
 have key : ∀ (n : Nat) (acc rest v b : List UInt8),rest.length ≤ n → valGo acc rest = some (v,b) → b.length ≤ rest.length := by
  intro n
  induction n with
  | zero =>
   intro acc rest v b hn h
   have : rest = [] := List.eq_nil_of_length_eq_zero (by omega)
   subst this
   rw [valGo_nil] at h
   cases h
   omega
  | succ n ih =>
   intro acc rest v b hn h
   match rest with
   | [] =>
    rw [valGo_nil] at h
    cases h
    omega
   | c :: r =>
    by_cases hb : blk c = true
    ·cases hc : cutAt 10 (c :: r) with
     | none => rw [valGo_none hb hc] at h; cases h
     | some p =>
      obtain ⟨a,b'⟩ := p
      rw [valGo_more hb hc] at h
      have h1 := cutAt_lt hc
      have := ih _ _ _ _ (by simp at hn h1; omega) h
      omega
    ·rw [valGo_stop (by simpa using hb)] at h
     cases h
     omega
 exact key _ _ _ _ _ (Nat.le_refl _) h
theorem fieldP_rest {k : Nat} {line rest b : List UInt8} {f : List UInt8 × List UInt8} (h : fieldP k line rest = .ok (f,b)) : b.length ≤ rest.length := by
 unfold fieldP at h
 split at h
 ·cases h
 ·split at h
  ·split at h
   ·cases h
   ·split at h
    ·cases h
    ·rename_i hv
     split at h
     ·cases h
     ·split at h
      ·cases h
       exact valGo_rest hv
      ·cases h
  ·cases h
def readGo (fs : List (List UInt8 × List UInt8)) (rest : List UInt8) : Except Nat (List (List UInt8 × List UInt8) × List UInt8) :=
 match h : cutAt 10 rest with
 | none => .error 3
 | some (a,b) => if deCr a = [] then .ok (fs,b) else
   match h2 : fieldP fs.length (deCr a) b with
   | .error e => .error e
   | .ok (f,b') => readGo (fs ++ [f]) b'
termination_by rest.length
decreasing_by
 have h1 := cutAt_lt h
 have h3 := fieldP_rest h2
 omega
theorem readGo_none {fs : List (List UInt8 × List UInt8)} {rest : List UInt8} (h : cutAt 10 rest = none) : readGo fs rest = .error 3 := by
 rw [readGo]
 split
 ·rfl
 ·rename_i h2
  rw [h] at h2
  cases h2
theorem readGo_end {fs : List (List UInt8 × List UInt8)} {rest a b : List UInt8} (h : cutAt 10 rest = some (a,b)) (ha : deCr a = []) : readGo fs rest = .ok (fs,b) := by
 rw [readGo]
 split
 ·rename_i h2
  rw [h] at h2
  cases h2
 ·rename_i h2
  rw [h] at h2
  cases h2
  rw [if_pos ha]
theorem readGo_err {fs : List (List UInt8 × List UInt8)} {rest a b : List UInt8} {e : Nat} (h : cutAt 10 rest = some (a,b)) (ha : deCr a ≠ []) (hf : fieldP fs.length (deCr a) b = .error e) : readGo fs rest = .error e := by
 rw [readGo]
 split
 ·rename_i h2
  rw [h] at h2
  cases h2
 ·rename_i h2
  rw [h] at h2
  cases h2
  rw [if_neg ha]
  split
  ·rename_i h3
   rw [hf] at h3
   cases h3
   rfl
  ·rename_i h3
   rw [hf] at h3
   cases h3
theorem readGo_ok {fs : List (List UInt8 × List UInt8)} {rest a b b' : List UInt8} {f : List UInt8 × List UInt8} (h : cutAt 10 rest = some (a,b)) (ha : deCr a ≠ []) (hf : fieldP fs.length (deCr a) b = .ok (f,b')) : readGo fs rest = readGo (fs ++ [f]) b' := by
 rw [readGo]
 split
 ·rename_i h2
  rw [h] at h2
  cases h2
 ·rename_i h2
  rw [h] at h2
  cases h2
  rw [if_neg ha]
  split
  ·rename_i h3
   rw [hf] at h3
   cases h3
  ·rename_i h3
   rw [hf] at h3
   cases h3
   rfl
end Fd
end
section
namespace Fd
open Go.RowKit
def restLen (g : Nat) (w : World) : Nat := match w.cell? ⟨g,0,none⟩ with
 | some (.slice _ n _) => n
 | _ => 0
theorem restLen_of {g : Nat} {w : World} {A : Option Addr} {n c : Nat} {f : Value} (h : Rd w g (.slice A n c) f) : restLen g w = n := by
 unfold restLen
 rw [h.cell (j := 0) rfl]
def In (N g : Nat) (B : Option Addr) (l : List UInt8) : Prop := 0 < l.length → ∃ b o,B = some ⟨b,o,none⟩ ∧ b < N ∧ b ≠ g
theorem In.sub {N g : Nat} {A B : Option Addr} {l m : List UInt8} (h : In N g A l) (hs : SB A B) (hl : 0 < m.length → 0 < l.length) (hB : 0 < m.length → ∃ b o,B = some ⟨b,o,none⟩) : In N g B m := fun hm => by
 obtain ⟨b,o,rfl⟩ := hB hm
 obtain ⟨o',rfl⟩ := hs b o rfl
 obtain ⟨b1,o1,e,h1,h2⟩ := h (hl hm)
 cases e
 exact ⟨b,o,rfl,h1,h2⟩
theorem _root_.Go.Proofs.YtkllecicddfjpaaGreatDoor.Rb.plain {w : World} {A : Option Addr} {l : List UInt8} (h : Rb w A l) (hl : 0 < l.length) : ∃ b o,A = some ⟨b,o,none⟩ := by
 obtain ⟨b,o,e,_⟩ := h (by simpa using hl)
 exact ⟨b,o,e⟩
theorem Rd.grown {w w1 : World} {g : Nat} {r f : Value} {row : Option Nat} (h : Rd w g r f) (hg : w.grownBy w1 row) (hne : row ≠ some g) : Rd w1 g r f := Row.block h (hg.block g h.lt (fun e => hne e.symm))
theorem _root_.Go.Proofs.YtkllecicddfjpaaGreatDoor.Rb.grownIn {w w1 : World} {N g : Nat} {row : Option Nat} {A : Option Addr} {l : List UInt8} (hA : Rb w A l) (hg : w.grownBy w1 row) (hi : In N g A l) (hr : ∀ k,row = some k → N ≤ k ∨ k = g) : Rb w1 A l := fun hp => by
 obtain ⟨b,o,rfl,hc⟩ := hA hp
 obtain ⟨b',o',e,hb,hb2⟩ := hi (by simpa using hp)
 cases e
 exact ⟨b,o,rfl,fun j v hj => hg.cell (hc j v hj) (fun e => by rcases hr b e.symm with h | h <;> omega)⟩
theorem rdval_any (g : Nat) (A F : Option Addr) (l first : List UInt8) (n c m d : Nat) (fv : Value) (w : World) (hn : l.length = n) (hm : first.length = m) (hR : Rd w g (.slice A n c) fv) (hf : ∀ k z,fv ≠ .int k z) (hA : Rb w A l) (hnc : n ≤ c) (hpl : Pl A c)
  (hI : In w.heap.size g A l) (hF : Rb w F first) (hmd : m ≤ d) (hpf : Pl F d) (hb : n ≤ 1000000) (hbm : m ≤ 1000000) :
  Calls Tryz.prog 151 #[.pointer (some ⟨g,0,none⟩),.slice F m d] w fun e w' => ((∃ v b B c',valGo first l = some (v,b) ∧ e = .returned (.tuple #[.string (bs (trimB v)),.bool true]) ∧ Rd w' g (.slice B b.length c') fv ∧ Rb w' B b ∧ b.length ≤ c' ∧ Pl B c' ∧ SB A B) ∨
   (valGo first l = none ∧ e = .returned (.tuple #[.string ⟨#[]⟩,.bool false]))) ∧ w.grownBy w' (some g) := by
 have HM := Lib.hid hm
 have HN := Lib.hid hn
 have HR := Lib.hid hR
 have hgl := hR.lt
 clear hn hm hR
 go_enter Tryz.func151,Tryz.ntmps151
 go_wp2_with fail
 refine (clone_any F first m d w HM.out hF hmd hpf (by omega)).mono ?_
 rintro e w1 ⟨⟨x,rfl,hx⟩,hb1⟩
 go_wp2_with fail
 go_loopw [6] (fun x wr => ∃ (N : Nat) (acc rest : List UInt8) (B : Option Addr) (c' : Nat),wr.ownsRow w.heap.size 5 1 x N (acc.map bv) ∧ Hid (Rd wr g (.slice B rest.length c') fv) ∧ Rb wr B rest ∧ rest.length ≤ c' ∧ Pl B c' ∧ SB A B ∧ In w.heap.size g B rest ∧ Hid (valGo acc rest = valGo first l) ∧ Hid (w.grownBy wr (some g)) ∧ N + rest.length ≤ m + n) (fun _ wr => restLen g wr)
 case atStart => exact ⟨m,first,l,A,c,hx,Lib.hid (by rw [HN.out]; exact HR.out.below hb1),hA.below hb1,by rw [HN.out]; exact hnc,hpl,SB.refl _,hI,Lib.hid rfl,Lib.hid (grown_of_below hb1 _),by rw [HN.out]; omega⟩
 case round =>
  obtain ⟨N,acc,rest,B,c',hown,hRd,hRb,hbc,hplB,hsb,hIn,hgo,hgr,hlen⟩ := hrel
  have hs1 := hgr.out.size
  have c0 : wr.cell? ⟨g,0,none⟩ = some (.slice B rest.length c') := hRd.out.cell rfl
  have hxg := hown.lt
  have hown4 := hown
  obtain ⟨XA,xc,rfl,hxc,_,hXR,hXl⟩ := own_form hown
  have hXl2 : acc.length = N := by simpa using hXl
  have hXRb : Rb wr XA acc := hXR
  have HXL := Lib.hid hXl2
  have hcv := conv_str (P := Tryz.prog) (src := 22) (dst := 9) (e := 5) Tryz.underlying22 Tryz.underlying5 Tryz.underlying9 (n := N) (c := xc) hXRb hXl2
  have hML := restLen_of hRd.out
  clear hXl hXl2 hXR
  by_cases hmore : ∃ ch r,rest = ch :: r ∧ blk ch = true
  ·obtain ⟨ch,r,hre,hbk⟩ := hmore
   have hpos : 0 < rest.length := by rw [hre]; simp
   obtain ⟨b0,o0,y,rfl,hy,hcy⟩ := hRb.one (k := 0) hpos
   obtain rfl : y = ch := by have := hy.out; rw [hre] at this; simpa using this.symm
   rw [Nat.add_zero] at hcy
   have HBK := Lib.hid hbk
   clear hy
   have hlp : (0 : Int) < (rest.length : Int) := by omega
   have hng : (Value.slice XA N xc).ownBlock = none ∨ (Value.slice XA N xc).ownBlock ≠ some g := by
    right
    intro e
    have := hxg g e
    omega
   have HXG := Lib.hid hxg
   clear hxg hcv
   go_wp2_with (go_at_call 171; refine (fblank_any y _).mono ?_; rintro e wz ⟨rfl,rfl⟩; rw [HBK.out])
   refine (line_any g _ rest _ c' fv wr rfl hRd.out hf hRb hbc hplB (by omega)).mono ?_
   rintro e w2 ⟨hl2,hg2⟩
   unfold LineOut at hl2
   have hgg := grown_trans hgr.out hg2 (fun j h => .inl (Option.some.inj h).symm)
   cases hc : cutAt 10 rest with
   | none =>
    rw [hc] at hl2
    obtain ⟨rfl,_⟩ := hl2
    have hv : valGo first l = none := by
     rw [← hgo.out]
     subst hre
     exact valGo_none HBK.out hc
    have HV := Lib.hid hv
    clear hv hre
    go_wp2_with fail
    go_ret2
    exact ⟨.inr ⟨HV.out,rfl⟩,hgg⟩
   | some p =>
    obtain ⟨a,b⟩ := p
    rw [hc] at hl2
    obtain ⟨B2,d2,rfl,hRd2,hRa2,hRb2,hbd2,hplB2,hsb2⟩ := hl2
    have hv : valGo (acc ++ deCr a) b = valGo first l := by
     rw [← hgo.out]
     subst hre
     exact (valGo_more HBK.out hc).symm
    have hcl := cutAt_lt hc
    have hdl := deCr_len a
    have hown2 := hown4.kept hg2 hng
    have hs2 := hg2.size
    have HV := Lib.hid hv
    have HRD2 := Lib.hid hRd2
    have HC := Lib.hid hc
    clear hv hre hRd2 hc
    go_wp2_with (at_builtin; refine wpList_app rfl (.tmp 33) (.tmp 34) _ _ rfl TU8 hown2 rfl (Src_rb Tryz.underlying22 rfl hRa2) rfl (by omega) (by omega) ?_; intro v3 w3 hown3 hgr3 hat3)
    have hIn2 := hIn.sub (m := b) hsb2 (fun _ => hpos) (fun h => hRb2.plain h)
    have hne3 : (Value.slice XA N xc).ownBlock ≠ some g := by
     intro e
     have := HXG.out g e
     omega
    have hRd3 := HRD2.out.grown hgr3 hne3
    go_roundw
    case rel => exact ⟨N + (deCr a).length,acc ++ deCr a,b,B2,d2,by rw [List.map_append]; exact hown3,Lib.hid hRd3,hRb2.grownIn hgr3 hIn2 (fun k e => .inl (HXG.out k e).1),hbd2,hplB2,hsb.trans hsb2,hIn2,HV,Lib.hid (grown_trans hgg hgr3 (fun j e => .inr (HXG.out j e).1)),by omega⟩
    case measure => rw [restLen_of hRd3,hML]; omega
  ·have hstop : valGo acc rest = some (acc,rest) := by
    match rest,hmore with
    | [],_ => exact valGo_nil acc
    | ch :: r,h => exact valGo_stop (by cases hb : blk ch with | false => rfl | true => exact absurd ⟨ch,r,rfl,hb⟩ h)
   have hv : valGo first l = some (acc,rest) := by rw [← hgo.out,hstop]
   have HV := Lib.hid hv
   have hal : acc.length ≤ 2000000 := by rw [HXL.out]; omega
   clear hstop hv hgo hxg hown4
   rcases (by omega : rest.length = 0 ∨ 0 < rest.length) with h0 | hpos
   ·go_wp2_with fail
    refine (trim_any acc wr (by omega)).mono ?_
    rintro e w2 ⟨rfl,hb2⟩
    go_wp2_with fail
    go_ret2
    exact ⟨.inl ⟨acc,rest,B,c',HV.out,rfl,hRd.out.below hb2,hRb.below hb2,hbc,hplB,hsb⟩,grown_below hgr.out hb2⟩
   ·obtain ⟨b0,o0,y,rfl,hy,hcy⟩ := hRb.one (k := 0) hpos
    rw [Nat.add_zero] at hcy
    have hbk : blk y = false := by
     cases hb : blk y with
     | false => rfl
     | true =>
      match rest,hmore,hy.out with
      | ch :: r,h,e =>
       simp at e
       subst e
       exact absurd ⟨_,_,rfl,hb⟩ h
    have HBK := Lib.hid hbk
    have hlp : (0 : Int) < (rest.length : Int) := by omega
    clear hbk hmore
    go_wp2_with (go_at_call 171; refine (fblank_any y _).mono ?_; rintro e wz ⟨rfl,rfl⟩; rw [HBK.out])
    refine (trim_any acc wr (by omega)).mono ?_
    rintro e w2 ⟨rfl,hb2⟩
    go_wp2_with fail
    go_ret2
    exact ⟨.inl ⟨acc,rest,_,c',HV.out,rfl,hRd.out.below hb2,hRb.below hb2,hbc,hplB,hsb⟩,grown_below hgr.out hb2⟩
end Fd
end
section
namespace Fd
def turnAt (cur : List UInt8) (c : UInt8) : Bool := blk c && (match cur.getLast? with | some p => !blk p | none => false)
def pcsGo (cur : List UInt8) : List UInt8 → List (List UInt8)
 | [] => [cur]
 | c :: r => if turnAt cur c then cur :: pcsGo [c] r else pcsGo (cur ++ [c]) r
def pcs (v : List UInt8) : List (List UInt8) := pcsGo [] v
def wrapGo (line : Nat) (first : Bool) : List (List UInt8) → List UInt8
 | [] => [13,10]
 | p :: ps => if first = false ∧ 76 < line + p.length then [13,10] ++ p ++ wrapGo p.length false ps else p ++ wrapGo (line + p.length) false ps
def foldF (n v : List UInt8) : List UInt8 := n ++ [58,32] ++ wrapGo (n.length + 2) true (pcs v)
theorem pcsGo_flat : ∀ (r cur : List UInt8),(pcsGo cur r).flatten = cur ++ r
 | [],cur => by simp [pcsGo]
 | c :: r,cur => by
  unfold pcsGo
  split
  ·rw [List.flatten_cons,pcsGo_flat r [c]]
   rfl
  ·rw [pcsGo_flat r (cur ++ [c])]
   simp
theorem pcs_flat (v : List UInt8) : (pcs v).flatten = v := by rw [pcs,pcsGo_flat]; rfl
def refGo (line : Nat) (prev : UInt8) : List UInt8 → List UInt8
 | [] => [13,10]
 | c :: r => if blk c = true ∧ blk prev = false ∧ 76 < line + ((pcsGo [c] r).headD []).length then [13,10,c] ++ refGo 1 c r else c :: refGo (line + 1) c r
theorem refGo_turn {line : Nat} {prev c : UInt8} {r : List UInt8} (h : blk c = true ∧ blk prev = false ∧ 76 < line + ((pcsGo [c] r).headD []).length) : refGo line prev (c :: r) = [13,10,c] ++ refGo 1 c r := by rw [refGo,if_pos h]
theorem refGo_on {line : Nat} {prev c : UInt8} {r : List UInt8} (h : ¬ (blk c = true ∧ blk prev = false ∧ 76 < line + ((pcsGo [c] r).headD []).length)) : refGo line prev (c :: r) = c :: refGo (line + 1) c r := by rw [refGo,if_neg h]
theorem wrapGo_turn {line : Nat} {p : List UInt8} {ps : List (List UInt8)} (h : 76 < line + p.length) : wrapGo line false (p :: ps) = [13,10] ++ p ++ wrapGo p.length false ps := by rw [wrapGo,if_pos ⟨rfl,h⟩]
theorem wrapGo_go {line : Nat} {first : Bool} {p : List UInt8} {ps : List (List UInt8)} (h : ¬ (first = false ∧ 76 < line + p.length)) : wrapGo line first (p :: ps) = p ++ wrapGo (line + p.length) false ps := by rw [wrapGo,if_neg h]
theorem pcsGo_cur : ∀ (r cur : List UInt8),∃ x ps,pcsGo cur r = (cur ++ x) :: ps
 | [],cur => ⟨[],[],by simp [pcsGo]⟩
 | c :: r,cur => by
  unfold pcsGo
  split
  ·exact ⟨[],_,by rw [List.append_nil]⟩
  ·obtain ⟨x,ps,h⟩ := pcsGo_cur r (cur ++ [c])
   exact ⟨c :: x,ps,by rw [h]; simp⟩
theorem refGo_eq : ∀ (r cur : List UInt8) (p : UInt8) (line : Nat) (x : List UInt8) (ps : List (List UInt8)),cur.getLast? = some p → pcsGo cur r = (cur ++ x) :: ps → refGo line p r = x ++ wrapGo (line + x.length) false ps
 | [],cur,p,line,x,ps,hp,h => by
  simp only [pcsGo,List.cons.injEq,List.self_eq_append_right] at h
  obtain ⟨rfl,rfl⟩ := h
  rfl
 | c :: r,cur,p,line,x,ps,hp,h => by
  have ht : turnAt cur c = (blk c && !blk p) := by unfold turnAt; rw [hp]
  unfold pcsGo at h
  rw [ht] at h
  by_cases hb : blk c = true ∧ blk p = false
  ·rw [if_pos (by simp [hb])] at h
   simp only [List.cons.injEq,List.self_eq_append_right] at h
   obtain ⟨rfl,rfl⟩ := h
   obtain ⟨x',ps',h'⟩ := pcsGo_cur r [c]
   have hh : (pcsGo [c] r).headD [] = [c] ++ x' := by rw [h']; rfl
   have ih := fun line => refGo_eq r [c] c line x' ps' rfl h'
   by_cases hw : 76 < line + ([c] ++ x').length
   ·rw [refGo_turn ⟨hb.1,hb.2,by rw [hh]; exact hw⟩,h',List.length_nil,Nat.add_zero,wrapGo_turn hw,ih 1]
    simp [Nat.add_comm]
   ·rw [refGo_on (fun k => hw (by have := k.2.2; rwa [hh] at this)),h']
    show _ = wrapGo line false _
    rw [wrapGo_go (fun k => hw k.2),ih (line + 1)]
    simp [Nat.add_comm,Nat.add_left_comm]
  ·rw [if_neg (by simp only [Bool.and_eq_true,Bool.not_eq_true',not_and,Bool.not_eq_false]; intro h1; by_cases h2 : blk p = false; exact absurd ⟨h1,h2⟩ hb; simpa using h2)] at h
   obtain ⟨x',ps',h'⟩ := pcsGo_cur r (cur ++ [c])
   rw [h'] at h
   simp only [List.append_assoc,List.cons.injEq,List.append_cancel_left_eq] at h
   obtain ⟨hx,rfl⟩ := h
   have ih := refGo_eq r (cur ++ [c]) c (line + 1) x' ps' (by simp) h'
   rw [refGo_on (fun k => hb ⟨k.1,k.2.1⟩),ih,← hx]
   simp [Nat.add_comm,Nat.add_left_comm]
theorem foldF_ref (n v : List UInt8) : foldF n v = n ++ [58,32] ++ match v with
  | [] => [13,10]
  | c :: r => c :: refGo (n.length + 3) c r := by
 unfold foldF pcs
 congr 1
 match v with
 | [] => rfl
 | c :: r =>
  have h0 : pcsGo [] (c :: r) = pcsGo [c] r := by
   rw [pcsGo]
   have : turnAt [] c = false := by unfold turnAt; simp
   rw [this]
   rfl
  obtain ⟨x,ps,h⟩ := pcsGo_cur r [c]
  rw [h0,h]
  rw [wrapGo_go (by simp)]
  show _ = c :: refGo _ c r
  rw [refGo_eq r [c] c _ x ps rfl h]
  simp [Nat.add_comm,Nat.add_left_comm]
end Fd
end
end Go.Proofs.YtkllecicddfjpaaGreatDoor
