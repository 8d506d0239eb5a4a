/- The walk of the law, part 15. -/
import Derived.Test.YtkllecicddfjpaaGreatDoorJ12
import Derived.Test.YtkllecicddfjpaaGreatDoorJ14
import Derived.Test.YtkllecicddfjpaaGreatDoorJ02
import Derived.Deep.RegionHeld3
import Derived.Deep.RegionHeld
import Derived.Test.YtkllecicddfjpaaGreatDoorJ13
set_option maxRecDepth 100000
set_option maxHeartbeats 16000000
set_option linter.unusedVariables false
set_option linter.unusedSimpArgs false
namespace Go.Proofs.YtkllecicddfjpaaGreatDoor
section
namespace Fd
open Go.RowKit
theorem fsame2_any (a b : List UInt8) (w : World) (hT : Lib.Utf8Tabs 2 3 w) (hb : b.length ≤ 1000000000) :
  Calls Tryz.prog 160 #[.string (bs a),.string (bs b)] w fun e w' => e = .returned (.bool (sameN a b)) ∧ Below w.heap.size w w' := by
 by_cases hl : a.length = b.length
 ·exact fsame_any a b w hT (by omega) hb
 ·have hno := Lib.hid (sameN_len hl)
  have hbb : ((a.length : Int) != (b.length : Int)) = true := by rw [bne_iff_ne]; omega
  go_enter Tryz.func160,Tryz.ntmps160
  go_wp2_with fail
  go_ret
  exact ⟨ret_bool hno.out.symm,Below.refl _ _⟩
def hasV (B : Nat) : Value := .func (.func 159) #[] #[.pointer (some ⟨B,0,none⟩)]
theorem named_any (nm : List UInt8) (w : World) :
  Calls Tryz.prog 89 #[.string (bs nm)] w fun e w' => e = .returned (hasV w.heap.size) ∧ w' = w.alloc (.cells #[.string (bs nm)] 9) := by
 go_enter Tryz.func89,Tryz.ntmps89
 go_wp2_with fail
 go_ret
 exact ⟨rfl,rfl⟩
theorem eg_named : ∀ args w,(callFunc 159 args).run Tryz.prog w = .ok (.enter 159 args) w := enters_of Tryz.func159 (by kernel_rfl) rfl
theorem named1_any (p : List UInt8 × List UInt8) (nm : List UInt8) (B : Nat) (w : World) (hT : Lib.Utf8Tabs 2 3 w) (hc : w.cell? ⟨B,0,none⟩ = some (.string (bs nm))) (hn : nm.length ≤ 1000000000) :
  Calls Tryz.prog 159 #[.agg #[.string (bs p.1),.string (bs p.2)],.pointer (some ⟨B,0,none⟩)] w fun e w' => e = .returned (.bool (sameN p.1 nm)) ∧ Below w.heap.size w w' := by
 have hA0 : Below w.heap.size w (w.alloc (.cells #[.string (bs p.1),.string (bs p.2)] 73)) := (Below.refl _ _).alloc (Nat.le_refl _) _
 have hc2 : (w.alloc (.cells #[.string (bs p.1),.string (bs p.2)] 73)).cell? ⟨B,0,none⟩ = some (.string (bs nm)) := (hA0.cell (p := ⟨B,0,none⟩) (cell_lt hc)).trans hc
 have hT2 := tabs_below hT hA0
 go_enter Tryz.func159,Tryz.ntmps159
 go_wp2_with fail
 refine (fsame2_any p.1 nm _ hT2 hn).mono ?_
 rintro e w2 ⟨rfl,hb2⟩
 go_wp2_with fail
 go_ret
 exact ⟨rfl,hA0.trans (hb2.mono hA0.size)⟩
def ahead (nm : List UInt8) (fs : List (List UInt8 × List UInt8)) : Nat := (fs.takeWhile fun p => !sameN p.1 nm).length
theorem ahead_hit {nm : List UInt8} {p : List UInt8 × List UInt8} : ∀ {fs : List (List UInt8 × List UInt8)} {k : Nat},(∀ q ∈ fs.take k,sameN q.1 nm = false) → fs[k]? = some p → sameN p.1 nm = true → ahead nm fs = k
 | [],k,_,h,_ => by simp at h
 | q :: fs,0,_,h,hs => by
  simp at h
  subst h
  simp [ahead,hs]
 | q :: fs,k + 1,ha,h,hs => by
  have h1 : sameN q.1 nm = false := ha q (by simp)
  have ih := ahead_hit (fs := fs) (k := k) (fun x hx => ha x (by simp [hx])) (by simpa using h) hs
  unfold ahead at ih ⊢
  simp [List.takeWhile_cons,h1,ih]
theorem ahead_none {nm : List UInt8} {fs : List (List UInt8 × List UInt8)} (h : ∀ q ∈ fs,sameN q.1 nm = false) : ahead nm fs = fs.length := by
 unfold ahead
 induction fs with
 | nil => rfl
 | cons q fs ih =>
  have h1 := h q (by simp)
  simp [List.takeWhile_cons,h1,ih (fun x hx => h x (by simp [hx]))]
theorem ahead_le (nm : List UInt8) (fs : List (List UInt8 × List UInt8)) : ahead nm fs ≤ fs.length := (List.takeWhile_sublist _).length_le
def placeZ (nm : List UInt8) (fs : List (List UInt8 × List UInt8)) : Int := if ahead nm fs < fs.length then (ahead nm fs : Int) else -1
theorem index_any (A : Option Addr) (fs : List (List UInt8 × List UInt8)) (n c B : Nat) (nm : List UInt8) (w : World) (hn : fs.length = n) (hA : Rf w A fs) (hT : Lib.Utf8Tabs 2 3 w) (hc : w.cell? ⟨B,0,none⟩ = some (.string (bs nm))) (hnm : nm.length ≤ 1000000000) (hb : n ≤ 1000000) :
  Calls Tryz.prog 88 #[.slice A n c,hasV B] w fun e w' => e = .returned (.int .i64 (placeZ nm fs)) ∧ Below w.heap.size w w' := by
 have HN := Lib.hid hn
 have eg := eg_named
 unfold hasV
 clear hn
 go_enter Tryz.func88,Tryz.ntmps88
 go_wp2_with fail
 go_loopw [8] (fun i wr => ∃ k : Nat,i = .int .i64 k ∧ k ≤ n ∧ Hid (∀ q ∈ fs.take k,sameN q.1 nm = false) ∧ Below w.heap.size w wr) (fun i _ => n - (intOf i).toNat)
 case atStart => exact ⟨0,rfl,by omega,Lib.hid (by simp),Below.refl _ _⟩
 case round =>
  obtain ⟨k,rfl,hk,ha,hB⟩ := hrel
  by_cases hlt : k < n
  ·obtain ⟨b,o,p,rfl,hp,h0,h1⟩ := (hA.below hB).one (k := k) (by rw [HN.out]; exact hlt)
   have hcr : wr.cell? ⟨B,0,none⟩ = some (.string (bs nm)) := (hB.cell (p := ⟨B,0,none⟩) (cell_lt hc)).trans hc
   have hcall := named1_any p nm B wr (tabs_below hT hB) hcr hnm
   have hHit : sameN p.1 nm = true → Hid (placeZ nm fs = (k : Int)) := fun h => Lib.hid (by
    unfold placeZ
    rw [ahead_hit ha.out hp.out h,if_pos (lt_of_get hp.out)])
   have hMiss : sameN p.1 nm = false → Hid (∀ q ∈ fs.take (k + 1),sameN q.1 nm = false) := fun h => Lib.hid (by
    rw [take_succ_of hp.out]
    intro q hq
    rcases List.mem_append.1 hq with hq | hq
    ·exact ha.out q hq
    ·simp at hq
     rw [hq]
     exact h)
   cases hs : sameN p.1 nm with
   | true =>
    rw [hs] at hcall
    have HH := hHit hs
    clear hHit hMiss hs
    go_wp2_with fail
    refine hcall.mono ?_
    rintro e w2 ⟨rfl,hb2⟩
    go_wp2_with fail
    go_ret
    exact ⟨ret_int HH.out.symm,hB.trans (hb2.mono hB.size)⟩
   | false =>
    rw [hs] at hcall
    have HH := hMiss hs
    clear hHit hMiss hs
    go_wp2_with fail
    refine hcall.mono ?_
    rintro e w2 ⟨rfl,hb2⟩
    go_wp2_with fail
    go_roundw
    case rel => exact ⟨k + 1,by go_num,by omega,HH,hB.trans (hb2.mono hB.size)⟩
    case measure => simp [intOf]; omega
  ·obtain rfl : k = n := by omega
   have hno : placeZ nm fs = -1 := by
    have h := ha.out
    rw [List.take_of_length_le (by rw [HN.out]; omega)] at h
    unfold placeZ
    rw [ahead_none h,if_neg (by omega)]
   have HNO := Lib.hid hno
   clear hno
   go_wp2_with fail
   go_ret
   exact ⟨ret_int HNO.out.symm,hB⟩
end Fd
end
section
namespace Fd
open Go.RowKit
def keepF (nm : List UInt8) (fs : List (List UInt8 × List UInt8)) : List (List UInt8 × List UInt8) := fs.filter fun p => !sameN p.1 nm
theorem keepF_none {nm : List UInt8} {fs : List (List UInt8 × List UInt8)} (h : ahead nm fs = fs.length) : keepF nm fs = fs := by
 unfold keepF ahead at *
 rw [List.filter_eq_self]
 have e := (List.takeWhile_sublist (fun p : List UInt8 × List UInt8 => !sameN p.1 nm) (l := fs)).eq_of_length h
 intro p hp
 rw [← e] at hp
 exact List.all_eq_true.1 List.all_takeWhile p hp
theorem keepF_at {nm : List UInt8} : ∀ {fs : List (List UInt8 × List UInt8)},ahead nm fs < fs.length → ∃ p,fs[ahead nm fs]? = some p ∧ sameN p.1 nm = true
 | [],h => by simp at h
 | q :: fs,h => by
  cases hq : sameN q.1 nm with
  | true => exact ⟨q,by simp [ahead,hq],hq⟩
  | false =>
   have e : ahead nm (q :: fs) = ahead nm fs + 1 := by simp [ahead,List.takeWhile_cons,hq]
   rw [e] at h ⊢
   obtain ⟨p,hp,hs⟩ := keepF_at (fs := fs) (by simpa using h)
   exact ⟨p,by simpa using hp,hs⟩
end Fd
end
section
namespace Fd
open Go.RowKit
theorem strv_one (fs : List (List UInt8 × List UInt8)) : ∀ u ∈ fcells fs,u.oneCell' = true := by
 intro u hu
 unfold fcells at hu
 obtain ⟨p,_,hp⟩ := List.mem_flatMap.1 hu
 simp at hp
 rcases hp with rfl | rfl <;> rfl
theorem Src_rf {w : World} {A : Option Addr} {fs : List (List UInt8 × List UInt8)} {n c : Nat} (hn : fs.length = n) (h : Rf w A fs) : Src Tryz.prog 2 37 (.slice A n c) n (fcells fs) w :=
 Src_rv (e' := 73) Tryz.underlying37 (by rw [fcells_len,hn]) h (strv_one fs) (by omega)
end Fd
end
section
namespace Fd
open Go.RowKit
theorem own_rebase {w : World} {b b' e size n : Nat} {v : Value} {xs : List Value} (h : w.ownsRow b e size v n xs) (hb : b' ≤ b) : w.ownsRow b' e size v n xs := by
 refine ⟨h.1,?_⟩
 rcases h.2 with hn | ⟨g,cap,cur,hv,hbg,rest⟩
 ·exact .inl hn
 ·exact .inr ⟨g,cap,cur,hv,Nat.le_trans hb hbg,rest⟩
theorem size_any (A : Option Addr) (l : List UInt8) (n c : Nat) (w : World) (hn : l.length = n) (hA : Rb w A l) (hnc : n ≤ c) (hpl : Pl A c) (hb : n ≤ 1000000) :
  Calls Tryz.prog 83 #[.slice A n c] w fun e w' => (∃ (z : Nat) (q : Bool),z ≤ n ∧ e = .returned (.tuple #[.int .i64 z,.bool q])) ∧ Below w.heap.size w w' := by
 have HN := Lib.hid hn
 clear hn
 go_enter Tryz.func83,Tryz.ntmps83
 go_wp2_with fail
 have hR0 : Rd (w.alloc (.cells #[.slice A n c,.slice none 0 0] 124)) w.heap.size (.slice A n c) (.slice none 0 0) := Row.new w #[.slice A n c,.slice none 0 0] 124
 have hA0 : Below w.heap.size w (w.alloc (.cells #[.slice A n c,.slice none 0 0] 124)) := (Below.refl _ _).alloc (Nat.le_refl _) _
 go_loopw [5] (fun x wr => ∃ (rest : List UInt8) (B : Option Addr) (c' : Nat),Hid (Rd wr w.heap.size (.slice B rest.length c') (.slice none 0 0)) ∧ Rb wr B rest ∧ rest.length ≤ c' ∧ Pl B c' ∧ rest.length ≤ n ∧ Below w.heap.size w wr) (fun _ wr => restLen w.heap.size wr)
 case atStart => exact ⟨l,A,c,Lib.hid (by rw [HN.out]; exact hR0),hA.below hA0,by rw [HN.out]; exact hnc,hpl,by rw [HN.out]; omega,hA0⟩
 case round =>
  obtain ⟨rest,B,c',hRd,hRb,hbc,hplB,hrn,hB⟩ := hrel
  have hML := restLen_of hRd.out
  go_wp2_with fail
  refine (line_any w.heap.size B rest rest.length c' (.slice none 0 0) wr rfl hRd.out (fun _ _ h => by cases h) hRb hbc hplB (by omega)).mono ?_
  rintro e w2 ⟨hl2,hg2⟩
  have hB2 := hB.trans (below_grown hg2 (Nat.le_refl _) hB.size)
  unfold LineOut at hl2
  cases hc : cutAt 10 rest with
  | none =>
   rw [hc] at hl2
   obtain ⟨rfl,_⟩ := hl2
   clear hc
   go_wp2_with fail
   go_ret2
   exact ⟨⟨n,false,Nat.le_refl _,rfl⟩,hB2⟩
  | some p =>
   obtain ⟨a,b⟩ := p
   rw [hc] at hl2
   obtain ⟨B2,d2,rfl,hRd2,hRa2,hRb2,hbd2,hplB2,hsb2⟩ := hl2
   have hcl := cutAt_lt hc
   have c20 : w2.cell? ⟨w.heap.size,0,none⟩ = some (.slice B2 b.length d2) := hRd2.cell rfl
   have HRD2 := Lib.hid hRd2
   clear hRd2 hc hR0
   by_cases h0 : (deCr a).length = 0
   ·go_wp2_with fail
    go_ret2
    exact ⟨⟨n - b.length,true,by omega,by rw [show ((n - b.length : Nat) : Int) = (n : Int) - (b.length : Int) by omega]; rfl⟩,hB2⟩
   ·have h0b : (((deCr a).length : Int) == 0) = false := by rw [beq_eq_false_iff_ne]; omega
    go_wp2_with fail
    go_roundw
    case rel => exact ⟨b,B2,d2,HRD2,hRb2,hbd2,hplB2,by omega,hB2⟩
    case measure => rw [restLen_of HRD2.out,hML]; omega
theorem fieldP_room {k : Nat} {line rest b : List UInt8} {f : List UInt8 × List UInt8} (h : fieldP k line rest = .ok (f,b)) : k ≠ 200 := by
 rintro rfl
 unfold fieldP at h
 split at h
 ·cases h
 ·split at h
  ·rw [if_pos rfl] at h
   cases h
  ·cases h
def ReadOut (l : List UInt8) (w : World) (e : Ending) (w' : World) : Prop :=
 (match readGo [] l with
 | .error x => e = .returned (.tuple #[.slice none 0 0,.slice none 0 0,.int .i64 (x : Int)])
 | .ok (fs,b) => ∃ fv v2,e = .returned (.tuple #[fv,v2,.int .i64 0]) ∧ w'.ownsRow w.heap.size 73 2 fv fs.length (fcells fs) ∧ w'.ownsRow w.heap.size 5 1 v2 b.length (b.map bv)) ∧ Below w.heap.size w w'
theorem fieldP_code {k : Nat} {line rest : List UInt8} {x : Nat} (h : fieldP k line rest = .error x) : x = 3 ∨ x = 4 := by
 unfold fieldP at h
 split at h
 ·cases h; exact .inl rfl
 ·split at h
  ·split at h
   ·cases h; exact .inr rfl
   ·split at h
    ·cases h; exact .inl rfl
    ·split at h
     ·cases h; exact .inr rfl
     ·split at h
      ·cases h
      ·cases h; exact .inl rfl
  ·cases h; exact .inl rfl
theorem read_any (A : Option Addr) (l : List UInt8) (n c : Nat) (w : World) (hn : l.length = n) (hA : Rb w A l) (hnc : n ≤ c) (hpl : Pl A c) (hb : n ≤ 65536) :
  Calls Tryz.prog 40 #[.slice A n c] w (ReadOut l w) := by
 have HN := Lib.hid hn
 clear hn
 go_enter Tryz.func40,Tryz.ntmps40
 go_wp2_with fail
 refine (size_any A l n c w HN.out hA hnc hpl (by omega)).mono ?_
 rintro e w1 ⟨⟨z,q,hz,rfl⟩,hb1⟩
 have hzi : ¬ (65536 : Int) < (z : Int) := by omega
 have hs1 := hb1.size
 have hA1 := hA.below hb1
 have hI1 : In w.heap.size w1.heap.size A l := fun h => by
  obtain ⟨b,o,x,e,_,hc⟩ := hA.one h
  have h1 : b < w.heap.size := cell_lt hc
  exact ⟨b,o,e,h1,by omega⟩
 have hR0 : Rd (w1.alloc (.cells #[.slice A n c,.slice none 0 0] 124)) w1.heap.size (.slice A n c) (.slice none 0 0) := Row.new w1 #[.slice A n c,.slice none 0 0] 124
 have hA0 : Below w.heap.size w (w1.alloc (.cells #[.slice A n c,.slice none 0 0] 124)) := hb1.alloc hs1 _
 go_wp2_with fail
 obtain ⟨g,hg⟩ : ∃ g,w1.heap.size = g := ⟨_,rfl⟩
 rw [hg] at hR0 hI1 hs1 ⊢
 have hgl : g < (w1.alloc (.cells #[.slice A n c,.slice none 0 0] 124)).heap.size := hR0.lt
 clear hg
 go_loopw [8] (fun _ wr => ∃ (fs : List (List UInt8 × List UInt8)) (rest : List UInt8) (B : Option Addr) (c' k : Nat) (fv : Value),Hid (Rd wr g (.slice B rest.length c') fv) ∧ wr.ownsRow w.heap.size 73 2 fv k (fcells fs) ∧ fs.length = k ∧ k ≤ 200 ∧ fv.ownBlock ≠ some g ∧ Rb wr B rest ∧ rest.length ≤ c' ∧ Pl B c' ∧ In w.heap.size g B rest ∧ rest.length ≤ n ∧ Hid (readGo fs rest = readGo [] l) ∧ Below w.heap.size w wr) (fun _ wr => restLen g wr)
 case atStart => exact ⟨[],l,A,c,0,.slice none 0 0,Lib.hid (by rw [HN.out]; exact hR0),World.ownsRow_nil _ _ _ _,rfl,by omega,by simp [Value.ownBlock],hA.below hA0,by rw [HN.out]; exact hnc,hpl,hI1,by rw [HN.out]; omega,Lib.hid rfl,hA0⟩
 case round =>
  obtain ⟨fs,rest,B,c',k,fv,hRd,hfv,hfk,hk,hfg,hRb,hbc,hplB,hIn,hrn,hgo,hB⟩ := hrel
  have hML := restLen_of hRd.out
  have hfv0 := hfv
  obtain ⟨fA,fc,rfl,_,_,_,_⟩ := own_form hfv
  clear hfv
  go_wp2_with fail
  refine (line_any g B rest rest.length c' (.slice fA k fc) wr rfl hRd.out (fun _ _ h => by cases h) hRb hbc hplB (by omega)).mono ?_
  rintro e w2 ⟨hl2,hg2⟩
  have hB2 := hB.trans (below_grown hg2 hs1 hB.size)
  have hfv2 := hfv0.kept hg2 (.inr hfg)
  have hs2 : w.heap.size ≤ w2.heap.size := hB2.size
  unfold LineOut at hl2
  cases hc : cutAt 10 rest with
  | none =>
   rw [hc] at hl2
   obtain ⟨rfl,_⟩ := hl2
   have hr : readGo [] l = .error 3 := by rw [← hgo.out]; exact readGo_none hc
   have HRR := Lib.hid hr
   clear hc hr hgo
   go_wp2_with fail
   go_ret3
   exact ⟨by rw [HRR.out]; rfl,hB2⟩
  | some p =>
   obtain ⟨a,b⟩ := p
   rw [hc] at hl2
   obtain ⟨B2,d2,rfl,hRd2,hRa2,hRb2,hbd2,hplB2,hsb2⟩ := hl2
   have hcl := cutAt_lt hc
   have hdl := deCr_len a
   have c20 : w2.cell? ⟨g,0,none⟩ = some (.slice B2 b.length d2) := hRd2.cell rfl
   have c21 : w2.cell? ⟨g,1,none⟩ = some (.slice fA k fc) := hRd2.cell rfl
   have HRD2 := Lib.hid hRd2
   have HC := Lib.hid hc
   clear hRd2 hc hR0
   by_cases h0 : deCr a = []
   ·have hr : readGo [] l = .ok (fs,b) := by rw [← hgo.out]; exact readGo_end HC.out h0
    have h0l : (deCr a).length = 0 := by rw [h0]; rfl
    have HRR := Lib.hid hr
    have HFK := Lib.hid hfk
    clear hr hgo h0 hfk
    have hcl2 : Calls Tryz.prog 63 #[.slice B2 b.length d2] w2.drew fun e w' => (∃ v,e = .returned v ∧ w'.ownsRow w2.heap.size 5 1 v b.length (b.map bv)) ∧ Below w2.heap.size w2 w' :=
     (clone_any B2 b b.length d2 w2.drew rfl (hRb2.drewN 1) hbd2 hplB2 (by omega)).mono fun e w' h => ⟨h.1,(Dn.below ((Dn.refl w2).drew) w2.heap.size).trans h.2⟩
    go_wp2_with fail
    go_region_held3 (fun w' => w'.cell? ⟨g,0,none⟩ = some (.slice B2 b.length d2) ∧ w'.cell? ⟨g,1,none⟩ = some (.slice fA k fc)) (exact ⟨by assumption,by assumption⟩)
     (first
     | (go_at_call 63; refine hcl2.mono ?_; rintro e w3 ⟨⟨v2,rfl,hv2⟩,hb3⟩; have c30 := (hb3.cell (p := ⟨g,0,none⟩) (cell_lt c20)).trans c20; have c31 := (hb3.cell (p := ⟨g,1,none⟩) (cell_lt c21)).trans c21))
    go_wp2_with fail
    go_ret3
    refine ⟨?_,hB2.trans (hb3.mono hs2)⟩
    rw [HRR.out]
    exact ⟨_,_,rfl,by rw [HFK.out]; exact own_below hfv2 hb3,own_rebase hv2 hs2⟩
   ·have h0b : (((deCr a).length : Int) == 0) = false := by
     rw [beq_eq_false_iff_ne]
     intro e
     exact h0 (List.eq_nil_of_length_eq_zero (by omega))
    have hInB : In w.heap.size g B2 b := hIn.sub (m := b) hsb2 (fun _ => by omega) (fun h => hRb2.plain h)
    have hInL : In w.heap.size g B (deCr a) := hIn.sub (m := deCr a) (SB.refl B) (fun _ => by omega) (fun h => hRa2.plain h)
    go_wp2_with fail
    refine (rdfield_any w.heap.size g B2 B b (deCr a) fs b.length d2 (deCr a).length c' k (.slice fA k fc) w2 rfl rfl HRD2.out hfv2 hfg hs1 hs2 hRb2 hbd2 hplB2 hInB hRa2 hInL (by omega) hplB hk (by omega) (by omega)).mono ?_
    rintro e w3 ⟨hfo,hb3⟩
    have hB3 := hB2.trans hb3
    unfold FieldOut at hfo
    cases hf : fieldP k (deCr a) b with
    | error x =>
     rw [hf] at hfo
     subst hfo
     have hr : readGo [] l = .error x := by rw [← hgo.out]; exact readGo_err HC.out h0 (by rw [hfk]; exact hf)
     have HRR := Lib.hid hr
     rcases fieldP_code hf with rfl | rfl
     all_goals
      clear hr hgo hf
      go_wp2_with fail
      go_ret3
      exact ⟨by rw [HRR.out]; rfl,hB3⟩
    | ok p =>
     obtain ⟨f,b'⟩ := p
     rw [hf] at hfo
     obtain ⟨rfl,C,d3,fv',hR3,hRb3,hbd3,hplC,hsbC,hfv3,hfg3⟩ := hfo
     have hr : readGo (fs ++ [f]) b' = readGo [] l := by rw [← hgo.out]; exact (readGo_ok HC.out h0 (by rw [hfk]; exact hf)).symm
     have hroom := fieldP_room hf
     have hbr := fieldP_rest hf
     have HRR := Lib.hid hr
     have HR3 := Lib.hid hR3
     clear hr hgo hf hR3
     go_wp2_with fail
     go_roundw
     case rel => exact ⟨fs ++ [f],b',C,d3,k + 1,fv',HR3,hfv3,by simp [hfk],by omega,hfg3,hRb3,hbd3,hplC,hInB.sub (m := b') hsbC (fun _ => by omega) (fun h => hRb3.plain h),by omega,HRR,hB3⟩
     case measure => rw [restLen_of HR3.out,hML]; omega
end Fd
end
section
namespace Fd
open Go.RowKit
end Fd
end
section
namespace Fd
def eol (b : Bool) : List UInt8 := if b then [13,10] else [10]
def plain (s : List UInt8) : Prop := ∀ c ∈ s,c ≠ 10 ∧ c ≠ 13
def segT (ss : List (List UInt8 × Bool)) : List UInt8 := ss.flatMap fun p => p.1 ++ eol p.2
def segV (ss : List (List UInt8 × Bool)) : List UInt8 := ss.flatMap fun p => p.1
def further (ss : List (List UInt8 × Bool)) : Prop := ∀ p ∈ ss,plain p.1 ∧ ∃ c r,p.1 = c :: r ∧ blk c = true
theorem cutAt_of {s : UInt8} {a b : List UInt8} (h : s ∉ a) : cutAt s (a ++ s :: b) = some (a,b) := by
 induction a with
 | nil => simp [cutAt]
 | cons c r ih =>
  simp only [List.mem_cons,not_or] at h
  rw [List.cons_append,cutAt,if_neg (Ne.symm h.1),ih h.2]
  rfl
theorem deCr_plain {s : List UInt8} (h : plain s) : deCr s = s := by
 unfold deCr
 rw [if_neg]
 intro e
 have := List.mem_of_getLast? e
 exact (h 13 this).2 rfl
theorem deCr_cr (s : List UInt8) : deCr (s ++ [13]) = s := by
 unfold deCr
 rw [if_pos (by simp)]
 simp
theorem cut_eol {s : List UInt8} (h : plain s) (b : Bool) (more : List UInt8) : ∃ a,cutAt 10 (s ++ eol b ++ more) = some (a,more) ∧ deCr a = s := by
 cases b with
 | true =>
  refine ⟨s ++ [13],?_,deCr_cr s⟩
  have : s ++ eol true ++ more = (s ++ [13]) ++ 10 :: more := by simp [eol]
  rw [this]
  exact cutAt_of (by
   intro hm
   rcases List.mem_append.1 hm with h1 | h1
   ·exact (h 10 h1).1 rfl
   ·simp at h1)
 | false =>
  refine ⟨s,?_,deCr_plain h⟩
  have : s ++ eol false ++ more = s ++ 10 :: more := by simp [eol]
  rw [this]
  exact cutAt_of (fun hm => (h 10 hm).1 rfl)
def stops (rest : List UInt8) : Prop := rest = [] ∨ ∃ c r,rest = c :: r ∧ blk c = false
theorem valGo_stops {acc rest : List UInt8} (h : stops rest) : valGo acc rest = some (acc,rest) := by
 rcases h with rfl | ⟨c,r,rfl,hc⟩
 ·exact valGo_nil acc
 ·exact valGo_stop hc
theorem valGo_segs : ∀ (ss : List (List UInt8 × Bool)) (acc rest : List UInt8),further ss → stops rest → valGo acc (segT ss ++ rest) = some (acc ++ segV ss,rest)
 | [],acc,rest,_,hr => by
  simp only [segT,segV,List.flatMap_nil,List.nil_append,List.append_nil]
  exact valGo_stops hr
 | (s,b) :: ss,acc,rest,hs,hr => by
  obtain ⟨hp,c,r,hc,hb⟩ := hs (s,b) (by simp)
  have ih := valGo_segs ss (acc ++ s) rest (fun p hp => hs p (by simp [hp])) hr
  obtain ⟨a,ha,hd⟩ := cut_eol hp b (segT ss ++ rest)
  have e : segT ((s,b) :: ss) ++ rest = s ++ eol b ++ (segT ss ++ rest) := by simp [segT]
  rw [e]
  simp only at hc
  subst hc
  have e2 : c :: r ++ eol b ++ (segT ss ++ rest) = c :: (r ++ eol b ++ (segT ss ++ rest)) := rfl
  rw [e2] at ha ⊢
  rw [valGo_more hb ha,hd,ih]
  simp [segV]
theorem nm_no58 {nm : List UInt8} (h : nmOk nm = true) : 58 ∉ nm := by
 intro hm
 unfold nmOk at h
 rw [Bool.and_eq_true,List.all_eq_true] at h
 exact ((nmc_iff 58).1 (h.1 58 hm)).2.2 rfl
theorem field_read {k : Nat} {nm s0 v rest : List UInt8} {ss : List (List UInt8 × Bool)} (hk : k ≠ 200) (hn : nmOk nm = true) (hs : further ss) (hr : stops rest) (hv : trimB (s0 ++ segV ss) = v) (hl : v.length ≤ 8192) (hg : v.all sgc = true) :
  fieldP k (nm ++ 58 :: s0) (segT ss ++ rest) = .ok ((nm,v),rest) := by
 unfold fieldP
 rw [cutAt_of (nm_no58 hn)]
 simp only [hn,if_true,if_neg hk,valGo_segs ss s0 rest hs hr,hv]
 rw [if_neg (by omega),if_pos hg]
inductive HeadT : List (List UInt8 × List UInt8) → List UInt8 → Prop
 | nil : HeadT [] []
 | cons (nm v s0 t : List UInt8) (e : Bool) (ss : List (List UInt8 × Bool)) (fs : List (List UInt8 × List UInt8)) (hn : nmOk nm = true) (hp : plain s0) (hs : further ss) (hv : trimB (s0 ++ segV ss) = v) (hl : v.length ≤ 8192) (hg : v.all sgc = true)
   (h : HeadT fs t) : HeadT ((nm,v) :: fs) (nm ++ 58 :: s0 ++ eol e ++ segT ss ++ t)
theorem HeadT.append {fs gs : List (List UInt8 × List UInt8)} {t u : List UInt8} (h : HeadT fs t) (k : HeadT gs u) : HeadT (fs ++ gs) (t ++ u) := by
 induction h with
 | nil => exact k
 | cons nm v s0 t e ss fs hn hp hs hv hl hg h ih =>
  have := HeadT.cons nm v s0 (t ++ u) e ss (fs ++ gs) hn hp hs hv hl hg ih
  rw [← List.append_assoc] at this
  exact this
theorem nm_plain {nm : List UInt8} (h : nmOk nm = true) : plain nm := by
 intro c hc
 unfold nmOk at h
 rw [Bool.and_eq_true,List.all_eq_true] at h
 have := (nmc_iff c).1 (h.1 c hc)
 constructor
 ·rintro rfl
  simp at this
 ·rintro rfl
  simp at this
theorem nm_head {nm : List UInt8} (h : nmOk nm = true) : ∃ c r,nm = c :: r ∧ blk c = false := by
 match nm,h with
 | c :: r,h =>
  refine ⟨c,r,rfl,?_⟩
  unfold nmOk at h
  rw [Bool.and_eq_true,List.all_eq_true] at h
  have h1 := (nmc_iff c).1 (h.1 c (by simp))
  have h2 := blk_iff c
  cases hb : blk c with
  | false => rfl
  | true =>
   have := h2.1 hb
   omega
theorem HeadT.stops {fs : List (List UInt8 × List UInt8)} {t : List UInt8} (h : HeadT fs t) (e : Bool) (rest : List UInt8) : stops (t ++ eol e ++ rest) := by
 cases h with
 | nil =>
  cases e
  ·exact .inr ⟨10,rest,rfl,by decide⟩
  ·exact .inr ⟨13,10 :: rest,rfl,by decide⟩
 | cons nm v s0 t e0 ss fs hn hp hs hv hl hg h =>
  obtain ⟨c,r,rfl,hb⟩ := nm_head hn
  exact .inr ⟨c,_,rfl,hb⟩
theorem readGo_head {fs : List (List UInt8 × List UInt8)} {t : List UInt8} (h : HeadT fs t) : ∀ (acc : List (List UInt8 × List UInt8)) (e : Bool) (rest : List UInt8),acc.length + fs.length ≤ 200 → readGo acc (t ++ eol e ++ rest) = .ok (acc ++ fs,rest) := by
 induction h with
 | nil =>
  intro acc e rest _
  obtain ⟨a,ha,hd⟩ := cut_eol (s := []) (by intro c hc; simp at hc) e rest
  rw [List.nil_append] at ha ⊢
  rw [readGo_end ha hd,List.append_nil]
 | cons nm v s0 t e0 ss fs hn hp hs hv hl hg h ih =>
  intro acc e rest hk
  have hpl : plain (nm ++ 58 :: s0) := by
   intro c hc
   rcases List.mem_append.1 hc with h1 | h1
   ·exact nm_plain hn c h1
   ·rcases List.mem_cons.1 h1 with rfl | h2
    ·decide
    ·exact hp c h2
  obtain ⟨a,ha,hd⟩ := cut_eol hpl e0 (segT ss ++ (t ++ eol e ++ rest))
  have e1 : nm ++ 58 :: s0 ++ eol e0 ++ segT ss ++ t ++ eol e ++ rest = nm ++ 58 :: s0 ++ eol e0 ++ (segT ss ++ (t ++ eol e ++ rest)) := by simp
  have hne : deCr a ≠ [] := by rw [hd]; simp
  have hf := field_read (k := acc.length) (rest := t ++ eol e ++ rest) (by simp at hk; omega) hn hs (h.stops e rest) hv hl hg
  rw [e1,readGo_ok ha hne (by rw [hd]; exact hf),ih (acc ++ [(nm,v)]) e rest (by simp at hk ⊢; omega)]
  simp
theorem edges_iff (c : UInt8) (r : List UInt8) : edges (c :: r) = (!blk c && (c :: r).getLast?.all fun x => !blk x) := rfl
theorem contains_blk (c : UInt8) : ([32,9] : List UInt8).contains c = blk c := by
 unfold blk
 simp [List.contains,List.elem]
 cases c == 32 <;> cases c == 9 <;> rfl
theorem trimB_pad {v : List UInt8} (h : edges v = true) : trimB (32 :: v) = v := by
 match v with
 | [] => decide
 | c :: r =>
  rw [edges_iff,Bool.and_eq_true] at h
  unfold trimB Lib.trimS Lib.trimLeftS Lib.trimRightS
  simp only [contains_blk]
  have hrev : (32 :: c :: r).reverse.dropWhile blk = (32 :: c :: r).reverse := by
   obtain ⟨x,hx⟩ : ∃ x,(c :: r).getLast? = some x := ⟨_,List.getLast?_eq_some_getLast (by simp)⟩
   rw [hx] at h
   have h2 : blk x = false := by simpa using h.2
   obtain ⟨t,ht⟩ := List.getLast?_eq_some_iff.1 hx
   have : (32 :: c :: r).reverse = x :: (32 :: t).reverse := by rw [ht]; simp
   rw [this,List.dropWhile_cons_of_neg (by simp [h2])]
  rw [hrev,List.reverse_reverse,List.dropWhile_cons_of_pos (by decide),List.dropWhile_cons_of_neg (by simpa using h.1)]
def blankHead (p : List UInt8) : Prop := ∃ c r,p = c :: r ∧ blk c = true
theorem pcsGo_tail : ∀ (r cur : List UInt8),∀ p ∈ (pcsGo cur r).tail,blankHead p
 | [],cur => by simp [pcsGo]
 | c :: r,cur => by
  unfold pcsGo
  split
  ·rename_i ht
   have hb : blk c = true := by
    unfold turnAt at ht
    rw [Bool.and_eq_true] at ht
    exact ht.1
   intro p hp
   rw [List.tail_cons] at hp
   obtain ⟨x,ps,h⟩ := pcsGo_cur r [c]
   rw [h] at hp
   rcases List.mem_cons.1 hp with rfl | h2
   ·exact ⟨c,x,rfl,hb⟩
   ·exact pcsGo_tail r [c] p (by rw [h]; exact h2)
  ·exact pcsGo_tail r (cur ++ [c])
theorem wrap_segs : ∀ (ps : List (List UInt8)) (line : Nat) (first : Bool),(∀ p ∈ ps,plain p) → (∀ p ∈ ps.tail,blankHead p) → (first = false → ∀ p ∈ ps,blankHead p) →
  ∃ s0 ss,wrapGo line first ps = s0 ++ eol true ++ segT ss ∧ plain s0 ∧ further ss ∧ s0 ++ segV ss = ps.flatten
 | [],line,first,_,_,_ => ⟨[],[],rfl,(fun c hc => by simp at hc),(fun p hp => by simp at hp),rfl⟩
 | p :: ps,line,first,hp,ht,hf => by
  have hps : ∀ q ∈ ps,blankHead q := ht
  have hpp := hp p (by simp)
  by_cases h : first = false ∧ 76 < line + p.length
  ·obtain ⟨s0,ss,h1,h2,h3,h4⟩ := wrap_segs ps p.length false (fun q hq => hp q (by simp [hq])) (fun q hq => hps q (List.mem_of_mem_tail hq)) (fun _ => hps)
   obtain ⟨c,r,hc,hb⟩ := hf h.1 p (by simp)
   refine ⟨[],(p ++ s0,true) :: ss,?_,(fun c hc => by simp at hc),?_,?_⟩
   ·obtain ⟨rfl,hlt⟩ := h
    rw [wrapGo_turn hlt,h1]
    simp [segT,eol]
   ·intro q hq
    rcases List.mem_cons.1 hq with rfl | hq
    ·refine ⟨fun x hx => ?_,c,r ++ s0,by rw [hc]; rfl,hb⟩
     rcases List.mem_append.1 hx with h5 | h5
     ·exact hpp x h5
     ·exact h2 x h5
    ·exact h3 q hq
   ·rw [List.flatten_cons,← h4]
    simp [segV]
  ·obtain ⟨s0,ss,h1,h2,h3,h4⟩ := wrap_segs ps (line + p.length) false (fun q hq => hp q (by simp [hq])) (fun q hq => hps q (List.mem_of_mem_tail hq)) (fun _ => hps)
   refine ⟨p ++ s0,ss,?_,?_,h3,?_⟩
   ·rw [wrapGo_go h,h1]
    simp
   ·intro x hx
    rcases List.mem_append.1 hx with h5 | h5
    ·exact hpp x h5
    ·exact h2 x h5
   ·rw [List.flatten_cons,← h4]
    simp
theorem vl_plain {v : List UInt8} (h : vlOk v = true) : plain v := by
 intro c hc
 unfold vlOk at h
 rw [Bool.and_eq_true,Bool.and_eq_true,List.all_eq_true] at h
 have := (sgc_iff c).1 (h.1.1 c hc)
 constructor
 ·rintro rfl
  simp at this
 ·rintro rfl
  simp at this
theorem piece_mem {v p : List UInt8} (h : p ∈ pcs v) {c : UInt8} (hc : c ∈ p) : c ∈ v := by
 have h1 : c ∈ (pcs v).flatten := List.mem_flatten.2 ⟨p,h,hc⟩
 rwa [pcs_flat] at h1
theorem fold_head {n v : List UInt8} (hn : nmOk n = true) (hv : vlOk v = true) : HeadT [(n,v)] (foldF n v) := by
 obtain ⟨s0,ss,h1,h2,h3,h4⟩ := wrap_segs (pcs v) (n.length + 2) true (fun p hp c hc => vl_plain hv c (piece_mem hp hc)) (pcsGo_tail v []) (fun h => by cases h)
 rw [pcs_flat] at h4
 have hpl : plain (32 :: s0) := by
  intro c hc
  rcases List.mem_cons.1 hc with rfl | h
  ·decide
  ·exact h2 c h
 have hvl := hv
 unfold vlOk at hvl
 rw [Bool.and_eq_true,Bool.and_eq_true,decide_eq_true_iff] at hvl
 have ht : trimB ((32 :: s0) ++ segV ss) = v := by
  rw [List.cons_append,h4]
  exact trimB_pad hvl.2
 have := HeadT.cons n v (32 :: s0) [] true ss [] hn hpl h3 ht hvl.1.2 hvl.1.1 HeadT.nil
 have e : foldF n v = n ++ 58 :: (32 :: s0) ++ eol true ++ segT ss ++ [] := by
  unfold foldF
  rw [h1]
  simp
 rw [e]
 exact this
end Fd
end
section
namespace Fd
def whole (ss : List (List UInt8 × Bool)) : Prop := ∀ p ∈ ss,p.2 = true
inductive HeadW : List (List UInt8 × List UInt8) → List UInt8 → Prop
 | nil : HeadW [] []
 | cons (nm v s0 t : List UInt8) (ss : List (List UInt8 × Bool)) (fs : List (List UInt8 × List UInt8)) (hn : nmOk nm = true) (hp : plain s0) (hs : further ss) (hw : whole ss) (hv : s0 ++ segV ss = 32 :: v) (hl : vlOk v = true)
   (h : HeadW fs t) : HeadW ((nm,v) :: fs) (nm ++ 58 :: s0 ++ eol true ++ segT ss ++ t)
inductive Lo : UInt8 → List UInt8 → List UInt8 → Prop
 | nil (p : UInt8) : Lo p [] []
 | drop (p : UInt8) (r t : List UInt8) (h : Lo 13 r t) : Lo p (13 :: r) t
 | keep (p c : UInt8) (r t : List UInt8) (h : Lo c r t) : Lo p (c :: r) (c :: t)
 | put (p c : UInt8) (r t : List UInt8) (hb : blk c = true) (h1 : p ≠ 10) (h2 : p ≠ 58) (h : Lo c r t) : Lo p (c :: r) (13 :: 10 :: c :: t)
end Fd
end
section
namespace Fd
end Fd
end
end Go.Proofs.YtkllecicddfjpaaGreatDoor
