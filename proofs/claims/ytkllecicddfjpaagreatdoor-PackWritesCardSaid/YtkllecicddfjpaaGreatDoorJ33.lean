/- The walk of the law, part 33. -/
import Derived.Test.YtkllecicddfjpaaGreatDoorJ01
import Derived.Test.YtkllecicddfjpaaGreatDoorChecked
import Derived.KernelRfl
import Derived.Lib.LaidU8
import Derived.Lib.SmallJoins
import Derived.OpenShut
import Derived.Test.YtkllecicddfjpaaGreatDoorJ32
import Derived.Test.YtkllecicddfjpaaGreatDoorJ04
import Derived.Test.YtkllecicddfjpaaGreatDoorJ09
set_option maxRecDepth 100000
set_option maxHeartbeats 16000000
set_option linter.unusedVariables false
set_option linter.unusedSimpArgs false
namespace Go.Proofs.YtkllecicddfjpaaGreatDoor
section
open Go.RowKit Go.Shelf Go.Lib Go.Joins Go.ChangeShapes Go.WideShapes Go.ChangeAt
structure En where
 fr : List UInt8
 too : List UInt8
 id : List UInt8
 th : List UInt8
 plain : Bool
 bun : List UInt8
 cip : List UInt8
def env (x : En) (A : Option Addr) (ca : Nat) (B : Option Addr) (cb : Nat) : Value :=
 .agg #[.string (bs x.fr),.string (bs x.too),.string (bs x.id),.string (bs x.th),.bool x.plain,.slice A x.bun.length ca,.slice B x.cip.length cb]
structure En.Ok (x : En) : Prop where
 fr : x.fr.length ≤ 9223372036854775807
 too : x.too.length ≤ 9223372036854775807
 id : x.id.length ≤ 9223372036854775807
 th : x.th.length ≤ 9223372036854775807
section
variable {H : Type} {enc : TypeId × Value → H} {P : Program} {w : World} {base : Nat} {sp : Nat → Bool} {held : Bool}
theorem trod_fields {fuel : Nat} {t : TypeId} {fs : Array Field} {cs : List Value} {d : DataW H} {p : List MemPlace} (ht : P.underlying t = some (.struct fs)) (h : DataW.trod enc P w base sp held fuel t cs = some (d,p)) :
 cs.length = P.cellsOf t ∧ ∃ fuel',∀ f ∈ fs.toList,∃ y,DataW.trod enc P w base sp held fuel' f.type ((cs.drop f.offset).take (P.cellsOf f.type)) = some y := by
 cases fuel with
 | zero => simp [DataW.trod] at h
 | succ fuel =>
   simp only [DataW.trod,ht] at h
   split at h
   ·rename_i hl
    obtain ⟨xs,hm,hx⟩ := Option.map_eq_some_iff.1 h
    refine ⟨hl,fuel,fun f hf => ?_⟩
    obtain ⟨i,hi⟩ := List.mem_iff_getElem?.1 hf
    obtain ⟨b,_,hb⟩ := mapM_at hm i f hi
    exact ⟨b,hb⟩
   ·cases h
end
theorem chain {α : Type} {l s r : List α} {a k : Nat} (h : (l.drop a).take k = s) (hr : l.drop (a + k) = r) : l.drop a = s ++ r := by
 rw [← h,← hr,← List.drop_drop,List.take_append_drop]
theorem cStr' : Tryz.prog.cellsOf 9 = 1 := by kernel_rfl
theorem cByt' : Tryz.prog.cellsOf 22 = 1 := by kernel_rfl
theorem cBool' : Tryz.prog.cellsOf 4 = 1 := by kernel_rfl
theorem cEnv : Tryz.prog.cellsOf 24 = 7 := by kernel_rfl
theorem bytes_cell {H : Type} {enc : TypeId × Value → H} {w : World} {n : Nat} {cs : List Value} {y : DataW H × List MemPlace} (h6 : DataW.trod enc Tryz.prog w 0 (fun _ => true) true n 22 cs = some y) :
 ∃ (A : Option Addr) (len c : Nat) (body : List UInt8),cs = [.slice A len c] ∧ body.length = len ∧ len ≤ c ∧ c ≤ maxLen ∧ Rb w A body := by
 rcases open_ints Tryz.underlying22 Tryz.underlying5 (by kernel_rfl) h6 with ⟨hcs,_⟩ | ⟨x,l,c,zs,hcs,_,hl,hm,hz,_,hcell,hwz⟩
 ·obtain ⟨b,q0,q1,q2,q3⟩ := Rb_row (w := w) (a := none) (len := 0) (cap := 0) (zs := []) (.inl ⟨rfl,rfl,rfl,rfl⟩)
  exact ⟨_,_,_,b,hcs,q0,q1,q2,q3⟩
 ·obtain ⟨b,q0,q1,q2,q3⟩ := Rb_row (w := w) (.inr ⟨_,rfl,hl,hm,by simpa using hz,hcell,hwz⟩)
  exact ⟨_,_,_,b,hcs,q0,q1,q2,q3⟩
theorem str_cell {H : Type} {enc : TypeId × Value → H} {w : World} {n : Nat} {cs : List Value} {y : DataW H × List MemPlace} (h : DataW.trod enc Tryz.prog w 0 (fun _ => true) true n 9 cs = some y) :
 ∃ l : List UInt8,cs = [.string (bs l)] ∧ l.length ≤ 9223372036854775807 := by
 obtain ⟨a5,e5,_,w5⟩ := DataW.trod_string Tryz.underlying9 h
 obtain ⟨t5,rfl⟩ : ∃ l,a5 = bs l := ⟨_,(bs_of a5).symm⟩
 exact ⟨t5,e5,by rw [bs_size] at w5; exact w5⟩
theorem Env_row {H : Type} {enc : TypeId × Value → H} {w : World} {r : Reach} {b0 : Nat} {v : Value} {d : DataW H} {p : List MemPlace} (hv : Value.okWide Tryz.prog w r b0 24 v) (h : DataW.Trod enc Tryz.prog w 0 (fun _ => true) true 24 v d p) :
 ∃ (x : En) (A : Option Addr) (ca : Nat) (B : Option Addr) (cb : Nat),v = env x A ca B cb ∧ x.Ok ∧ x.bun.length ≤ ca ∧ ca ≤ maxLen ∧ Rb w A x.bun ∧ x.cip.length ≤ cb ∧ cb ≤ maxLen ∧ Rb w B x.cip := by
 obtain ⟨cs,rfl,hsz⟩ := okWide_struct Tryz.underlying24 hv
 obtain ⟨l⟩ := cs
 obtain ⟨fuel,hf⟩ := h
 obtain ⟨hlen,n,hx⟩ := trod_fields Tryz.underlying24 hf
 simp only [Value.cells] at hx hlen
 simp only [List.forall_mem_cons] at hx
 obtain ⟨⟨y0,h0⟩,⟨y1,h1⟩,⟨y2,h2⟩,⟨y3,h3⟩,⟨y4,h4⟩,⟨y5,h5⟩,⟨y6,h6⟩,-⟩ := hx
 rw [cStr'] at h0 h1 h2 h3
 rw [cBool'] at h4
 rw [cByt'] at h5 h6
 rw [cEnv] at hlen
 obtain ⟨t0,e0,w0⟩ := str_cell h0
 obtain ⟨t1,e1,w1⟩ := str_cell h1
 obtain ⟨t2,e2,w2⟩ := str_cell h2
 obtain ⟨t3,e3,w3⟩ := str_cell h3
 obtain ⟨b4,e4,_⟩ := DataW.trod_bool Tryz.underlying4 h4
 obtain ⟨A,la,ca,ba,e5,k1,k2,k3,k4⟩ := bytes_cell h5
 obtain ⟨B,lb,cb,bb,e6,m1,m2,m3,m4⟩ := bytes_cell h6
 subst k1 m1
 have hend : l.drop 7 = [] := List.drop_eq_nil_of_le (by omega)
 have hl := chain e0 (chain e1 (chain e2 (chain e3 (chain e4 (chain e5 (chain e6 hend))))))
 rw [List.drop_zero] at hl
 refine ⟨⟨t0,t1,t2,t3,b4,ba,bb⟩,A,ca,B,cb,?_,⟨w0,w1,w2,w3⟩,k2,k3,k4,m2,m3,m4⟩
 rw [hl]
 rfl
end
section
def adB (s : List UInt8) : Bool := match Tk.addrP s with | .ok a => a == s | .error _ => false
def besP (x : En) : List UInt8 := x.fr ++ 10 :: (x.too ++ 10 :: (x.id ++ 10 :: (x.th ++ [10])))
def enB (x : En) : Bool := adB x.fr && adB x.too && Pk.idOk x.id && Pk.idOk x.th
end
section
open Go.RowKit
theorem addrP_err' {l : List UInt8} {k : Nat} (h : Tk.addrP l = .error k) : k = 3 ∨ k = 5 := by
 unfold Tk.addrP at h
 cases hb : Tk.bareP l with
 | error e =>
   rw [hb] at h
   cases h
   exact Tk.bareP_err _ _ _ (Nat.le_refl _) hb
 | ok b =>
   rw [hb] at h
   simp only at h
   split at h
   ·cases h; exact .inl rfl
   ·unfold Tk.addrAt at h
    split at h
    ·cases h; exact .inl rfl
    ·split at h
     ·cases h
     ·cases h; exact .inl rfl
theorem address_any (l : List UInt8) (w : World) (hM : Tk.Mx w) (hl : l.length ≤ 1000000) :
 Calls Tryz.prog 51 #[.string (bs l)] w fun e w' => e = .returned (.bool (adB l)) ∧ Below w.heap.size w w' := by
 have ha := Tk.addr_any l w hM hl
 cases hp : Tk.addrP l with
 | error k =>
   rw [hp] at ha
   have hk : ((k : Int) == 0) = false := by
    rw [beq_eq_false_iff_ne]
    have := addrP_err' hp
    omega
   have HA := Lib.hid (show adB l = false by unfold adB; rw [hp])
   have ha' : Calls Tryz.prog 86 #[.string (bs l)] w fun e w' => e = .returned (.tuple #[.string (bs []),.int .i64 (k : Int)]) ∧ Below w.heap.size w w' := ha
   clear ha hp
   go_enter Tryz.func51,Tryz.ntmps51
   go_wp2_with fail
   refine ha'.mono ?_
   rintro e w1 ⟨rfl,hb1⟩
   go_wp2_with fail
   go_ret
   exact ⟨ret_bool HA.out.symm,hb1⟩
 | ok a =>
   rw [hp] at ha
   obtain ⟨z,hz⟩ : ∃ z,(a == l) = z := ⟨_,rfl⟩
   have HA := Lib.hid (show adB l = z by unfold adB; rw [hp]; exact hz)
   have ha' : Calls Tryz.prog 86 #[.string (bs l)] w fun e w' => e = .returned (.tuple #[.string (bs a),.int .i64 0]) ∧ Below w.heap.size w w' := ha
   clear ha hp
   go_enter Tryz.func51,Tryz.ntmps51
   go_wp2_with fail
   refine ha'.mono ?_
   rintro e w1 ⟨rfl,hb1⟩
   go_wp2_with fail
   go_ret
   exact ⟨ret_bool HA.out.symm,hb1⟩
abbrev textN : List UInt8 := [116,101,120,116,47,112,108,97,105,110]
abbrev sealN : List UInt8 := [109,117,108,116,105,112,97,114,116,47,101,110,99,114,121,112,116,101,100]
abbrev oursN : List UInt8 := [97,112,112,108,105,99,97,116,105,111,110,47,120,45,100,101,115,112,97,116,99,104]
abbrev octN : List UInt8 := [97,112,112,108,105,99,97,116,105,111,110,47,111,99,116,101,116,45,115,116,114,101,97,109]
abbrev verB : List UInt8 := [86,101,114,115,105,111,110,58,32,49]
abbrev bordN : List UInt8 := [100,101,115,112,97,116,99,104,45,112,97,114,116]
abbrev protN : List UInt8 := [112,114,111,116,111,99,111,108]
abbrev prms : List (List UInt8 × List UInt8) := [(bdN,bordN),(protN,oursN)]
abbrev pv1 (r : Nat) : Pv := ⟨oursN,none,0,0,0,some ⟨r,0,none⟩,10,10,none,0,0⟩
abbrev pv2 (B : Option Addr) (n c : Nat) : Pv := ⟨octN,none,0,0,1,B,n,c,none,0,0⟩
def PartOut (x : En) (B : Option Addr) (cb : Nat) (w w' : World) (e : Ending) : Prop :=
 (x.plain = true ∧ e = .returned (.agg #[.string (bs textN),.slice none 0 0,.int .i64 1,.slice B x.cip.length cb,.slice none 0 0])) ∨
 (x.plain = false ∧ ∃ p q r : Nat,e = .returned (.agg #[.string (bs sealN),.slice (some ⟨p,0,none⟩) 2 2,.int .i64 0,.slice none 0 0,.slice (some ⟨q,0,none⟩) 2 2]) ∧
   Rv w' (some ⟨p,0,none⟩) (Tk.pcells prms) ∧ Rv w' (some ⟨q,0,none⟩) (pvs [pv1 r,pv2 B x.cip.length cb]) ∧ Rb w' (some ⟨r,0,none⟩) verB)
theorem part_any (x : En) (A : Option Addr) (ca : Nat) (B : Option Addr) (cb : Nat) (w : World) :
 Calls Tryz.prog 53 #[env x A ca B cb] w fun e w' => PartOut x B cb w w' e ∧ Below w.heap.size w w' := by
 obtain ⟨fr,too,id,th,pl,bun,cip⟩ := x
 unfold env
 simp only
 cases pl with
 | true =>
   go_enter Tryz.func53,Tryz.ntmps53
   go_wp2_with fail
   have hB : Below w.heap.size w ((w.alloc (.cells #[.string (bs fr),.string (bs too),.string (bs id),.string (bs th),.bool true,.slice A bun.length ca,.slice B cip.length cb] 24)).alloc (.cells #[.string ⟨#[116,101,120,116,47,112,108,97,105,110]⟩,.slice none 0 0,.int .i64 1,.slice B cip.length cb,.slice none 0 0] 34)) := ((Below.refl _ _).alloc (Nat.le_refl _) _).alloc (by simp) _
   have r := Row.new (w.alloc (.cells #[.string (bs fr),.string (bs too),.string (bs id),.string (bs th),.bool true,.slice A bun.length ca,.slice B cip.length cb] 24)) #[.string ⟨#[116,101,120,116,47,112,108,97,105,110]⟩,.slice none 0 0,.int .i64 1,.slice B cip.length cb,.slice none 0 0] 34
   rw [World.size_alloc] at r
   have e0 := r.cell (j := 0) rfl
   have e1 := r.cell (j := 1) rfl
   have e2 := r.cell (j := 2) rfl
   have e3 := r.cell (j := 3) rfl
   have e4 := r.cell (j := 4) rfl
   exact bodyPost_ret (v := .agg #[.string (bs textN),.slice none 0 0,.int .i64 1,.slice B cip.length cb,.slice none 0 0]) (by simp [results,Tryz.results53,go_sem,e0,e1,e2,e3,e4]; rfl) rfl ⟨.inl ⟨rfl,rfl⟩,hB⟩
 | false =>
   have hcv := Joins.run_convert_bytes_const_at (P := Tryz.prog) (((w.alloc (.cells #[.string (bs fr),.string (bs too),.string (bs id),.string (bs th),.bool false,.slice A bun.length ca,.slice B cip.length cb] 24)).alloc (.cells #[.string ⟨#[]⟩,.slice none 0 0,.int .i64 0,.slice none 0 0,.slice none 0 0] 34)).alloc (.cells #[.string ⟨#[98,111,117,110,100,97,114,121]⟩,.string ⟨#[100,101,115,112,97,116,99,104,45,112,97,114,116]⟩,.string ⟨#[112,114,111,116,111,99,111,108]⟩,.string ⟨#[97,112,112,108,105,99,97,116,105,111,110,47,120,45,100,101,115,112,97,116,99,104]⟩] 36)) 22 5 #[.int .u8 86,.int .u8 101,.int .u8 114,.int .u8 115,.int .u8 105,.int .u8 111,.int .u8 110,.int .u8 58,.int .u8 32,.int .u8 49] 10 10 (w.heap.size + 1 + 1 + 1) (by simp) Tryz.underlying22 Tryz.underlying5
   go_enter Tryz.func53,Tryz.ntmps53
   go_wp2_with fail
   have b1 : Below w.heap.size w (w.alloc (.cells #[.string (bs fr),.string (bs too),.string (bs id),.string (bs th),.bool false,.slice A bun.length ca,.slice B cip.length cb] 24)) := (Below.refl _ _).alloc (Nat.le_refl _) _
   obtain ⟨W1,hW1⟩ : ∃ W,(w.alloc (.cells #[.string (bs fr),.string (bs too),.string (bs id),.string (bs th),.bool false,.slice A bun.length ca,.slice B cip.length cb] 24)) = W := ⟨_,rfl⟩
   have s1 : W1.heap.size = w.heap.size + 1 := by rw [← hW1]; simp
   rw [hW1] at b1 ⊢
   have r2 := Row.new W1 #[.string ⟨#[109,117,108,116,105,112,97,114,116,47,101,110,99,114,121,112,116,101,100]⟩,.slice (some ⟨w.heap.size + 1 + 1,0,none⟩) 2 2,.int .i64 0,.slice none 0 0,.slice (some ⟨w.heap.size + 1 + 1 + 1 + 1,0,none⟩) 2 2] 34
   have b2 : Below W1.heap.size W1 (W1.alloc (.cells #[.string ⟨#[109,117,108,116,105,112,97,114,116,47,101,110,99,114,121,112,116,101,100]⟩,.slice (some ⟨w.heap.size + 1 + 1,0,none⟩) 2 2,.int .i64 0,.slice none 0 0,.slice (some ⟨w.heap.size + 1 + 1 + 1 + 1,0,none⟩) 2 2] 34)) := (Below.refl _ _).alloc (Nat.le_refl _) _
   obtain ⟨W2,hW2⟩ : ∃ W,W1.alloc (.cells #[.string ⟨#[109,117,108,116,105,112,97,114,116,47,101,110,99,114,121,112,116,101,100]⟩,.slice (some ⟨w.heap.size + 1 + 1,0,none⟩) 2 2,.int .i64 0,.slice none 0 0,.slice (some ⟨w.heap.size + 1 + 1 + 1 + 1,0,none⟩) 2 2] 34) = W := ⟨_,rfl⟩
   have s2 : W2.heap.size = w.heap.size + 1 + 1 := by rw [← hW2]; simp [s1]
   rw [hW2] at r2 b2 ⊢
   have r3 : Rv (W2.alloc (.cells #[.string ⟨#[98,111,117,110,100,97,114,121]⟩,.string ⟨#[100,101,115,112,97,116,99,104,45,112,97,114,116]⟩,.string ⟨#[112,114,111,116,111,99,111,108]⟩,.string ⟨#[97,112,112,108,105,99,97,116,105,111,110,47,120,45,100,101,115,112,97,116,99,104]⟩] 36)) (some ⟨W2.heap.size,0,none⟩) (Tk.pcells prms) := Rv_new W2 _ _ _ rfl
   have b3 : Below W2.heap.size W2 (W2.alloc (.cells #[.string ⟨#[98,111,117,110,100,97,114,121]⟩,.string ⟨#[100,101,115,112,97,116,99,104,45,112,97,114,116]⟩,.string ⟨#[112,114,111,116,111,99,111,108]⟩,.string ⟨#[97,112,112,108,105,99,97,116,105,111,110,47,120,45,100,101,115,112,97,116,99,104]⟩] 36)) := (Below.refl _ _).alloc (Nat.le_refl _) _
   obtain ⟨W3,hW3⟩ : ∃ W,W2.alloc (.cells #[.string ⟨#[98,111,117,110,100,97,114,121]⟩,.string ⟨#[100,101,115,112,97,116,99,104,45,112,97,114,116]⟩,.string ⟨#[112,114,111,116,111,99,111,108]⟩,.string ⟨#[97,112,112,108,105,99,97,116,105,111,110,47,120,45,100,101,115,112,97,116,99,104]⟩] 36) = W := ⟨_,rfl⟩
   have s3 : W3.heap.size = w.heap.size + 1 + 1 + 1 := by rw [← hW3]; simp [s2]
   rw [hW3] at r3 b3 ⊢
   have r4 : Rb (W3.alloc (.cells #[.int .u8 86,.int .u8 101,.int .u8 114,.int .u8 115,.int .u8 105,.int .u8 111,.int .u8 110,.int .u8 58,.int .u8 32,.int .u8 49] 5 (10,11))) (some ⟨W3.heap.size,0,none⟩) verB := Rb_new W3 verB _ _ rfl 10 (10,11)
   have b4 : Below W3.heap.size W3 (W3.alloc (.cells #[.int .u8 86,.int .u8 101,.int .u8 114,.int .u8 115,.int .u8 105,.int .u8 111,.int .u8 110,.int .u8 58,.int .u8 32,.int .u8 49] 5 (10,11))) := (Below.refl _ _).alloc (Nat.le_refl _) _
   obtain ⟨W4,hW4⟩ : ∃ W,W3.alloc (.cells #[.int .u8 86,.int .u8 101,.int .u8 114,.int .u8 115,.int .u8 105,.int .u8 111,.int .u8 110,.int .u8 58,.int .u8 32,.int .u8 49] 5 (10,11)) = W := ⟨_,rfl⟩
   have s4 : W4.heap.size = w.heap.size + 1 + 1 + 1 + 1 := by rw [← hW4]; simp [s3]
   rw [hW4] at r4 b4 ⊢
   have r5 : Rv (W4.alloc (.cells #[.string ⟨#[97,112,112,108,105,99,97,116,105,111,110,47,120,45,100,101,115,112,97,116,99,104]⟩,.slice none 0 0,.int .i64 0,.slice (some ⟨w.heap.size + 1 + 1 + 1,0,none⟩) 10 10,.slice none 0 0,.string ⟨#[97,112,112,108,105,99,97,116,105,111,110,47,111,99,116,101,116,45,115,116,114,101,97,109]⟩,.slice none 0 0,.int .i64 1,.slice B cip.length cb,.slice none 0 0] 34)) (some ⟨W4.heap.size,0,none⟩) (pvs [pv1 (w.heap.size + 1 + 1 + 1),pv2 B cip.length cb]) := Rv_new W4 _ _ _ rfl
   have b5 : Below W4.heap.size W4 (W4.alloc (.cells #[.string ⟨#[97,112,112,108,105,99,97,116,105,111,110,47,120,45,100,101,115,112,97,116,99,104]⟩,.slice none 0 0,.int .i64 0,.slice (some ⟨w.heap.size + 1 + 1 + 1,0,none⟩) 10 10,.slice none 0 0,.string ⟨#[97,112,112,108,105,99,97,116,105,111,110,47,111,99,116,101,116,45,115,116,114,101,97,109]⟩,.slice none 0 0,.int .i64 1,.slice B cip.length cb,.slice none 0 0] 34)) := (Below.refl _ _).alloc (Nat.le_refl _) _
   obtain ⟨W5,hW5⟩ : ∃ W,W4.alloc (.cells #[.string ⟨#[97,112,112,108,105,99,97,116,105,111,110,47,120,45,100,101,115,112,97,116,99,104]⟩,.slice none 0 0,.int .i64 0,.slice (some ⟨w.heap.size + 1 + 1 + 1,0,none⟩) 10 10,.slice none 0 0,.string ⟨#[97,112,112,108,105,99,97,116,105,111,110,47,111,99,116,101,116,45,115,116,114,101,97,109]⟩,.slice none 0 0,.int .i64 1,.slice B cip.length cb,.slice none 0 0] 34) = W := ⟨_,rfl⟩
   rw [hW5] at r5 b5 ⊢
   have r := ((r2.below b3).below b4).below b5
   rw [s1] at r
   have h3 := (r3.below b4).below b5
   have h4 := r4.below b5
   rw [s2] at h3
   rw [s3] at h4
   rw [s4] at r5
   have hB : Below w.heap.size w W5 := ((((b1.trans (b2.mono (by omega))).trans (b3.mono (by omega))).trans (b4.mono (by omega))).trans (b5.mono (by omega)))
   clear hW1 hW2 hW3 hW4 hW5
   have e0 := r.cell (j := 0) rfl
   have e1 := r.cell (j := 1) rfl
   have e2 := r.cell (j := 2) rfl
   have e3 := r.cell (j := 3) rfl
   have e4 := r.cell (j := 4) rfl
   exact bodyPost_ret (v := .agg #[.string (bs sealN),.slice (some ⟨w.heap.size + 1 + 1,0,none⟩) 2 2,.int .i64 0,.slice none 0 0,.slice (some ⟨w.heap.size + 1 + 1 + 1 + 1,0,none⟩) 2 2]) (by simp [results,Tryz.results53,go_sem,e0,e1,e2,e3,e4]; rfl) rfl ⟨.inr ⟨rfl,_,_,w.heap.size + 1 + 1 + 1,rfl,h3,r5,h4⟩,hB⟩
end
section
open Go.RowKit
theorem Rv_not {w : World} {g : Nat} {t : TypeId} {cs xs : List Value} {A : Option Addr} (hr : Row w g t cs) (h : Rv w A xs) (hc : ∀ v ∈ cs,∀ x ∈ xs,v ≠ x) (h0 : 0 < xs.length) : ∀ b o,A = some ⟨b,o,none⟩ → b ≠ g := by
 rintro b o rfl rfl
 obtain ⟨b',o',e,hcl⟩ := h h0
 cases e
 have h1 := hcl 0 xs[0] (List.getElem?_eq_getElem h0)
 rw [Nat.add_zero] at h1
 have h2 : cs[o]? = some xs[0] := by
  by_cases ho : o < cs.length
  ·have h3 := hr.cell (j := o) (List.getElem?_eq_getElem ho)
   rw [h3] at h1
   rw [List.getElem?_eq_getElem ho]
   exact h1
  ·have h3 : w.heap[b]? = some (.cells cs.toArray t) := hr
   simp only [World.cell?,h3] at h1
   simp at h1
   exact h1
 exact hc _ (List.mem_of_getElem? h2) _ (List.getElem_mem h0) rfl
theorem Rv_setFar {w : World} {g : Nat} {t : TypeId} {cs xs : List Value} {A : Option Addr} (hr : Row w g t cs) (h : Rv w A xs) (hc : ∀ v ∈ cs,∀ x ∈ xs,v ≠ x) (j : Nat) (u : Value) : Rv (w.setCell ⟨g,j,none⟩ u) A xs := fun hp => by
 obtain ⟨b,o,rfl,hcl⟩ := h hp
 have hne := Rv_not hr h hc hp b o rfl
 exact ⟨b,o,rfl,fun k v hk => (World.cell?_of_block (w := w) (Below.heap_setCell w ⟨g,j,none⟩ u b hne)).trans (hcl k v hk)⟩
def isSl (v : Value) : Prop := ∃ A n c,v = .slice A n c
theorem sl_fields {cs : List Value} (h : ∀ v ∈ cs,isSl v) (fs : List (List UInt8 × List UInt8)) : ∀ v ∈ cs,∀ x ∈ Fd.fcells fs,v ≠ x := by
 intro v hv x hx e
 obtain ⟨A,n,c,rfl⟩ := h v hv
 unfold Fd.fcells at hx
 rw [List.mem_flatMap] at hx
 obtain ⟨p,_,hx⟩ := hx
 simp only [List.mem_cons,List.mem_nil_iff,or_false,Fd.strv] at hx
 rcases hx with hx | hx <;> rw [hx] at e <;> cases e
theorem sl_bytes {cs : List Value} (h : ∀ v ∈ cs,isSl v) (l : List UInt8) : ∀ v ∈ cs,∀ x ∈ l.map bv,v ≠ x := by
 intro v hv x hx e
 obtain ⟨A,n,c,rfl⟩ := h v hv
 rw [List.mem_map] at hx
 obtain ⟨y,_,hx⟩ := hx
 rw [← hx] at e
 cases e
theorem mwrite_any (v0 v1 v2 v3 v4 : Value) (o : Except Nat Mail) (w : World)
 (H : ∀ W,Below w.heap.size w W → Calls Tryz.prog 31 #[.agg #[v0,v1,v2,v3,v4],.int .i64 0] W fun e W' => WOut o W' e ∧ Below W.heap.size W W') :
 Calls Tryz.prog 14 #[.agg #[v0,v1,v2,v3,v4]] w fun e w' => WOut o w' e ∧ Below w.heap.size w w' := by
 have hB00 : Below w.heap.size w (w.alloc (.cells #[v0,v1,v2,v3,v4] 34)) := (Below.refl _ _).alloc (Nat.le_refl _) _
 have hB0 : Below w.heap.size w ((w.alloc (.cells #[v0,v1,v2,v3,v4] 34)).alloc (.cells #[.slice none 0 0,.slice none 0 0] 39)) := hB00.alloc hB00.size _
 have rl := Row.new (w.alloc (.cells #[v0,v1,v2,v3,v4] 34)) #[.slice none 0 0,.slice none 0 0] 39
 rw [World.size_alloc] at rl
 have hc := H _ hB0
 have hz0 : w.heap.size + 2 ≤ ((w.alloc (.cells #[v0,v1,v2,v3,v4] 34)).alloc (.cells #[.slice none 0 0,.slice none 0 0] 39)).heap.size := by simp
 clear H hB00
 go_enter Tryz.func14,Tryz.ntmps14
 go_wp2_with fail
 generalize ((w.alloc (.cells #[v0,v1,v2,v3,v4] 34)).alloc (.cells #[.slice none 0 0,.slice none 0 0] 39)) = W0 at *
 refine hc.mono ?_
 rintro e w1 ⟨hwo,hb1⟩
 have hB1 := hB0.trans (hb1.mono hB0.size)
 have R := rl.below hb1
 have a0 := R.cell (j := 0) rfl
 have a1 := R.cell (j := 1) rfl
 have f0 := R.frozen 0
 have f1 := R.frozen 1
 have hlo : w.heap.size + 1 < W0.heap.size := by omega
 cases o with
 | error k =>
   simp only [WOut] at hwo
   subst hwo
   go_wp2_with fail
   have rF := (R.set 0 (.slice none 0 0)).set 1 (.slice none 0 0)
   have hBF := (hB1.setCell (p := ⟨w.heap.size + 1,0,none⟩) (by simp) (.slice none 0 0)).setCell (p := ⟨w.heap.size + 1,1,none⟩) (by simp) (.slice none 0 0)
   have e0 := rF.cell (j := 0) rfl
   have e1 := rF.cell (j := 1) rfl
   exact bodyPost_ret (v := .tuple #[.agg #[.slice none 0 0,.slice none 0 0],.int .i64 (k : Int)]) (by simp [results,Tryz.results14,go_sem,e0,e1]) rfl ⟨rfl,hBF⟩
 | ok m =>
   obtain ⟨LA,lc,LB,lc2,rfl,hRf,hRb,h2c,h2m,hplB⟩ := hwo
   obtain ⟨fs,bd⟩ := m
   simp only at hRf hRb h2c ⊢
   obtain ⟨nf,hnf⟩ : ∃ x,fs.length = x := ⟨_,rfl⟩
   obtain ⟨nb,hnb⟩ : ∃ x,bd.length = x := ⟨_,rfl⟩
   have HNF := Lib.hid hnf
   have HNB := Lib.hid hnb
   simp only [hnf,hnb] at h2c ⊢
   clear hnf hnb
   go_wp2_with fail
   have s0 : ∀ v ∈ ([.slice none 0 0,.slice none 0 0] : List Value),isSl v := by
    intro v hv
    simp only [List.mem_cons,List.mem_nil_iff,or_false] at hv
    rcases hv with rfl | rfl <;> exact ⟨_,_,_,rfl⟩
   have s1 : ∀ v ∈ (([.slice none 0 0,.slice none 0 0] : List Value).set 0 (.slice LA nf lc)),isSl v := by
    intro v hv
    simp only [List.set_cons_zero,List.mem_cons,List.mem_nil_iff,or_false] at hv
    rcases hv with rfl | rfl <;> exact ⟨_,_,_,rfl⟩
   have R1 := R.set 0 (.slice LA nf lc)
   have hRf1 : Fd.Rf _ LA fs := Rv_setFar R1 (Rv_setFar R hRf (sl_fields s0 fs) 0 (.slice LA nf lc)) (sl_fields s1 fs) 1 (.slice LB nb lc2)
   have hRb1 : Rb _ LB bd := Rv_setFar R1 (Rv_setFar R hRb (sl_bytes s0 bd) 0 (.slice LA nf lc)) (sl_bytes s1 bd) 1 (.slice LB nb lc2)
   have rF := R1.set 1 (.slice LB nb lc2)
   have hBF := (hB1.setCell (p := ⟨w.heap.size + 1,0,none⟩) (by simp) (.slice LA nf lc)).setCell (p := ⟨w.heap.size + 1,1,none⟩) (by simp) (.slice LB nb lc2)
   have e0 := rF.cell (j := 0) rfl
   have e1 := rF.cell (j := 1) rfl
   exact bodyPost_ret (v := .tuple #[.agg #[.slice LA nf lc,.slice LB nb lc2],.int .i64 0]) (by simp [results,Tryz.results14,go_sem,e0,e1]) rfl ⟨⟨LA,lc,LB,lc2,by simp only [HNF.out,HNB.out],hRf1,hRb1,by simp only [HNB.out]; exact h2c,h2m,hplB⟩,hBF⟩
def partW (x : En) : Except Nat Mail := if x.plain then leafW textN [] 1 x.cip else multiW sealN prms [leafW oursN [] 0 verB,leafW octN [] 1 x.cip] 0
theorem leafW_ok {kind : List UInt8} {ms : List (List UInt8 × List UInt8)} {code : Int} {l : List UInt8} {m : Mail} (h : leafW kind ms code l = .ok m) : Fd.writeP m.1 m.2 = .ok (mb m) ∧ m.2 = encB code l := by
 unfold leafW at h
 split at h
 ·obtain ⟨rfl,h2⟩ := chkM_ok h
  exact ⟨h2,rfl⟩
 ·cases h
theorem writeP_len {fs : List (List UInt8 × List UInt8)} {bd b : List UInt8} (h : Fd.writeP fs bd = .ok b) : b.length ≤ 65536 + bd.length := by
 unfold Fd.writeP at h
 split at h
 ·split at h
  ·cases h
  ·rename_i h2
   cases h
   rw [List.length_append]
   omega
 ·cases h
theorem leafW_len {kind : List UInt8} {ms : List (List UInt8 × List UInt8)} {code : Int} {l : List UInt8} {m : Mail} (h : leafW kind ms code l = .ok m) (hl : l.length ≤ 3000) : Fd.writeP m.1 m.2 = .ok (mb m) ∧ (mb m).length ≤ 90000 := by
 obtain ⟨h1,h2⟩ := leafW_ok h
 refine ⟨h1,?_⟩
 have h3 := writeP_len h1
 have h4 := encB_bound code l
 rw [h2] at h3
 omega
theorem sealed_ok (x : En) (hx : x.cip.length ≤ 3000) : (∀ k,Except.error k ∈ [leafW oursN [] 0 verB,leafW octN [] 1 x.cip] → 1 ≤ k) ∧ ∀ m,.ok m ∈ [leafW oursN [] 0 verB,leafW octN [] 1 x.cip] → Fd.writeP m.1 m.2 = .ok (mb m) ∧ (mb m).length ≤ 90000 := by
 constructor
 ·intro k hk
  simp only [List.mem_cons,List.mem_nil_iff,or_false] at hk
  rcases hk with hk | hk
  ·exact leafW_err hk.symm
  ·exact leafW_err hk.symm
 ·intro m hm
  simp only [List.mem_cons,List.mem_nil_iff,or_false] at hm
  rcases hm with hm | hm
  ·exact leafW_len hm.symm (by decide)
  ·exact leafW_len hm.symm hx
theorem wpart_any {x : En} {B : Option Addr} {cb : Nat} {w0 w : World} {e : Ending} (h : PartOut x B cb w0 w e) (hG : Gm w) (hx : x.cip.length ≤ 3000) (hB : Rb w B x.cip) (hcb : x.cip.length ≤ cb) :
 ∃ v0 v1 v2 v3 v4,e = .returned (.agg #[v0,v1,v2,v3,v4]) ∧ Calls Tryz.prog 14 #[.agg #[v0,v1,v2,v3,v4]] w fun e w' => WOut (partW x) w' e ∧ Below w.heap.size w w' := by
 rcases h with ⟨hp,rfl⟩ | ⟨hp,p,q,r,rfl,hP,hQ,hR⟩
 ·refine ⟨_,_,_,_,_,rfl,mwrite_any _ _ _ _ _ _ w fun W hW => ?_⟩
  have h := wleaf_any textN [] none 0 0 1 B x.cip x.cip.length cb none 0 0 W (hG.below hW) (.inr rfl) (by decide) (by decide) rfl (by omega) (by simp) (Rv.nil _ _) (by simp) rfl (hB.below hW) hcb (fun h => by cases h) (by omega)
  unfold partW
  rw [if_pos hp]
  exact h
 ·refine ⟨_,_,_,_,_,rfl,mwrite_any _ _ _ _ _ _ w fun W hW => ?_⟩
  obtain ⟨k1,k2⟩ := sealed_ok x hx
  have h := wmulti_any sealN prms (some ⟨p,0,none⟩) 2 2 none 0 (some ⟨q,0,none⟩) 2 2 0 [pv1 r,pv2 B x.cip.length cb] [leafW oursN [] 0 verB,leafW octN [] 1 x.cip] W (hG.below hW) (by decide) (by decide) rfl (by omega) (by decide) (hP.below hW) (by decide) (by decide) rfl rfl (by omega) (hQ.below hW) (by omega)
   (by
     intro j pp o h1 h2 W' hW'
     have hWW := hW.trans (hW'.mono hW.size)
     rcases (by omega : j = 0 ∨ j = 1 ∨ 2 ≤ j) with hj | hj | hj
     ·subst hj
      simp at h1 h2
      subst h1 h2
      exact wleaf_any oursN [] none 0 0 0 (some ⟨r,0,none⟩) verB 10 10 none 0 1 W' (hG.below hWW) (.inl rfl) (by decide) (by decide) rfl (by omega) (by simp) (Rv.nil _ _) (by simp) rfl (hR.below hWW) (by omega) (fun _ => .inr ⟨r,0,rfl⟩) (by omega)
     ·subst hj
      simp at h1 h2
      subst h1 h2
      exact wleaf_any octN [] none 0 0 1 B x.cip x.cip.length cb none 0 1 W' (hG.below hWW) (.inr rfl) (by decide) (by decide) rfl (by omega) (by simp) (Rv.nil _ _) (by simp) rfl (hB.below hWW) hcb (fun h => by cases h) (by omega)
     ·have := lt_of_get h1
      simp at this
      omega) k1 k2
  unfold partW
  rw [if_neg (by rw [hp]; decide)]
  exact h
end
end Go.Proofs.YtkllecicddfjpaaGreatDoor
