/- The walk of the law, part 1. -/
import Derived.Test.YtkllecicddfjpaaGreatDoorRows
import Derived.Lib.LaidU8
import Derived.Deep.DeepHandedRow
import Derived.WalkKit
import Derived.WalkSpells
import Derived.WalkLawsBesides
import Derived.Lib.Hide
import Derived.Laws.OwnMore
import Derived.Deep.AppendLies
import Derived.Deep.Draws
import Derived.Maps.AppendAt
import Derived.Deep.QuietTactic
import Derived.BigQuiet
import Derived.Deep.DeepCutAuto
import Derived.Deep.DeepFit
import Derived.Deep.CutBlock
import Derived.RangeFuncBox
import Derived.Laws.BytesArg
import Derived.Lib.Strings
import Derived.OpenShut
import Derived.Lib.SlBytesConst
import Derived.Deep.AppendSrc
import Derived.OwnWalkIn
import Derived.RegionTactic
set_option maxRecDepth 100000
set_option maxHeartbeats 16000000
set_option linter.unusedVariables false
set_option linter.unusedSimpArgs false
namespace Go.Proofs.YtkllecicddfjpaaGreatDoor
section
open Go.Lib
theorem gFirst : Tryz.prog.globalNamed "unicode/utf8.first" = some 2 := by kernel_rfl
theorem gAccept : Tryz.prog.globalNamed "unicode/utf8.acceptRanges" = some 3 := by kernel_rfl
theorem yFirst : (Tryz.prog.globals[2]?).map (·.type) = some 252 := by kernel_rfl
theorem yAccept : (Tryz.prog.globals[3]?).map (·.type) = some 255 := by kernel_rfl
theorem cU8 : Tryz.prog.cellsOf 5 = 1 := by kernel_rfl
theorem cFirst : Tryz.prog.cellsOf 252 = 256 := by kernel_rfl
theorem cPair : Tryz.prog.cellsOf 254 = 2 := by kernel_rfl
theorem dFirst : Rows.laid_unicode_utf8_first = firstData := by kernel_rfl
theorem dAccept : (Rows.laid_unicode_utf8_acceptRanges : DataW Unit) = acceptData := by kernel_rfl
theorem tabs_laid {w : World} {l : List (String × DataW Unit)} (h : laidMet Tryz.prog l w) (h3 : ("unicode/utf8.first", Rows.laid_unicode_utf8_first) ∈ l) (h4 : ("unicode/utf8.acceptRanges", Rows.laid_unicode_utf8_acceptRanges) ∈ l) :
  Lib.Utf8Tabs 2 3 w := by
 have h3 := laidMet.reads h h3
 have h4 := laidMet.reads h h4
 rw [dFirst] at h3
 rw [dAccept] at h4
 refine ⟨fun c hc => ?_,fun i hi => ?_⟩
 ·obtain ⟨g,t,cs,fuel,p,hg,hty,hvar,hd⟩ := h3
  obtain rfl := Option.some.inj (gFirst.symm.trans hg)
  obtain rfl := Option.some.inj (yFirst.symm.trans hty)
  have hcs := cells_of_tab Tryz.underlying252 Tryz.underlying5 cU8 cFirst hd
  have := World.var?_cell hg hvar c
  rw [this,← Array.getElem?_toList,hcs]
  simp [firstTab,hc]
 ·obtain ⟨g,t,cs,fuel,p,hg,hty,hvar,hd⟩ := h4
  obtain rfl := Option.some.inj (gAccept.symm.trans hg)
  obtain rfl := Option.some.inj (yAccept.symm.trans hty)
  obtain ⟨fuel',d,q,hdi,he⟩ := array_elem Tryz.underlying255 hd i hi
  simp only [List.getElem?_map,List.getElem?_range hi,Option.map_some,Option.some.injEq] at hdi
  subst hdi
  rw [cPair] at he
  have hcs := ints_of_struct Tryz.underlying254 (fun j f hj => by
   match j,hj with
   | 0,hj => simp at hj; subst hj; exact ⟨Tryz.underlying5,rfl,cU8⟩
   | 1,hj => simp at hj; subst hj; exact ⟨Tryz.underlying5,rfl,cU8⟩
   | j + 2,hj => simp at hj) (by rw [cPair]; rfl) he
  have e0 := congrArg (·[0]?) hcs
  have e1 := congrArg (·[1]?) hcs
  simp only [List.getElem?_take,List.getElem?_drop] at e0 e1
  constructor
  ·rw [World.var?_cell hg hvar (2 * i),← Array.getElem?_toList]
   simpa [Nat.mul_comm] using e0
  ·rw [World.var?_cell hg hvar (2 * i + 1),← Array.getElem?_toList]
   simpa [Nat.mul_comm] using e1
def firstCells : Array Value := ((List.range 256).map fun c => Value.int .u8 (firstT c : Int)).toArray
def acceptCells : Array Value := ((List.range 16).flatMap fun i => [Value.int .u8 (accLo i : Int),Value.int .u8 (accHi i : Int)]).toArray
def lay (cs : Array Value) : Obj → Obj
 | .cells _ t fr => .cells cs t fr
 | o => o
noncomputable def laidWorld (os : Os) : World :=
 let w := World.holding Tryz.prog os ⟨#[],#[],[]⟩
 { w with heap := (w.heap.modify 2 (lay firstCells)).modify 3 (lay acceptCells) }
end
section
open Go.RowKit
def bv (b : UInt8) : Value := .int .u8 (b.toNat : Int)
def Rv (w : World) (A : Option Addr) (xs : List Value) : Prop :=
 0 < xs.length → ∃ b o,A = some ⟨b,o,none⟩ ∧ ∀ j v,xs[j]? = some v → w.cell? ⟨b,o + j,none⟩ = some v
def Rb (w : World) (A : Option Addr) (l : List UInt8) : Prop := Rv w A (l.map bv)
theorem cell_lt {w : World} {b o : Nat} {v : Value} (h : w.cell? ⟨b,o,none⟩ = some v) : b < w.heap.size := by
 rcases Nat.lt_or_ge b w.heap.size with hlt | hge
 ·exact hlt
 ·simp [World.cell?,Array.getElem?_eq_none hge] at h
theorem Rv.keep {w w' : World} {A : Option Addr} {xs : List Value} (h : Rv w A xs) (hk : ∀ b o,b < w.heap.size → w'.cell? ⟨b,o,none⟩ = w.cell? ⟨b,o,none⟩) : Rv w' A xs := fun hp => by
 obtain ⟨b,o,e,hc⟩ := h hp
 exact ⟨b,o,e,fun j v hj => (hk _ _ (cell_lt (hc j v hj))).trans (hc j v hj)⟩
theorem Rv.below {w w' : World} {A : Option Addr} {xs : List Value} (h : Rv w A xs) (hb : Below w.heap.size w w') : Rv w' A xs := h.keep fun _ _ hl => hb.cell hl
theorem Rv.nil (w : World) (A : Option Addr) : Rv w A [] := fun h => absurd h (by simp)
theorem Rv.one {w : World} {A : Option Addr} {xs : List Value} (h : Rv w A xs) {k : Nat} (hk : k < xs.length) :
  ∃ b o v,A = some ⟨b,o,none⟩ ∧ Hid (xs[k]? = some v) ∧ w.cell? ⟨b,o + k,none⟩ = some v := by
 obtain ⟨b,o,e,hc⟩ := h (by omega)
 exact ⟨b,o,xs[k],e,List.getElem?_eq_getElem hk,hc k _ (List.getElem?_eq_getElem hk)⟩
theorem Rb.one {w : World} {A : Option Addr} {l : List UInt8} (h : Rb w A l) {k : Nat} (hk : k < l.length) :
  ∃ b o x,A = some ⟨b,o,none⟩ ∧ Hid (l[k]? = some x) ∧ w.cell? ⟨b,o + k,none⟩ = some (.int .u8 (x.toNat : Int)) := by
 obtain ⟨b,o,e,hc⟩ := h (by simpa using (by omega : 0 < l.length))
 exact ⟨b,o,l[k],e,List.getElem?_eq_getElem hk,hc k (bv l[k]) (by simp [List.getElem?_eq_getElem hk])⟩
theorem Rb.below {w w' : World} {A : Option Addr} {l : List UInt8} (h : Rb w A l) (hb : Below w.heap.size w w') : Rb w' A l := Rv.below h hb
theorem Rb.drewN {w : World} {A : Option Addr} {l : List UInt8} (h : Rb w A l) (n : Nat) : Rb (w.drewN n) A l := h
theorem Rb.nil (w : World) (A : Option Addr) : Rb w A [] := Rv.nil w A
theorem u8_lt (b : UInt8) : (b.toNat : Int) ≤ 255 := by have := b.toNat_lt; omega
theorem u8_ge (b : UInt8) : 0 ≤ (b.toNat : Int) := by omega
theorem u8_eq {a b : UInt8} : (a.toNat : Int) = (b.toNat : Int) ↔ a = b := by
 constructor
 ·intro h; exact UInt8.toNat_inj.1 (by omega)
 ·rintro rfl; rfl
theorem u8_beq (a b : UInt8) : ((a.toNat : Int) == (b.toNat : Int)) = (a == b) := by rw [Bool.eq_iff_iff]; simp [u8_eq,beq_iff_eq]
theorem u8_bne (a b : UInt8) : ((a.toNat : Int) != (b.toNat : Int)) = (a != b) := by simp only [bne,u8_beq]
theorem take_succ_of {α : Type} {l : List α} {k : Nat} {x : α} (h : l[k]? = some x) : l.take (k + 1) = l.take k ++ [x] := by
 rw [List.take_add_one,h]; rfl
theorem lt_of_get {α : Type} {l : List α} {k : Nat} {x : α} (h : l[k]? = some x) : k < l.length := (List.getElem?_eq_some_iff.1 h).1
theorem take_all {α : Type} (l : List α) {k : Nat} (h : l.length ≤ k) : l.take k = l := List.take_of_length_le h
theorem ret_bool {a b : Bool} (h : a = b) : Ending.returned (.bool a) = .returned (.bool b) := by rw [h]
theorem ret_int {k : IntKind} {a b : Int} (h : a = b) : Ending.returned (.int k a) = .returned (.int k b) := by rw [h]
def Dn (w w' : World) : Prop := ∃ q,w' = w.drewN q
theorem Dn.refl (w : World) : Dn w w := ⟨0,rfl⟩
theorem Dn.drewN {w w' : World} (h : Dn w w') (n : Nat) : Dn w (w'.drewN n) := by
 obtain ⟨q,rfl⟩ := h
 exact ⟨q + n,World.drewN_drewN _ _ _⟩
theorem Dn.drew {w w' : World} (h : Dn w w') : Dn w w'.drew := h.drewN 1
theorem Dn.of (w : World) (n : Nat) : Dn w (w.drewN n) := ⟨n,rfl⟩
theorem Dn.of2 (w : World) (n m : Nat) : Dn w ((w.drewN n).drewN m) := (Dn.of w n).drewN m
theorem Dn.below {w w' : World} (h : Dn w w') (B : Nat) : Below B w w' := by
 obtain ⟨q,rfl⟩ := h
 exact ⟨rfl,rfl,rfl,Nat.le_refl _,fun _ _ => rfl⟩
def Kept (lo hi : Nat) (W W' : World) : Prop := ∀ j,lo ≤ j → j < hi → W'.heap[j]? = W.heap[j]?
theorem Kept.refl (lo hi : Nat) (W : World) : Kept lo hi W W := fun _ _ _ => rfl
theorem Kept.trans {lo hi : Nat} {A B C : World} (h : Kept lo hi A B) (k : Kept lo hi B C) : Kept lo hi A C := fun j h1 h2 => (k j h1 h2).trans (h j h1 h2)
theorem Kept.grown {lo hi : Nat} {W W' : World} {row : Option Nat} (hg : W.grownBy W' row) (hi' : hi ≤ W.heap.size) (hr : ∀ k,row = some k → k < lo ∨ hi ≤ k) : Kept lo hi W W' :=
 fun j h1 h2 => hg.block j (by omega) (fun e => by have := hr j e.symm; omega)
theorem Kept.cell {lo hi : Nat} {W W' : World} (h : Kept lo hi W W') {b o : Nat} (h1 : lo ≤ b) (h2 : b < hi) : W'.cell? ⟨b,o,none⟩ = W.cell? ⟨b,o,none⟩ := World.cell?_of_block (w := W) (h b h1 h2)
theorem Kept.putObj {lo hi : Nat} (W : World) {l : Nat} (hl : l < lo ∨ hi ≤ l) (o : Obj) : Kept lo hi W (W.putObj l o) := fun j h1 h2 => World.putObj_heap_other (by omega)
theorem make0 {P : Program} {t e : TypeId} {i : TypeInfo} {z : Value} {size bytes : Nat} (ht : P.underlying t = some (.slice e)) (hi : P.info? e = some i) (hz : i.zero = some z) (hs : i.size = size) (hb : i.bytes = bytes) (hzs : z.cells.size = size)
  (kl kc : IntKind) (c : Int) (m : Nat) (hc : c = (m : Int)) (b2 : bytes * m ≤ 281474976710656) (b3 : m ≤ 9223372036854775807) :
  ∃ X : Array Value,X.size = m * size ∧ ∀ W : World,(Instr.makeSlice t (.int kl 0) (.int kc c)).run P W = .ok (.slice (some ⟨W.heap.size,0,none⟩) 0 m) (W.alloc (.cells X e)) := by
 subst hc
 have hb2 : (i.bytes : Int) * (m : Int) ≤ 281474976710656 := by
  rw [hb,← Int.natCast_mul]
  generalize bytes * m = q at b2
  omega
 refine ⟨madeCells z.cells (m * size),?_,fun W => ?_⟩
 ·exact size_madeCells _ _
 ·have h := run_make (P := P) W t e i z ht hi hz kl kc 0 (m : Int) (by omega) (by omega) hb2 (by omega)
  simpa [hs] using h
theorem box_far {W w1 : World} {B B' : Nat} {t e : TypeId} {u v v' : Value} {tmp : Obj} {n₀ size k : Nat} {xs : List Value} (h : Boxed W B t u) (hte : t ≠ e) (hrow : W.ownsRow n₀ e size v k xs)
  (hgrow : (W.alloc tmp).grownBy w1 v.ownBlock) (hne : B ≠ B') : Boxed (w1.setCell ⟨B',0,none⟩ v') B t u :=
 ((h.alloc tmp).kept hgrow (h.not_row hte hrow)).kept (grownBy_setCell' w1 B' v') (by simpa using hne)
theorem own_snoc {W : World} {b e : Nat} {v x : Value} {a k : Nat} {L L' : List UInt8} {g : UInt8} (h : W.ownsRow b e 1 v (a + k + 1) (L.map bv ++ [x])) (hx : x = bv g) (hL : L' = L ++ [g]) : W.ownsRow b e 1 v (a + (k + 1)) (L'.map bv) := by
 rw [hL,List.map_append,← Nat.add_assoc]
 rw [hx] at h
 exact h
def bs (l : List UInt8) : ByteArray := ⟨l.toArray⟩
theorem bs_toList (l : List UInt8) : (bs l).data.toList = l := by simp [bs]
@[simp] theorem bs_size (l : List UInt8) : (bs l).size = l.length := by simp [bs,ByteArray.size]
theorem bs_of (s : ByteArray) : bs s.data.toList = s := by simp [bs]
theorem bs_inj {l m : List UInt8} : bs l = bs m ↔ l = m := ⟨fun h => by rw [← bs_toList l,h,bs_toList],fun h => by rw [h]⟩
theorem ba_beq (a b : ByteArray) : (a == b) = true ↔ a = b := by
 obtain ⟨x⟩ := a
 obtain ⟨y⟩ := b
 constructor
 ·intro h
  have e : x = y := by simpa using (show (x == y) = true from h)
  rw [e]
 ·intro h
  cases h
  show (x == x) = true
  simp
theorem bs_beq (l m : List UInt8) : (bs l == bs m) = decide (l = m) := by
 rw [Bool.eq_iff_iff,ba_beq,bs_inj,decide_eq_true_iff]
theorem conv_str {P : Program} {src dst e : TypeId} (hs : P.underlying src = some (.slice e)) (he : P.underlying e = some (.int .u8)) (hd : P.underlying dst = some .string)
  {w : World} {A : Option Addr} {l : List UInt8} {n c : Nat} (h : Rb w A l) (hn : l.length = n) : (convert src dst (.slice A n c)).run P w = .ok (.string (bs l)) w := by
 subst hn
 have key : ∀ a : Addr,(∀ j v,(l.map bv)[j]? = some v → w.cell? (a.add j) = some v) → (convert src dst (.slice (some a) l.length c)).run P w = .ok (.string (bs l)) w := by
  intro a ha
  have hl : (loadCells a l.length).run P w = .ok ((l.map fun b => (b.toNat : Int)).map (Value.int .u8)).toArray w := by
   have h1 := run_loadCells_list (P := P) w a (l.map bv) ha
   simp only [List.length_map] at h1
   rw [h1]
   simp [bv,Function.comp_def]
  rw [run_convert_bytes_string w src dst e _ _ c hs he hd,run_bytesToString w _ _ c _ hl,foldl_push_bytes]
  simp [bs,ByteArray.empty,ByteArray.emptyWithCapacity,Function.comp_def]
  rfl
 rcases l with _ | ⟨x,l⟩
 ·rcases A with _ | a
  ·rw [run_convert_bytes_nil w src e hs he _ c _ hd]; rfl
  ·exact key a (by simp)
 ·obtain ⟨b,o,rfl,hc⟩ := h (by simp)
  refine key _ fun j v hj => ?_
  have hplain : (⟨b,o,none⟩ : Addr).add j = ⟨b,o + j,none⟩ := by unfold Addr.add; split <;> simp_all
  rw [hplain]
  exact hc j v hj
theorem own_reads {w : World} {base e : Nat} {v : Value} {l : List UInt8} {n : Nat} (h : w.ownsRow base e 1 v n (l.map bv)) : ∃ A c,v = .slice A n c ∧ Rb w A l := by
 have hl := h.1
 rcases h.2 with ⟨rfl,h0⟩ | ⟨g,cap,cur,rfl,_⟩
 ·subst h0
  have : l = [] := List.eq_nil_of_length_eq_zero (by simpa using hl)
  subst this
  exact ⟨none,0,rfl,Rb.nil _ _⟩
 ·refine ⟨_,cap,rfl,fun _ => ⟨g,0,rfl,fun j v hj => ?_⟩⟩
  have hlt := lt_of_get hj
  rw [Nat.zero_add,h.cellAt j (by omega)]
  exact hj
@[simp] theorem bs_list (l : List UInt8) : (bs l).toList = l := by rw [ByteArray.toList_eq,bs_toList]
@[simp] theorem bs_add (l m : List UInt8) : bs l ++ bs m = bs (l ++ m) := by simp [bs,← ByteArray.append_eq,ByteArray.append]
@[simp] theorem bs_extract (l : List UInt8) (a b : Nat) : (bs l).extract a b = bs ((l.drop a).take (b - a)) := by
 have h := Lib.extract_data (bs l) a b
 rw [bs_toList] at h
 rw [← h,bs_of]
theorem str_index {P : Program} {t : TypeId} (ht : P.underlying t = some .string) {l : List UInt8} {k : Nat} {x : UInt8} (h : l[k]? = some x) (K : IntKind) (w : World) :
  (Instr.index t (.string (bs l)) (.int K k)).run P w = .ok (.int .u8 (x.toNat : Int)) w := by
 have hk := lt_of_get h
 have e : l[k] = x := by rw [List.getElem?_eq_getElem hk] at h; exact Option.some.inj h
 rw [run_index_string _ _ _ _ _ ht,dif_pos ⟨by omega,by rw [bs_size]; omega⟩,← e]
 rfl
theorem Rb_new (w : World) (l : List UInt8) (t : TypeId) (cs : Array Value) (hcs : cs = (l.map bv).toArray) (n : Nat) (fr : Nat × Nat := (0,0)) : Rb (w.alloc (.cells cs t fr)) (some ⟨w.heap.size,0,none⟩) (l.take n) := fun _ => by
 refine ⟨_,0,rfl,fun j v hj => ?_⟩
 have hc : (w.alloc (.cells cs t fr)).cell? ⟨w.heap.size,0 + j,none⟩ = cs[j]? := by
  have hh : (w.alloc (.cells cs t fr)).heap[w.heap.size]? = some (.cells cs t fr) := World.alloc_heap_new w _
  simp only [World.cell?,hh,Nat.zero_add]
  rfl
 rw [hc,hcs]
 simp only [List.map_take,List.getElem?_take,List.getElem?_toArray] at hj ⊢
 split at hj
 ·exact hj
 ·simp at hj
theorem grown_of_below {w w' : World} (h : Below w.heap.size w w') (row : Option Nat) : w.grownBy w' row := ⟨h.os,h.tape,h.output,h.size,fun k hk _ => h.block k hk⟩
theorem own_below {w w' : World} {base e size n : Nat} {v : Value} {xs : List Value} (h : w.ownsRow base e size v n xs) (hb : Below w.heap.size w w') : w'.ownsRow base e size v n xs :=
 h.kept (grown_of_below hb none) (by cases v.ownBlock <;> simp)
theorem box_below {w w' : World} {B : Nat} {t : TypeId} {v : Value} (h : Boxed w B t v) (hb : Below w.heap.size w w') : Boxed w' B t v := (hb.block B h.lt).trans h
theorem Rv.take {w : World} {A : Option Addr} {xs : List Value} (h : Rv w A xs) (k : Nat) : Rv w A (xs.take k) := fun hp => by
 obtain ⟨b,o,e,hc⟩ := h (by simp at hp; omega)
 refine ⟨b,o,e,fun j v hj => hc j v ?_⟩
 rw [List.getElem?_take] at hj
 split at hj
 ·exact hj
 ·simp at hj
theorem Rb.take {w : World} {A : Option Addr} {l : List UInt8} (h : Rb w A l) (k : Nat) : Rb w A (l.take k) := by
 have := Rv.take h k
 rwa [← List.map_take] at this
theorem own_slice {w : World} {base e : Nat} {v : Value} {l : List UInt8} {n : Nat} (h : w.ownsRow base e 1 v n (l.map bv)) : ∃ A c,v = .slice A n c ∧ n ≤ c ∧ c ≤ maxLen ∧ Rb w A l ∧ l.length = n := by
 obtain ⟨A,c,rfl,hr⟩ := own_reads h
 have hl : l.length = n := by simpa using h.1
 rcases h.2 with ⟨hv,rfl⟩ | ⟨g,cap,cur,hv,_,_,h1,h2,_⟩
 ·cases hv
  exact ⟨_,_,rfl,Nat.le_refl _,by unfold maxLen; omega,hr,hl⟩
 ·cases hv
  exact ⟨_,_,rfl,h1,h2,hr,hl⟩
theorem Addr_spot {w : World} {a : Addr} {v : Value} (h : w.cell? a = some v) : a.spot = none := by
 rcases hs : a.spot with _ | sp
 ·rfl
 ·exfalso
  unfold World.cell? at h
  simp only [hs,Option.isSome_some,if_true] at h
  split at h <;> simp at h
theorem Rb_row {w : World} {a : Option Addr} {len cap : Nat} {zs : List Int} (h : (a = none ∧ len = 0 ∧ cap = 0 ∧ zs = []) ∨
  ∃ x,a = some x ∧ len ≤ cap ∧ cap ≤ maxLen ∧ zs.length = cap ∧ (∀ i,i < zs.length → w.cell? (x.add i) = some (.int .u8 (zs.getD i 0))) ∧ ∀ n ∈ zs,(Lit.int .u8 n).wf = true) :
  ∃ l : List UInt8,l.length = len ∧ len ≤ cap ∧ cap ≤ maxLen ∧ Rb w a l := by
 rcases h with ⟨rfl,rfl,rfl,rfl⟩ | ⟨x,rfl,h1,h2,h3,hc,hw⟩
 ·exact ⟨[],rfl,Nat.le_refl _,by unfold maxLen; omega,Rb.nil _ _⟩
 ·refine ⟨(zs.take len).map fun n => UInt8.ofNat n.toNat,by simp; omega,h1,h2,fun hp => ?_⟩
  have hp' : 0 < zs.length := by simp at hp; omega
  have h0 := hc 0 hp'
  have hx0 : x.add 0 = x := by unfold Addr.add; simp
  rw [hx0] at h0
  have hs := Addr_spot h0
  obtain ⟨b,o,s⟩ := x
  simp only at hs
  subst hs
  refine ⟨b,o,rfl,fun j v hj => ?_⟩
  have hjl : j < len ∧ j < zs.length := by
   have := lt_of_get hj
   simp at this
   omega
  have hplain : (⟨b,o,none⟩ : Addr).add j = ⟨b,o + j,none⟩ := by unfold Addr.add; split <;> simp_all
  have hcj := hc j hjl.2
  rw [hplain] at hcj
  rw [hcj]
  simp only [List.map_map,List.getElem?_map,List.getElem?_take,hjl.1,if_true,List.getElem?_eq_getElem hjl.2,Option.map_some,Function.comp,Option.some.injEq] at hj
  rw [← hj]
  have hb := hw _ (List.getElem_mem hjl.2)
  have hb2 := bounds_u8 hb
  simp only [bv,List.getD_eq_getElem?_getD,List.getElem?_eq_getElem hjl.2,Option.getD_some,Option.some.injEq,Value.int.injEq,true_and]
  rw [UInt8.toNat_ofNat']
  omega
theorem conv_bytes {P : Program} {src dst e : TypeId} (hs : P.underlying src = some .string) (hd : P.underlying dst = some (.slice e)) (he : P.underlying e = some (.int .u8)) (l : List UInt8) (W : World) :
  ∃ c X fr,(convert src dst (.string (bs l))).run P W = .ok (.slice (some ⟨W.heap.size,0,none⟩) l.length c) (W.drew.alloc (.cells X e fr)) ∧ l.length ≤ c ∧ Rb (W.drew.alloc (.cells X e fr)) (some ⟨W.heap.size,0,none⟩) l := by
 have h := run_bytes_of_string (P := P) W src dst e (bs l) hs hd he
 rw [bs_size] at h
 refine ⟨_,_,_,h,grownCap_ge _ _ _ _,fun _ => ⟨W.heap.size,0,rfl,fun j v hj => ?_⟩⟩
 have hh := World.alloc_heap_new W.drew (.cells (bytesRow (bs l) (grownCap W l.length 0 e)) e ((bytesRow (bs l) (grownCap W l.length 0 e)).size,(bytesRow (bs l) (grownCap W l.length 0 e)).size + 1))
 have hd : W.drew.heap.size = W.heap.size := rfl
 rw [hd] at hh
 have hlt := lt_of_get hj
 simp only [List.length_map] at hlt
 have hb := bytesRow_at (bs l) (grownCap W l.length 0 e) j (by simpa [bs] using hlt)
 simp only [World.cell?,hh,Nat.zero_add]
 rw [if_neg (by simp),hb,← hj]
 simp [bs,bv,List.getElem?_eq_getElem hlt]
theorem Rv_own {W W' : World} {row : Option Nat} {A : Option Addr} {xs : List Value} (h : Rv W A xs) (hg : W.grownBy W' row) (hr : ∀ r,row = some r → ∃ o : Obj,W.heap[r]? = some o ∧ o.isCells = false) : Rv W' A xs := fun hp => by
 obtain ⟨b,o,e,hc⟩ := h hp
 exact ⟨b,o,e,fun j v hj => cell_kept (hc j v hj) hg hr⟩
theorem Rb_own {W W' : World} {row : Option Nat} {A : Option Addr} {l : List UInt8} (h : Rb W A l) (hg : W.grownBy W' row) (hr : ∀ r,row = some r → ∃ o : Obj,W.heap[r]? = some o ∧ o.isCells = false) : Rb W' A l := Rv_own h hg hr
theorem own_base {W : World} {b b' e size n : Nat} {v : Value} {xs : List Value} (h : W.ownsRow b e size v n xs) (hb : b' ≤ b) : W.ownsRow b' e size v n xs := by
 refine ⟨h.1,?_⟩
 rcases h.2 with h1 | ⟨g,cap,cur,h1,h2,h3⟩
 ·exact .inl h1
 ·exact .inr ⟨g,cap,cur,h1,Nat.le_trans hb h2,h3⟩
theorem Rv.setFar {W : World} {b o : Nat} {xs : List Value} (h : Rv W (some ⟨b,o,none⟩) xs) {p : Addr} (hp : p.block ≠ b) (u : Value) : Rv (W.setCell p u) (some ⟨b,o,none⟩) xs := fun hl => by
 obtain ⟨b',o',e,hc⟩ := h hl
 cases e
 exact ⟨b,o,rfl,fun j v hj => (World.cell?_setCell_other W p ⟨b,o + j,none⟩ u (fun e => hp (by rw [e]))).trans (hc j v hj)⟩
theorem Rb.setFar {W : World} {b o : Nat} {l : List UInt8} (h : Rb W (some ⟨b,o,none⟩) l) {p : Addr} (hp : p.block ≠ b) (u : Value) : Rb (W.setCell p u) (some ⟨b,o,none⟩) l := Rv.setFar h hp u
end
section
open Go.RowKit
structure ElT (P : Program) (t e : TypeId) (size bytes : Nat) : Prop where
 und : P.underlying t = some (.slice e)
 pos : 0 < size
 bpos : 1 ≤ bytes
 ex : ∃ i z,P.info? e = some i ∧ i.zero = some z ∧ i.size = size ∧ i.bytes = bytes ∧ z.cells.size = size
section
variable {P : Program} {w : World}
theorem ElT.mk' {t e : TypeId} {size bytes : Nat} {z : Value} (h : P.underlying t = some (.slice e)) (hp : 0 < size) (hb : 1 ≤ bytes) (hz : z.cells.size = size)
  (hi : (P.info? e).map (fun i => (i.zero,i.size,i.bytes)) = some (some z,size,bytes)) : ElT P t e size bytes := by
 obtain ⟨i,h1,h2,h3,h4⟩ := info_parts hi
 exact ⟨h,hp,hb,i,z,h1,h2,h3,h4,hz⟩
theorem Src_rv {size : Nat} {tx e' : TypeId} (hk : P.underlying tx = some (.slice e')) {A : Option Addr} {n c : Nat} {news : List Value} (hl : news.length = n * size) (h : Rv w A news) (h1 : ∀ u ∈ news,u.oneCell' = true) (hsz : 0 < size) :
  Src P size tx (.slice A n c) n news w := by
 rcases Nat.eq_zero_or_pos n with h0 | h0
 ·subst h0
  have : news = [] := List.eq_nil_of_length_eq_zero (by simpa using hl)
  subst this
  rcases A with _ | a
  ·exact Src.ofNil w hk c
  ·exact Src.ofSlice w hk a 0 c [] (by simp) (by simp) (by simp)
 ·have hp : 0 < news.length := by rw [hl]; exact Nat.mul_pos h0 hsz
  obtain ⟨b,o,rfl,hc⟩ := h hp
  refine Src.ofSlice w hk _ n c news hl (fun j u hj => ?_) h1
  have hplain : (⟨b,o,none⟩ : Addr).add j = ⟨b,o + j,none⟩ := by unfold Addr.add; split <;> simp_all
  rw [hplain]
  exact hc j u hj
theorem bv_one (l : List UInt8) : ∀ u ∈ l.map bv,u.oneCell' = true := by
 intro u hu
 obtain ⟨b,_,rfl⟩ := List.mem_map.1 hu
 rfl
theorem Src_rb {tx e' : TypeId} (hk : P.underlying tx = some (.slice e')) {A : Option Addr} {n c : Nat} {l : List UInt8} (hl : l.length = n) (h : Rb w A l) : Src P 1 tx (.slice A n c) n (l.map bv) w :=
 Src_rv hk (by simp [hl]) h (bv_one l) (by omega)
theorem Src_str {tx : TypeId} (hk : P.underlying tx = some .string) (l : List UInt8) : Src P 1 tx (.string (bs l)) l.length (l.map bv) w := by
 have h := Src.ofString (P := P) w hk (bs l)
 rw [bs_size] at h
 have e : byteCells (bs l) = l.map bv := by unfold byteCells; rw [bs_toList]; rfl
 rw [e] at h
 exact h
theorem run_app {t tx ty e : TypeId} {size bytes : Nat} (T : ElT P t e size bytes) {base : Nat} {v : Value} {n : Nat} {xs : List Value} (hown : w.ownsRow base e size v n xs)
  {x : Value} {m : Nat} {news : List Value} (hs : Src P size tx x m news w) (hb : (n + m) * bytes ≤ 140737488355328) (hbase : base ≤ w.heap.size) :
  ∃ v' w',(Builtin.append_ #[t,tx] ty #[v,x]).run P w = .ok v' w' ∧ w'.ownsRow base e size v' (n + m) (xs ++ news) ∧ w.grownBy w' v.ownBlock ∧ (v'.ownBlock = v.ownBlock ∨ v'.ownBlock = some w.heap.size) := by
 obtain ⟨ht,hsz,hbp,i,z,hi,hz,rfl,rfl,hzs⟩ := T
 have hnm : n + m ≤ (n + m) * i.bytes := Nat.le_mul_of_pos_right _ hbp
 have h63 : n + m ≤ maxLen := by unfold maxLen; omega
 have hsmall : n + m ≤ 9223372036854775807 := by omega
 have hl := hs.newsLen
 have hlen : (xs ++ news).length = (n + m) * i.size := by rw [List.length_append,hown.1,hl,Nat.add_mul]
 have grown : ∀ (old : Nat),old < n + m → ∀ (row : Option Nat),
   (w.drew.alloc (.cells ((xs ++ news).toArray ++ Builtin.zeroCells z.cells (grownCap w (n + m) old e - (n + m))) e)).ownsRow base e i.size
    (.slice (some ⟨w.heap.size,0,none⟩) (n + m) (grownCap w (n + m) old e)) (n + m) (xs ++ news) ∧
   w.grownBy (w.drew.alloc (.cells ((xs ++ news).toArray ++ Builtin.zeroCells z.cells (grownCap w (n + m) old e - (n + m))) e)) row := by
  intro old ho row
  have hge := grownCap_ge w (n + m) old e
  have hcm : grownCap w (n + m) old e ≤ maxLen := grownCap_le_maxLen w (n + m) old e h63
  refine ⟨⟨hlen,.inr ⟨w.heap.size,_,_,rfl,hbase,heap_alloc_new w.drew _,hge,hcm,?_,?_⟩⟩,⟨rfl,rfl,rfl,by simp,fun k hk _ => heap_alloc_old w.drew _ hk⟩⟩
  ·simp only [Array.size_append,List.size_toArray,size_zeroCells,hzs,hlen,← Nat.add_mul]
   congr 1
   omega
  ·simp only [Array.toList_append]
   rw [← hlen]
   exact List.take_left
 have grow : ∀ (A : Option Addr) (c : Nat),c < n + m → (Builtin.firstCells i.size n (.slice A n c)).run P w.drew = .ok xs.toArray w.drew → v = .slice A n c →
   ∃ v' w',(Builtin.append_ #[t,tx] ty #[v,x]).run P w = .ok v' w' ∧ w'.ownsRow base e i.size v' (n + m) (xs ++ news) ∧ w.grownBy w' v.ownBlock ∧ (v'.ownBlock = v.ownBlock ∨ v'.ownBlock = some w.heap.size) := by
  rintro A c hc hold rfl
  have hr := run_append_grow_src (P := P) w t tx ty e i z ht hi hz A n c xs hold x m news hs hc (by omega) (growslice_fits hc hb)
  have hgr := grown c hc (Value.ownBlock (.slice A n c))
  exact ⟨_,_,hr,hgr.1,hgr.2,.inr rfl⟩
 rcases hown.2 with ⟨rfl,rfl⟩ | ⟨g,cap,cur,rfl,hbg,hg,hnc,hcm,hcs,htake⟩
 ·have hx : xs = [] := List.eq_nil_of_length_eq_zero (by simpa using hown.1)
  subst hx
  by_cases hm : m = 0
  ·subst hm
   have hn : news = [] := List.eq_nil_of_length_eq_zero (by simpa using hl)
   subst hn
   refine ⟨.slice none 0 0,w,?_,World.ownsRow_nil w base e i.size,⟨rfl,rfl,rfl,Nat.le_refl _,fun _ _ _ => rfl⟩,.inl rfl⟩
   rcases hs.kind with ⟨e',hk⟩ | hk <;> simp [Builtin.append_,run_underlying ht,run_underlying hk,sizeOf,typeInfo,hi,hs.len,hs.cells]
  ·exact grow none 0 (by omega) (run_firstCells_none w.drew i.size 0 0 0) rfl
 ·by_cases hroom : n + m ≤ cap
  ·have hfit : n * i.size + news.length ≤ cur.size := by rw [hl,hcs,← Nat.add_mul]; exact Nat.mul_le_mul_right _ hroom
   have hst := run_storeCells_at P g (n * i.size) e news 0 cur w hg (by simpa using hfit) hs.one
   simp only [Nat.add_zero] at hst
   refine ⟨.slice (some ⟨g,0,none⟩) (n + m) cap,w.setRow g (cur.toList.take (n * i.size) ++ news ++ cur.toList.drop (n * i.size + news.length)).toArray,?_,
    ⟨hlen,.inr ⟨g,cap,_,rfl,hbg,setRow_heap w g cur _ e _ hg,hroom,hcm,?_,?_⟩⟩,⟨rfl,rfl,rfl,by simp,fun k _ hk => setRow_other w g k _ (fun e => hk (by simp [Value.ownBlock,e]))⟩,.inl rfl⟩
   ·rcases hs.kind with ⟨e',hk⟩ | hk <;> simp [Builtin.append_,run_underlying ht,run_underlying hk,sizeOf,typeInfo,hi,hs.len,hroom,hs.cells,Addr.add_lit,hst]
   ·simp only [List.size_toArray,List.length_append,List.length_take,List.length_drop,Array.length_toList]
    omega
   ·rw [htake,← hlen]
    exact List.take_left
  ·refine grow _ cap (by omega) ?_ rfl
   have holds : ∀ j u,xs[j]? = some u → w.cell? ((⟨g,0,none⟩ : Addr).add j) = some u := hown.cells (g := g) rfl
   exact run_firstCells_some w.drew i.size n _ n cap xs hown.1 (by simpa using holds)
theorem wp_app {o : Oper} {a : Act} {K : Act → World → Prop} {Q : Exit → Act → World → Prop} (s x : Operand) (t tx : TypeId)
  (ho : o.op = .call { callee := .builtin .append,args := #[s,x],argTypes := #[t,tx] }) {e : TypeId} {size bytes : Nat} (T : ElT P t e size bytes) {base : Nat} {v : Value} {n : Nat} {xs : List Value}
  (hown : w.ownsRow base e size v n xs) (hs : a.eval s = v) {y : Value} {m : Nat} {news : List Value} (hsrc : Src P size tx y m news w) (hx : a.eval x = y) (hb : (n + m) * bytes ≤ 140737488355328) (hbase : base ≤ w.heap.size)
  (h : ∀ v' w',w'.ownsRow base e size v' (n + m) (xs ++ news) → w.grownBy w' v.ownBlock → (v'.ownBlock = v.ownBlock ∨ v'.ownBlock = some w.heap.size) → K (a.put o.dst v') w') : o.wp P a w K Q := by
 obtain ⟨v',w',hrun,h2,h3,h4⟩ := run_app (ty := o.type) T hown hsrc hb hbase
 unfold Oper.wp execOp
 simp only [ho,resolve,invoke,builtin,Sem.run_bind,Sem.run_pure,Result.andThen_ok,List.map_toArray,List.map_cons,List.map_nil,hs,hx,hrun]
 exact h v' w' h2 h3 h4
theorem wpList_app {ops : Array Oper} {rest : List Oper} {o : Oper} {a : Act} {Q : Exit → Act → World → Prop} (hgd : o.guard = none) (s x : Operand) (t tx : TypeId)
  (ho : o.op = .call { callee := .builtin .append,args := #[s,x],argTypes := #[t,tx] }) {e : TypeId} {size bytes : Nat} (T : ElT P t e size bytes) {base : Nat} {v : Value} {n : Nat} {xs : List Value}
  (hown : w.ownsRow base e size v n xs) (hs : a.eval s = v) {y : Value} {m : Nat} {news : List Value} (hsrc : Src P size tx y m news w) (hx : a.eval x = y) (hb : (n + m) * bytes ≤ 140737488355328) (hbase : base ≤ w.heap.size)
  (h : ∀ v' w',w'.ownsRow base e size v' (n + m) (xs ++ news) → w.grownBy w' v.ownBlock → (v'.ownBlock = v.ownBlock ∨ v'.ownBlock = some w.heap.size) → wpList P ops Q rest (a.put o.dst v') w') : wpList P ops Q (o :: rest) a w :=
 wpList_plain hgd fun _ hK => wp_app s x t tx ho T hown hs hsrc hx hb hbase fun v' w' h2 h3 h4 => hK _ _ (h v' w' h2 h3 h4)
theorem step_app {ops : Array Oper} {o : Oper} {a : Act} {K : Act → World → Prop} {Q : Exit → Act → World → Prop} {E : Prop} (hgd : o.guard = none) (s x : Operand) (t tx : TypeId)
  (ho : o.op = .call { callee := .builtin .append,args := #[s,x],argTypes := #[t,tx] }) {e : TypeId} {size bytes : Nat} (T : ElT P t e size bytes) {base : Nat} {v : Value} {n : Nat} {xs : List Value}
  (hown : w.ownsRow base e size v n xs) (hs : a.eval s = v) {y : Value} {m : Nat} {news : List Value} (hsrc : Src P size tx y m news w) (hx : a.eval x = y) (hb : (n + m) * bytes ≤ 140737488355328) (hbase : base ≤ w.heap.size)
  (h : ∀ v' w',w'.ownsRow base e size v' (n + m) (xs ++ news) → w.grownBy w' v.ownBlock → (v'.ownBlock = v.ownBlock ∨ v'.ownBlock = some w.heap.size) → K (a.put o.dst v') w') :
  if Region.wanted o (yielded ops a.tmps) = true then Oper.wp P o a w K Q else E := by
 have hw : Region.wanted o (yielded ops a.tmps) = true := by simp [Region.wanted,hgd]
 rw [if_pos hw]
 exact wp_app s x t tx ho T hown hs hsrc hx hb hbase h
theorem wpListIn_app {F : Fence} {f : Nat} {ops : Array Oper} {rest : List Oper} {o : Oper} {a : Act} {Q : Exit → Act → World → Prop} (hgd : o.guard = none) (s x : Operand) (t tx : TypeId)
  (hop : o.op = .call { callee := .builtin .append,args := #[s,x],argTypes := #[t,tx] }) {e : TypeId} {size bytes : Nat} (T : ElT P t e size bytes) {base : Nat} {v : Value} {n : Nat} {xs : List Value}
  (hown : w.ownsRow base e size v n xs) (hs : a.eval s = v) {y : Value} {m : Nat} {news : List Value} (hsrc : Src P size tx y m news w) (hx : a.eval x = y) (hb : (n + m) * bytes ≤ 140737488355328) (hbase : base ≤ w.heap.size)
  (h : ∀ v' w',w'.ownsRow base e size v' (n + m) (xs ++ news) → w.grownBy w' v.ownBlock → (v'.ownBlock = v.ownBlock ∨ v'.ownBlock = some w.heap.size) → wpListIn F f P ops Q rest (a.put o.dst v') w') : wpListIn F f P ops Q (o :: rest) a w := by
 refine wpListIn_plain hgd fun K hK' => ?_
 obtain ⟨v',w',hrun,r1,r2,r3⟩ := run_app (ty := o.type) T hown hsrc hb hbase
 unfold Oper.wpIn
 refine ⟨?_,?_⟩
 ·simp [Oper.about,hop,resolve,Target.leads,Sem.run_pure]
 ·rw [Oper.semAt_plain F _ _ (by rw [hop]; intro c hc'; cases hc')]
  simp [execOp,hop,resolve,invoke,builtin,hs,hx,hrun,Result.andThen]
  exact hK' _ _ (h v' w' r1 r2 r3)
theorem below_app {B : Nat} {W w w' : World} {base e size n : Nat} {v : Value} {xs : List Value} (hb : Below B W w) (hown : w.ownsRow base e size v n xs) (hg : w.grownBy w' v.ownBlock) (hB : B ≤ w.heap.size) (hbase : B ≤ base) : Below B W w' :=
 hb.grown hg hB (fun k hk => by have := hown.lt k hk; omega)
end
end
end Go.Proofs.YtkllecicddfjpaaGreatDoor
