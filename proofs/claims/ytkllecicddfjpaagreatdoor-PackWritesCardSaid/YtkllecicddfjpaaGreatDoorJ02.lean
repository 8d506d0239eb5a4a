/- The walk of the law, part 2. -/
import Derived.Test.YtkllecicddfjpaaGreatDoorJ01
import Derived.Lib.LaidU8
import Derived.Lib.ConvBytes
import Derived.Test.YtkllecicddfjpaaGreatDoorChecked
set_option maxRecDepth 100000
set_option maxHeartbeats 16000000
set_option linter.unusedVariables false
set_option linter.unusedSimpArgs false
namespace Go.Proofs.YtkllecicddfjpaaGreatDoor
section
open Go.RowKit
theorem tabs_below {g3 g4 : Nat} {w w' : World} (h : Lib.Utf8Tabs g3 g4 w) (hb : Below w.heap.size w w') : Lib.Utf8Tabs g3 g4 w' :=
 ⟨fun c hc => (hb.cell (p := ⟨g3,c,none⟩) (cell_lt (h.1 c hc))).trans (h.1 c hc),
  fun i hi => ⟨(hb.cell (p := ⟨g4,2 * i,none⟩) (cell_lt (h.2 i hi).1)).trans (h.2 i hi).1,(hb.cell (p := ⟨g4,2 * i + 1,none⟩) (cell_lt (h.2 i hi).2)).trans (h.2 i hi).2⟩⟩
theorem Rv.drop {w : World} {b o : Nat} {xs : List Value} (h : Rv w (some ⟨b,o,none⟩) xs) (q : Nat) : Rv w (some ⟨b,o + q,none⟩) (xs.drop q) := fun hp => by
 obtain ⟨b',o',e,hc⟩ := h (by simp at hp; omega)
 cases e
 exact ⟨b,o + q,rfl,fun j v hj => by rw [Nat.add_assoc]; exact hc _ v (by rw [← hj,List.getElem?_drop])⟩
theorem Rb.drop {w : World} {b o : Nat} {l : List UInt8} (h : Rb w (some ⟨b,o,none⟩) l) (q : Nat) : Rb w (some ⟨b,o + q,none⟩) (l.drop q) := by
 have := Rv.drop h q
 rwa [← List.map_drop] at this
theorem Rv_new (w : World) (cs : Array Value) (xs : List Value) (t : TypeId) (h : cs = xs.toArray) : Rv (w.alloc (.cells cs t)) (some ⟨w.heap.size,0,none⟩) xs := fun _ =>
 ⟨w.heap.size,0,rfl,fun j v hj => by rw [World.cell?_alloc_new,h,Nat.zero_add]; simpa using hj⟩
theorem own_form {w : World} {base e size n : Nat} {v : Value} {xs : List Value} (h : w.ownsRow base e size v n xs) : ∃ A c,v = .slice A n c ∧ n ≤ c ∧ c ≤ maxLen ∧ Rv w A xs ∧ xs.length = n * size := by
 have hl := h.1
 rcases h.2 with ⟨rfl,h0⟩ | ⟨g,cap,cur,rfl,_,_,h1,h2,_⟩
 ·subst h0
  have : xs = [] := List.eq_nil_of_length_eq_zero (by simpa using hl)
  subst this
  exact ⟨none,0,rfl,Nat.le_refl _,by unfold maxLen; omega,Rv.nil _ _,hl⟩
 ·refine ⟨_,cap,rfl,h1,h2,fun _ => ⟨g,0,rfl,fun j v hj => ?_⟩,hl⟩
  have hlt := lt_of_get hj
  rw [Nat.zero_add,h.cellAt j (by omega)]
  exact hj
theorem makeN {P : Program} {t e : TypeId} {i : TypeInfo} {z : Value} {bytes : Nat} (ht : P.underlying t = some (.slice e)) (hi : P.info? e = some i) (hz : i.zero = some z) (hs : i.size = 1) (hb : i.bytes = bytes)
  (kl kc : IntKind) (m : Nat) (b2 : bytes * m ≤ 281474976710656) (b3 : m ≤ 9223372036854775807) :
  ∃ X : Array Value,X.size = m ∧ ∀ W : World,(Instr.makeSlice t (.int kl m) (.int kc m)).run P W = .ok (.slice (some ⟨W.heap.size,0,none⟩) m m) (W.alloc (.cells X e)) := by
 have hb2 : (i.bytes : Int) * (m : Int) ≤ 281474976710656 := by
  rw [hb,← Int.natCast_mul]
  generalize bytes * m = q at b2
  omega
 refine ⟨madeCells z.cells (m * 1),?_,fun W => ?_⟩
 ·rw [size_madeCells,Nat.mul_one]
 ·have h := run_make (P := P) W t e i z ht hi hz kl kc (m : Int) (m : Int) (by omega) (by omega) hb2 (by omega)
  simpa [hs] using h
end
section
open Go.RowKit
def offM (fz : Nat × Nat) (size : Nat) : Prop := fz.2 = 0 ∨ size ≤ fz.1
def OwnM (w : World) (base : Nat) (e : TypeId) (size : Nat) (v : Value) (n : Nat) (xs : List Value) : Prop :=
 xs.length = n * size ∧
 ((v = .slice none 0 0 ∧ n = 0) ∨
  ∃ g cap cur fz,v = .slice (some ⟨g,0,none⟩) n cap ∧ base ≤ g ∧ w.heap[g]? = some (.cells cur e fz) ∧ offM fz cur.size ∧ n ≤ cap ∧ cap ≤ maxLen ∧ cur.size = cap * size ∧ cur.toList.take (n * size) = xs)
theorem run_storeCells_atM (P : Program) (g o : Nat) (t : TypeId) (fz : Nat × Nat) : ∀ (vs : List Value) (i : Nat) (cur : Array Value) (w : World),w.heap[g]? = some (.cells cur t fz) → offM fz cur.size → o + i + vs.length ≤ cur.size → (∀ v ∈ vs,v.oneCell' = true) →
  (storeCells ⟨g,o,none⟩ vs i).run P w = .ok () (w.setRow g (cur.toList.take (o + i) ++ vs ++ cur.toList.drop (o + i + vs.length)).toArray)
 | [],i,cur,w,hg,_,_,_ => by
  simp only [storeCells,List.append_nil,List.length_nil,Nat.add_zero,List.take_append_drop,Array.toArray_toList]
  rw [setRow_self w g cur t fz hg]
  rfl
 | v :: rest,i,cur,w,hg,hfz,hl,h1 => by
  have hi : o + i < cur.size := by simp at hl; omega
  have hadd : (⟨g,o,none⟩ : Addr).add i = ⟨g,o + i,none⟩ := by unfold Addr.add; split <;> simp_all
  have hcell : w.cell? ⟨g,o + i,none⟩ = some cur[o + i] := by simp [World.cell?,hg,hi]
  have hfro : w.frozen? ⟨g,o + i,none⟩ = false := by
   obtain ⟨lo,hi'⟩ := fz
   simp only [World.frozen?,hg,Bool.and_eq_false_iff,decide_eq_false_iff_not]
   rcases hfz with h | h
   ·right
    simp only at h
    omega
   ·left
    simp only at h
    omega
  have hst : (store ((⟨g,o,none⟩ : Addr).add i) v).run P w = .ok () (w.setRow g (cur.setIfInBounds (o + i) v)) := by
   rw [hadd,run_store P w _ v _ (h1 v (by simp)),hcell]
   simp [hfro,setCell_eq_setRow w g (o + i) cur t fz v hg]
  have ih := run_storeCells_atM P g o t fz rest (i + 1) (cur.setIfInBounds (o + i) v) (w.setRow g (cur.setIfInBounds (o + i) v)) (setRow_heap w g cur _ t _ hg) (by simpa using hfz) (by simp at hl ⊢; omega) (fun x hx => h1 x (by simp [hx]))
  simp only [storeCells,Sem.run_bind,hst,Result.andThen_ok,ih,setRow_setRow]
  congr 3
  have e := list_seg_step cur.toList (o + i) v rest (by simp at hl ⊢; omega)
  simpa [Array.toList_setIfInBounds,Nat.add_assoc] using e
section
variable {w : World} {base : Nat} {e : TypeId} {size : Nat} {v : Value} {n : Nat} {xs : List Value}
theorem OwnM.of (h : w.ownsRow base e size v n xs) : OwnM w base e size v n xs := by
 refine ⟨h.1,?_⟩
 rcases h.2 with hn | ⟨g,cap,cur,hv,hb,hg,rest⟩
 ·exact .inl hn
 ·exact .inr ⟨g,cap,cur,(0,0),hv,hb,hg,.inl rfl,rest⟩
theorem OwnM.nil (w : World) (base : Nat) (e : TypeId) (size : Nat) : OwnM w base e size (.slice none 0 0) 0 [] := ⟨by simp,.inl ⟨rfl,rfl⟩⟩
theorem OwnM.lt (h : OwnM w base e size v n xs) : ∀ k,v.ownBlock = some k → base ≤ k ∧ k < w.heap.size := by
 intro k hk
 rcases h.2 with ⟨rfl,_⟩ | ⟨g,cap,cur,fz,rfl,hb,hg,_⟩
 ·simp [Value.ownBlock] at hk
 ·simp [Value.ownBlock] at hk
  subst hk
  exact ⟨hb,(Array.getElem?_eq_some_iff.1 hg).1⟩
theorem OwnM.kept {w' : World} {row : Option Nat} (h : OwnM w base e size v n xs) (hg : w.grownBy w' row) (hne : v.ownBlock = none ∨ v.ownBlock ≠ row) : OwnM w' base e size v n xs := by
 refine ⟨h.1,?_⟩
 rcases h.2 with hn | ⟨g,cap,cur,fz,rfl,hb,hgg,rest⟩
 ·exact .inl hn
 ·refine .inr ⟨g,cap,cur,fz,rfl,hb,?_,rest⟩
  rw [hg.block g (Array.getElem?_eq_some_iff.1 hgg).1 (by simpa [Value.ownBlock] using hne)]
  exact hgg
theorem OwnM.alloc (h : OwnM w base e size v n xs) (o : Obj) : OwnM (w.alloc o) base e size v n xs := h.kept (World.grownBy_alloc w o none) (by cases hv : v.ownBlock <;> simp)
theorem OwnM.below {w' : World} (h : OwnM w base e size v n xs) (hb : Below w.heap.size w w') : OwnM w' base e size v n xs := h.kept (grown_of_below hb none) (by cases v.ownBlock <;> simp)
theorem OwnM.rebase {b' : Nat} (h : OwnM w base e size v n xs) (hb : b' ≤ base) : OwnM w b' e size v n xs := by
 refine ⟨h.1,?_⟩
 rcases h.2 with hn | ⟨g,cap,cur,fz,hv,hbg,rest⟩
 ·exact .inl hn
 ·exact .inr ⟨g,cap,cur,fz,hv,Nat.le_trans hb hbg,rest⟩
theorem OwnM.cells (h : OwnM w base e size v n xs) {g : Nat} (hg : v.ownBlock = some g) : ∀ j u,xs[j]? = some u → w.cell? ((⟨g,0,none⟩ : Addr).add j) = some u := by
 intro j u hu
 rcases h.2 with ⟨rfl,_⟩ | ⟨g',cap,cur,fz,rfl,_,hgg,_,_,_,_,htake⟩
 ·simp [Value.ownBlock] at hg
 ·simp [Value.ownBlock] at hg
  subst hg
  have hadd : (⟨g',0,none⟩ : Addr).add j = ⟨g',j,none⟩ := by unfold Addr.add; split <;> simp_all
  rw [hadd,cell_of_row w g' j cur e fz hgg]
  rw [← htake,List.getElem?_take] at hu
  split at hu
  ·simpa using hu
  ·cases hu
theorem OwnM.form (h : OwnM w base e size v n xs) : ∃ A c,v = .slice A n c ∧ n ≤ c ∧ c ≤ maxLen ∧ Rv w A xs ∧ xs.length = n * size ∧ (A = none → c = 0) ∧ (A = none ∨ ∃ b,A = some ⟨b,0,none⟩) := by
 have hl := h.1
 have hcl : ∀ g,v.ownBlock = some g → ∀ j u,xs[j]? = some u → w.cell? ((⟨g,0,none⟩ : Addr).add j) = some u := fun g hg => h.cells hg
 rcases h.2 with ⟨rfl,h0⟩ | ⟨g,cap,cur,fz,rfl,_,_,_,h1,h2,_⟩
 ·subst h0
  have : xs = [] := List.eq_nil_of_length_eq_zero (by simpa using hl)
  subst this
  exact ⟨none,0,rfl,Nat.le_refl _,by unfold maxLen; omega,fun hp => by simp at hp,hl,fun _ => rfl,.inl rfl⟩
 ·refine ⟨some ⟨g,0,none⟩,cap,rfl,h1,h2,fun _ => ⟨g,0,rfl,fun j u hu => ?_⟩,hl,(fun h => absurd h (by simp)),Or.inr ⟨g,rfl⟩⟩
  have := hcl g rfl j u hu
  rwa [show (⟨g,0,none⟩ : Addr).add j = ⟨g,0 + j,none⟩ by unfold Addr.add; split <;> simp_all] at this
theorem below_appM {B : Nat} {W w w' : World} {base e size n : Nat} {v : Value} {xs : List Value} (hb : Below B W w) (hown : OwnM w base e size v n xs) (hg : w.grownBy w' v.ownBlock) (hB : B ≤ w.heap.size) (hbase : B ≤ base) : Below B W w' :=
 hb.grown hg hB (fun k hk => by have := hown.lt k hk; omega)
end
theorem conv_bs {P : Program} {src dst e : TypeId} {u : TypeDesc} (hs : P.underlying src = some u) (hd : P.underlying dst = some (.slice e)) (he : P.underlying e = some (.int .u8)) (w : World) (l : List UInt8) (hl : l.length ≤ maxLen) :
  ∃ c W,(convert src dst (.string (bs l))).run P w = .ok (.slice (some ⟨w.heap.size,0,none⟩) l.length c) W ∧ OwnM W w.heap.size e 1 (.slice (some ⟨w.heap.size,0,none⟩) l.length c) l.length (l.map bv) ∧ Below w.heap.size w W ∧ W.heap.size = w.heap.size + 1 := by
 have h := Lib.run_convert_string_bytes (P := P) w src dst e (bs l) hs hd he
 rw [bs_size] at h
 refine ⟨_,_,h,⟨by simp,.inr ⟨w.heap.size,_,_,_,rfl,Nat.le_refl _,Lib.bytesWorld_at_new w e (bs l),.inr (Nat.le_refl _),grownCap_ge _ _ _ _,grownCap_le_maxLen _ _ _ _ hl,?_,?_⟩⟩,⟨rfl,rfl,rfl,by rw [Lib.bytesWorld_size]; omega,fun j hj => Lib.bytesWorld_at_old w e (bs l) j hj⟩,Lib.bytesWorld_size w e (bs l)⟩
 ·have h1 := grownCap_ge w l.length 0 e
  have h2 : (bs l).size = l.length := bs_size l
  have h3 : (bs l).data.size = l.length := bs_size l
  simp only [Lib.bytesCells,Array.size_append,Array.size_map,Array.size_replicate,h2,h3]
  omega
 ·simp only [Lib.bytesCells,bs,Array.toList_append,Array.toList_map,Nat.mul_one]
  exact List.take_left' (by simp)
section
variable {P : Program} {w : World}
theorem run_appM {t tx ty e : TypeId} {size bytes : Nat} (T : ElT P t e size bytes) {base : Nat} {v : Value} {n : Nat} {xs : List Value} (hown : OwnM w base e size v n xs)
  {x : Value} {m : Nat} {news : List Value} (hs : Src P size tx x m news w) (hb : (n + m) * bytes ≤ 140737488355328) (hbase : base ≤ w.heap.size) :
  ∃ v' w',(Builtin.append_ #[t,tx] ty #[v,x]).run P w = .ok v' w' ∧ OwnM w' base e size v' (n + m) (xs ++ news) ∧ w.grownBy w' v.ownBlock ∧ (v'.ownBlock = v.ownBlock ∨ v'.ownBlock = some w.heap.size) := by
 obtain ⟨ht,hsz,hbp,i,z,hi,hz,rfl,rfl,hzs⟩ := T
 have hnm : n + m ≤ (n + m) * i.bytes := Nat.le_mul_of_pos_right _ hbp
 have h63 : n + m ≤ maxLen := by unfold maxLen; omega
 have hsmall : n + m ≤ 9223372036854775807 := by omega
 have hl := hs.newsLen
 have hlen : (xs ++ news).length = (n + m) * i.size := by rw [List.length_append,hown.1,hl,Nat.add_mul]
 have grown : ∀ (old : Nat),old < n + m → ∀ (row : Option Nat),
   OwnM (w.drew.alloc (.cells ((xs ++ news).toArray ++ Builtin.zeroCells z.cells (grownCap w (n + m) old e - (n + m))) e)) base e i.size
    (.slice (some ⟨w.heap.size,0,none⟩) (n + m) (grownCap w (n + m) old e)) (n + m) (xs ++ news) ∧
   w.grownBy (w.drew.alloc (.cells ((xs ++ news).toArray ++ Builtin.zeroCells z.cells (grownCap w (n + m) old e - (n + m))) e)) row := by
  intro old ho row
  have hge := grownCap_ge w (n + m) old e
  have hcm : grownCap w (n + m) old e ≤ maxLen := grownCap_le_maxLen w (n + m) old e h63
  refine ⟨⟨hlen,.inr ⟨w.heap.size,_,_,(0,0),rfl,hbase,heap_alloc_new w.drew _,.inl rfl,hge,hcm,?_,?_⟩⟩,⟨rfl,rfl,rfl,by simp,fun k hk _ => heap_alloc_old w.drew _ hk⟩⟩
  ·simp only [Array.size_append,List.size_toArray,size_zeroCells,hzs,hlen,← Nat.add_mul]
   congr 1
   omega
  ·simp only [Array.toList_append]
   rw [← hlen]
   exact List.take_left
 have grow : ∀ (A : Option Addr) (c : Nat),c < n + m → (Builtin.firstCells i.size n (.slice A n c)).run P w.drew = .ok xs.toArray w.drew → v = .slice A n c →
   ∃ v' w',(Builtin.append_ #[t,tx] ty #[v,x]).run P w = .ok v' w' ∧ OwnM w' base e i.size v' (n + m) (xs ++ news) ∧ w.grownBy w' v.ownBlock ∧ (v'.ownBlock = v.ownBlock ∨ v'.ownBlock = some w.heap.size) := by
  rintro A c hc hold rfl
  have hr := run_append_grow_src (P := P) w t tx ty e i z ht hi hz A n c xs hold x m news hs hc (by omega) (growslice_fits hc hb)
  have hgr := grown c hc (Value.ownBlock (.slice A n c))
  exact ⟨_,_,hr,hgr.1,hgr.2,.inr rfl⟩
 rcases hown.2 with ⟨rfl,rfl⟩ | ⟨g,cap,cur,fz,rfl,hbg,hg,hfz,hnc,hcm,hcs,htake⟩
 ·have hx : xs = [] := List.eq_nil_of_length_eq_zero (by simpa using hown.1)
  subst hx
  by_cases hm : m = 0
  ·subst hm
   have hn : news = [] := List.eq_nil_of_length_eq_zero (by simpa using hl)
   subst hn
   refine ⟨.slice none 0 0,w,?_,OwnM.nil w base e i.size,⟨rfl,rfl,rfl,Nat.le_refl _,fun _ _ _ => rfl⟩,.inl rfl⟩
   rcases hs.kind with ⟨e',hk⟩ | hk <;> simp [Builtin.append_,run_underlying ht,run_underlying hk,sizeOf,typeInfo,hi,hs.len,hs.cells]
  ·exact grow none 0 (by omega) (run_firstCells_none w.drew i.size 0 0 0) rfl
 ·by_cases hroom : n + m ≤ cap
  ·have hfit : n * i.size + news.length ≤ cur.size := by rw [hl,hcs,← Nat.add_mul]; exact Nat.mul_le_mul_right _ hroom
   have hst := run_storeCells_atM P g (n * i.size) e fz news 0 cur w hg hfz (by simpa using hfit) hs.one
   simp only [Nat.add_zero] at hst
   refine ⟨.slice (some ⟨g,0,none⟩) (n + m) cap,w.setRow g (cur.toList.take (n * i.size) ++ news ++ cur.toList.drop (n * i.size + news.length)).toArray,?_,
    ⟨hlen,.inr ⟨g,cap,_,fz,rfl,hbg,setRow_heap w g cur _ e _ hg,?_,hroom,hcm,?_,?_⟩⟩,⟨rfl,rfl,rfl,by simp,fun k _ hk => setRow_other w g k _ (fun e => hk (by simp [Value.ownBlock,e]))⟩,.inl rfl⟩
   ·rcases hs.kind with ⟨e',hk⟩ | hk <;> simp [Builtin.append_,run_underlying ht,run_underlying hk,sizeOf,typeInfo,hi,hs.len,hroom,hs.cells,Addr.add_lit,hst]
   ·have : (cur.toList.take (n * i.size) ++ news ++ cur.toList.drop (n * i.size + news.length)).toArray.size = cur.size := by
     simp only [List.size_toArray,List.length_append,List.length_take,List.length_drop,Array.length_toList]
     omega
    rw [this]
    exact hfz
   ·simp only [List.size_toArray,List.length_append,List.length_take,List.length_drop,Array.length_toList]
    omega
   ·rw [htake,← hlen]
    exact List.take_left
  ·refine grow _ cap (by omega) ?_ rfl
   have holds : ∀ j u,xs[j]? = some u → w.cell? ((⟨g,0,none⟩ : Addr).add j) = some u := hown.cells (g := g) rfl
   exact run_firstCells_some w.drew i.size n _ n cap xs hown.1 (by simpa using holds)
theorem wp_appM {o : Oper} {a : Act} {K : Act → World → Prop} {Q : Exit → Act → World → Prop} (s x : Operand) (t tx : TypeId)
  (ho : o.op = .call { callee := .builtin .append,args := #[s,x],argTypes := #[t,tx] }) {e : TypeId} {size bytes : Nat} (T : ElT P t e size bytes) {base : Nat} {v : Value} {n : Nat} {xs : List Value}
  (hown : OwnM w base e size v n xs) (hs : a.eval s = v) {y : Value} {m : Nat} {news : List Value} (hsrc : Src P size tx y m news w) (hx : a.eval x = y) (hb : (n + m) * bytes ≤ 140737488355328) (hbase : base ≤ w.heap.size)
  (h : ∀ v' w',OwnM w' base e size v' (n + m) (xs ++ news) → w.grownBy w' v.ownBlock → (v'.ownBlock = v.ownBlock ∨ v'.ownBlock = some w.heap.size) → K (a.put o.dst v') w') : o.wp P a w K Q := by
 obtain ⟨v',w',hrun,h2,h3,h4⟩ := run_appM (ty := o.type) T hown hsrc hb hbase
 unfold Oper.wp execOp
 simp only [ho,resolve,invoke,builtin,Sem.run_bind,Sem.run_pure,Result.andThen_ok,List.map_toArray,List.map_cons,List.map_nil,hs,hx,hrun]
 exact h v' w' h2 h3 h4
theorem wpList_appM {ops : Array Oper} {rest : List Oper} {o : Oper} {a : Act} {Q : Exit → Act → World → Prop} (hgd : o.guard = none) (s x : Operand) (t tx : TypeId)
  (ho : o.op = .call { callee := .builtin .append,args := #[s,x],argTypes := #[t,tx] }) {e : TypeId} {size bytes : Nat} (T : ElT P t e size bytes) {base : Nat} {v : Value} {n : Nat} {xs : List Value}
  (hown : OwnM w base e size v n xs) (hs : a.eval s = v) {y : Value} {m : Nat} {news : List Value} (hsrc : Src P size tx y m news w) (hx : a.eval x = y) (hb : (n + m) * bytes ≤ 140737488355328) (hbase : base ≤ w.heap.size)
  (h : ∀ v' w',OwnM w' base e size v' (n + m) (xs ++ news) → w.grownBy w' v.ownBlock → (v'.ownBlock = v.ownBlock ∨ v'.ownBlock = some w.heap.size) → wpList P ops Q rest (a.put o.dst v') w') : wpList P ops Q (o :: rest) a w :=
 wpList_plain hgd fun _ hK => wp_appM s x t tx ho T hown hs hsrc hx hb hbase fun v' w' h2 h3 h4 => hK _ _ (h v' w' h2 h3 h4)
end
end
section
open Go.RowKit
theorem infoU8 : (Tryz.prog.info? 5).map (fun i => (i.zero,i.size,i.bytes)) = some (some (.int .u8 0),1,1) := by kernel_rfl
theorem TU8 : ElT Tryz.prog 22 5 1 1 := ElT.mk' (z := .int .u8 0) Tryz.underlying22 (by omega) (by omega) rfl infoU8
end
section
open Go.RowKit
def Row (w : World) (g : Nat) (e : TypeId) (cs : List Value) : Prop := w.heap[g]? = some (.cells cs.toArray e (0,0))
section
variable {w w' : World} {g : Nat} {e : TypeId} {cs : List Value}
theorem Row.lt (h : Row w g e cs) : g < w.heap.size := (Array.getElem?_eq_some_iff.1 h).1
theorem Row.cell (h : Row w g e cs) {j : Nat} {v : Value} (hv : cs[j]? = some v) : w.cell? ⟨g,j,none⟩ = some v := by
 simp only [World.cell?,show w.heap[g]? = _ from h]
 simpa using hv
theorem Row.frozen (h : Row w g e cs) (j : Nat) : w.frozen? ⟨g,j,none⟩ = false := frozen_of_row w g j _ e h
theorem Row.block (h : Row w g e cs) (hb : w'.heap[g]? = w.heap[g]?) : Row w' g e cs := hb.trans h
theorem Row.below (h : Row w g e cs) (hb : Below w.heap.size w w') : Row w' g e cs := h.block (hb.block _ h.lt)
theorem Row.new (w : World) (X : Array Value) (e : TypeId) : Row (w.alloc (.cells X e)) w.heap.size e X.toList := by
 unfold Row
 simpa using World.alloc_heap_new w (.cells X e)
theorem Row.alloc (h : Row w g e cs) (o : Obj) : Row (w.alloc o) g e cs := h.block (Below.heap_alloc w o g h.lt)
theorem Row.set (h : Row w g e cs) (j : Nat) (v : Value) : Row (w.setCell ⟨g,j,none⟩ v) g e (cs.set j v) := by
 obtain ⟨hlt,hk⟩ := Array.getElem?_eq_some_iff.1 h
 show (w.heap.modify g _)[g]? = _
 rw [Array.getElem?_eq_getElem (by rw [Array.size_modify]; exact hlt),Array.getElem_modify_self,hk]
 simp [Array.setIfInBounds_def]
 exact fun h => (List.set_eq_of_length_le h).symm
theorem Row.far (h : Row w g e cs) {a : Addr} (ha : a.block ≠ g) (v : Value) : Row (w.setCell a v) g e cs := h.block (Below.heap_setCell w a v g (fun e => ha e.symm))
theorem set_at {α : Type} (ds rs : List α) (x v : α) : (ds ++ x :: rs).set ds.length v = (ds ++ [v]) ++ rs := by
 rw [List.set_append_right _ _ (Nat.le_refl _)]
 simp
theorem set_step {α β : Type} (f : α → β) {sp : List α} {k : Nat} {p : α} {X : List β} (hp : sp[k]? = some p) (hX : X.length = sp.length) :
  ((sp.take k).map f ++ X.drop k).set k (f p) = (sp.take (k + 1)).map f ++ X.drop (k + 1) := by
 have hk := lt_of_get hp
 rw [take_succ_of hp,List.map_append,List.drop_eq_getElem_cons (by omega : k < X.length)]
 have hl : ((sp.take k).map f).length = k := by simp; omega
 have := set_at ((sp.take k).map f) (X.drop (k + 1)) X[k] (f p)
 rw [hl] at this
 exact this
end
end
section
open Go.RowKit
structure Ext (S : Nat → Prop) (w w' : World) : Prop where
 os : w'.os = w.os
 tape : w'.tape = w.tape
 output : w'.output = w.output
 size : w.heap.size ≤ w'.heap.size
 block : ∀ k,k < w.heap.size → ¬ S k → w'.heap[k]? = w.heap[k]?
section
variable {S T : Nat → Prop} {w w' w'' : World}
theorem Ext.refl (S : Nat → Prop) (w : World) : Ext S w w := ⟨rfl,rfl,rfl,Nat.le_refl _,fun _ _ _ => rfl⟩
theorem Ext.trans (h : Ext S w w') (k : Ext T w' w'') (hT : ∀ b,T b → S b ∨ w.heap.size ≤ b) : Ext S w w'' :=
 ⟨k.os.trans h.os,k.tape.trans h.tape,k.output.trans h.output,Nat.le_trans h.size k.size,fun b hb hs =>
  (k.block b (Nat.lt_of_lt_of_le hb h.size) fun ht => (hT b ht).elim hs (fun hl => by omega)).trans (h.block b hb hs)⟩
theorem Ext.of_below (S : Nat → Prop) (h : Below w.heap.size w w') : Ext S w w' := ⟨h.os,h.tape,h.output,h.size,fun k hk _ => h.block k hk⟩
theorem Ext.of_grown {row : Option Nat} (h : w.grownBy w' row) (hS : ∀ k,row = some k → S k) : Ext S w w' := by
 obtain ⟨h1,h2,h3,h4,h5⟩ := h
 exact ⟨h1,h2,h3,h4,fun k hk hs => h5 k hk fun e => hs (hS k e.symm)⟩
theorem Ext.setCell (S : Nat → Prop) (w : World) (a : Addr) (v : Value) (hS : S a.block) : Ext S w (w.setCell a v) := ⟨rfl,rfl,rfl,by simp,fun k _ hs => Below.heap_setCell w a v k (fun e => hs (e ▸ hS))⟩
theorem Ext.set (h : Ext S w w') (a : Addr) (v : Value) (hS : S a.block) : Ext S w (w'.setCell a v) := h.trans (Ext.setCell S w' a v hS) fun _ hb => .inl hb
theorem Ext.drew (h : Ext S w w') : Ext S w w'.drew := ⟨h.os,h.tape,h.output,h.size,h.block⟩
theorem Ext.alloc (h : Ext S w w') (o : Obj) : Ext S w (w'.alloc o) := h.trans (Ext.of_below S ((Below.refl _ w').alloc (Nat.le_refl _) o)) fun _ hb => .inl hb
theorem Ext.below {B : Nat} {w0 : World} (h : Ext S w w') (hB : Below B w0 w) (hBw : B ≤ w.heap.size) (hS : ∀ b,S b → B ≤ b) : Below B w0 w' :=
 hB.trans ⟨h.os,h.tape,h.output,h.size,fun k hk => h.block k (by omega) fun hs => by have := hS k hs; omega⟩
theorem Ext.own (h : Ext S w w') {base e size n : Nat} {v : Value} {xs : List Value} (hv : OwnM w base e size v n xs) (hg : ∀ k,v.ownBlock = some k → ¬ S k) : OwnM w' base e size v n xs := by
 refine ⟨hv.1,?_⟩
 rcases hv.2 with hn | ⟨g,cap,cur,fz,rfl,hb,hgg,rest⟩
 ·exact .inl hn
 ·refine .inr ⟨g,cap,cur,fz,rfl,hb,?_,rest⟩
  rw [h.block g (Array.getElem?_eq_some_iff.1 hgg).1 (hg g (by simp [Value.ownBlock]))]
  exact hgg
end
def nb (v : Value) (k : Nat) : Prop := v.ownBlock = some k
def Sep (vs : List Value) : Prop := ∀ (i j : Nat) (u v : Value),i ≠ j → vs[i]? = some u → vs[j]? = some v → ∀ k,nb u k → nb v k → False
theorem Sep.upd {vs : List Value} {i N : Nat} {v v' : Value} (h : Sep vs) (hi : vs[i]? = some v) (hlt : ∀ u ∈ vs,∀ k,nb u k → k < N) (hv : ∀ k,nb v' k → nb v k ∨ N ≤ k) : Sep (vs.set i v') := by
 intro a b x y hab ha hb k hx hy
 have hil := lt_of_get hi
 rw [List.getElem?_set] at ha hb
 by_cases h1 : i = a
 ·subst h1
  rw [if_pos rfl,if_pos hil] at ha
  cases ha
  rw [if_neg hab] at hb
  rcases hv k hx with h2 | h2
  ·exact h i b v y hab hi hb k h2 hy
  ·have := hlt y (List.mem_of_getElem? hb) k hy
   omega
 ·rw [if_neg h1] at ha
  by_cases h2 : i = b
  ·subst h2
   rw [if_pos rfl,if_pos hil] at hb
   cases hb
   rcases hv k hy with h3 | h3
   ·exact h a i x v hab ha hi k hx h3
   ·have := hlt x (List.mem_of_getElem? ha) k hx
    omega
  ·rw [if_neg h2] at hb
   exact h a b x y hab ha hb k hx hy
def pv (p : Nat) : Value := .slice (some ⟨p,0,none⟩) 0 0
theorem nb_nil {k n c : Nat} : ¬ nb (.slice none n c) k := by simp [nb,Value.ownBlock]
theorem mem_upd {vs : List Value} {i N : Nat} {v v' : Value} (hi : vs[i]? = some v) (hv : ∀ k,nb v' k → nb v k ∨ N ≤ k) : ∀ k,k < N → (∃ u ∈ vs.set i v',nb u k) → ∃ u ∈ vs,nb u k := by
 rintro k hk ⟨u,hu,hn⟩
 rcases List.mem_or_eq_of_mem_set hu with h | h
 ·exact ⟨u,h,hn⟩
 ·rw [h] at hn
  rcases hv k hn with h2 | h2
  ·exact ⟨v,List.mem_of_getElem? hi,h2⟩
  ·omega
abbrev Tl := List UInt8 × Value
def LsOk (w : World) (base : Nat) (vs : List Value) (ts : List Tl) : Prop := ∀ t ∈ ts,OwnM w base 5 1 t.2 t.1.length (t.1.map bv) ∧ ∀ k,nb t.2 k → ∀ v ∈ vs,¬ nb v k
theorem LsOk.next {w w' : World} {base : Nat} {vs vs' : List Value} {ts : List Tl} {S : Nat → Prop} (h : LsOk w base vs ts) (hx : Ext S w w') (hS : ∀ k,k < w.heap.size → S k → ∃ v ∈ vs,nb v k) (hv : ∀ k,k < w.heap.size → (∃ v ∈ vs',nb v k) → ∃ v ∈ vs,nb v k) : LsOk w' base vs' ts := by
 intro t ht
 obtain ⟨h1,h3⟩ := h t ht
 have hlt : ∀ k,nb t.2 k → k < w.heap.size := fun k hk => (h1.lt k hk).2
 refine ⟨hx.own h1 fun k hk hs => ?_,fun k hk v hvm hvk => ?_⟩
 ·obtain ⟨v,hv1,hv2⟩ := hS k (hlt k hk) hs
  exact h3 k hk v hv1 hv2
 ·obtain ⟨u,hu1,hu2⟩ := hv k (hlt k hk) ⟨v,hvm,hvk⟩
  exact h3 k hk u hu1 hu2
theorem LsOk.below {w w' : World} {base : Nat} {vs : List Value} {ts : List Tl} (h : LsOk w base vs ts) (hb : Below w.heap.size w w') : LsOk w' base vs ts := h.next (S := fun _ => False) (Ext.of_below _ hb) (fun _ _ hs => hs.elim) fun _ _ hv => hv
theorem step_appM {P : Program} {w : World} {ops : Array Oper} {o : Oper} {a : Act} {K : Act → World → Prop} {Q : Exit → Act → World → Prop} {E : Prop} (hgd : o.guard = none) (s x : Operand) (t tx : TypeId)
  (ho : o.op = .call { callee := .builtin .append,args := #[s,x],argTypes := #[t,tx] }) {e : TypeId} {size bytes : Nat} (T : ElT P t e size bytes) {base : Nat} {v : Value} {n : Nat} {xs : List Value}
  (hown : OwnM w base e size v n xs) (hs : a.eval s = v) {y : Value} {m : Nat} {news : List Value} (hsrc : Src P size tx y m news w) (hx : a.eval x = y) (hb : (n + m) * bytes ≤ 140737488355328) (hbase : base ≤ w.heap.size)
  (h : ∀ v' w',OwnM w' base e size v' (n + m) (xs ++ news) → w.grownBy w' v.ownBlock → (v'.ownBlock = v.ownBlock ∨ v'.ownBlock = some w.heap.size) → K (a.put o.dst v') w') :
  if Region.wanted o (yielded ops a.tmps) = true then Oper.wp P o a w K Q else E := by
 have hw : Region.wanted o (yielded ops a.tmps) = true := by simp [Region.wanted,hgd]
 rw [if_pos hw]
 exact wp_appM s x t tx ho T hown hs hsrc hx hb hbase h
theorem Rb.ext {S : Nat → Prop} {w w' : World} {A : Option Addr} {l : List UInt8} (h : Rb w A l) (hx : Ext S w w') (hc : ∀ k cs t fr,w.heap[k]? = some (.cells cs t fr) → ¬ S k) : Rb w' A l := fun hp => by
 obtain ⟨b,o,e,hcell⟩ := h hp
 refine ⟨b,o,e,fun j v hj => ?_⟩
 have h1 := hcell j v hj
 have hlt := cell_lt h1
 have hb : ∃ cs t fr,w.heap[b]? = some (.cells cs t fr) := by
  unfold World.cell? at h1
  simp only at h1
  split at h1
  ·rename_i cs t fr hh
   exact ⟨cs,t,fr,hh⟩
  ·cases h1
 obtain ⟨cs,t,fr,hb⟩ := hb
 exact (World.cell?_of_block (w := w) (hx.block b hlt (hc b cs t fr hb))).trans h1
theorem OwnM.ext {S : Nat → Prop} {w w' : World} {base : Nat} {e : TypeId} {size : Nat} {v : Value} {n : Nat} {xs : List Value} (h : OwnM w base e size v n xs) (hx : Ext S w w') (hc : ∀ k cs t fr,w.heap[k]? = some (.cells cs t fr) → ¬ S k) : OwnM w' base e size v n xs := by
 refine hx.own h fun k hk => ?_
 rcases h.2 with ⟨rfl,_⟩ | ⟨g,cap,cur,fz,rfl,_,hgg,_⟩
 ·simp [Value.ownBlock] at hk
 ·simp [Value.ownBlock] at hk
  subst hk
  exact hc _ _ _ _ hgg
theorem LsOk.ext {S : Nat → Prop} {w w' : World} {base : Nat} {vs : List Value} {ts : List Tl} (h : LsOk w base vs ts) (hx : Ext S w w') (hc : ∀ k cs t fr,w.heap[k]? = some (.cells cs t fr) → ¬ S k) : LsOk w' base vs ts := fun t ht =>
 ⟨(h t ht).1.ext hx hc,(h t ht).2⟩
theorem box_ext {S : Nat → Prop} {w w' : World} {B : Nat} {t : TypeId} {v : Value} (h : Boxed w B t v) (hx : Ext S w w') (hc : ∀ k cs t fr,w.heap[k]? = some (.cells cs t fr) → ¬ S k) : Boxed w' B t v := (hx.block B h.lt (hc B _ _ _ h)).trans h
theorem box_ext2 {S : Nat → Prop} {w w' : World} {B : Nat} {t : TypeId} {v : Value} (h : Boxed w B t v) (hx : Ext S w w') (hc : ¬ S B) : Boxed w' B t v := (hx.block B h.lt hc).trans h
theorem ext_putObj (W : World) (l : Nat) (o : Obj) : Ext (fun k => k = l) W (W.putObj l o) := Ext.of_grown (grownBy_putObj' W l o) fun k e => (Option.some.inj e).symm
theorem ext_none {W W' : World} (h : W.grownBy W' none) : Ext (fun _ => False) W W' := Ext.of_grown h fun k e => by cases e
theorem not_cells {W : World} {l : Nat} {o : Obj} (hl : W.heap[l]? = some o) (ho : o.isCells = false) : ∀ k cs t fr,W.heap[k]? = some (.cells cs t fr) → ¬ k = l := fun k cs t fr hk e => by
 subst e
 rw [hk] at hl
 cases hl
 cases ho
theorem infoBs : (Tryz.prog.info? 22).map (fun i => (i.zero,i.size,i.bytes)) = some (some (.slice none 0 0),1,24) := by kernel_rfl
theorem TBs : ElT Tryz.prog 66 22 1 24 := ElT.mk' (z := .slice none 0 0) Tryz.underlying66 (by omega) (by omega) rfl infoBs
end
end Go.Proofs.YtkllecicddfjpaaGreatDoor
