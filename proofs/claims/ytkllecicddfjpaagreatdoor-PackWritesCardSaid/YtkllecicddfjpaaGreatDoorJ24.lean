/- The walk of the law, part 24. -/
import Derived.Test.YtkllecicddfjpaaGreatDoorJ23
import Derived.RangeFuncNested
import Derived.RangeFuncBox
set_option maxRecDepth 100000
set_option maxHeartbeats 16000000
set_option linter.unusedVariables false
set_option linter.unusedSimpArgs false
namespace Go.Proofs.YtkllecicddfjpaaGreatDoor
section
open Go.RowKit
namespace Ar
def rlin (l : List UInt8) : Nat → List UInt8
 | 0 => []
 | i + 1 => rlin l i ++ ([l.getD i 0] ++ if i % 76 = 75 ∨ i + 1 = l.length then [13,10] else [])
theorem rlin_is (l : List UInt8) : ∀ i,i ≤ l.length → rlin l i = (List.range (i / 76)).flatMap (fun j => chk l 76 j ++ [13,10]) ++ ((l.drop (i / 76 * 76)).take (i % 76) ++ if i = l.length ∧ i % 76 ≠ 0 then [13,10] else [])
 | 0,_ => by simp [rlin]
 | i + 1,h => by
  have ih := rlin_is l i (by omega)
  have hr : i % 76 < 76 := Nat.mod_lt _ (by omega)
  have hi : i / 76 * 76 + i % 76 = i := by omega
  have hne : ¬ (i = l.length ∧ i % 76 ≠ 0) := by omega
  rw [rlin,ih,if_neg hne,List.append_nil]
  obtain ⟨x,hx⟩ : ∃ x,l[i]? = some x := ⟨_,List.getElem?_eq_getElem (by omega)⟩
  have hg : l.getD i 0 = x := by rw [List.getD_eq_getElem?_getD,hx]; rfl
  rw [hg]
  have hd : (l.drop (i / 76 * 76))[i % 76]? = some x := by rw [List.getElem?_drop,hi]; exact hx
  have ht : (l.drop (i / 76 * 76)).take (i % 76 + 1) = (l.drop (i / 76 * 76)).take (i % 76) ++ [x] := take_succ_of hd
  by_cases h75 : i % 76 = 75
  ·have e1 : (i + 1) / 76 = i / 76 + 1 := by omega
   have e2 : (i + 1) % 76 = 0 := by omega
   rw [if_pos (.inl h75),e1,e2,List.range_succ,List.flatMap_append]
   have hc : chk l 76 (i / 76) = (l.drop (i / 76 * 76)).take (i % 76) ++ [x] := by
    rw [← ht,h75]
    rfl
   simp [hc]
  ·have e1 : (i + 1) / 76 = i / 76 := by omega
   have e2 : (i + 1) % 76 = i % 76 + 1 := by omega
   rw [e1,e2,ht]
   by_cases hl : i + 1 = l.length
   ·rw [if_pos (.inr hl),if_pos ⟨hl,by omega⟩]
    simp
   ·rw [if_neg (by omega),if_neg (fun h => hl h.1)]
    simp
theorem rlin_lin (l : List UInt8) : rlin l l.length = lin l := by
 rw [rlin_is l _ (Nat.le_refl _)]
 unfold lin
 by_cases h : l.length % 76 = 0
 ·have e : (l.length + 75) / 76 = l.length / 76 := by omega
  rw [e,h]
  simp
 ·have e : (l.length + 75) / 76 = l.length / 76 + 1 := by omega
  rw [e,List.range_succ,List.flatMap_append,if_pos ⟨rfl,h⟩]
  have hc : chk l 76 (l.length / 76) = (l.drop (l.length / 76 * 76)).take (l.length % 76) := by
   unfold chk
   rw [List.take_of_length_le (by rw [List.length_drop]; omega),List.take_of_length_le (by rw [List.length_drop]; omega)]
  simp [hc]
end Ar
end
section
open Go.RowKit
namespace Ar
theorem rlines_any (A : Option Addr) (xs : List UInt8) (n c : Nat) (w : World) (hn : xs.length = n) (hA : Rb w A xs) (hnc : n ≤ c) (hb : n ≤ 100000) :
  Calls Tryz.prog 77 #[.slice A n c] w fun e w' => (∃ v,e = .returned v ∧ w'.ownsRow w.heap.size 5 1 v (lin (enc xs)).length ((lin (enc xs)).map bv)) ∧ Below w.heap.size w w' := by
 have HN := Lib.hid hn
 have hel : (enc xs).length ≤ 200000 := by rw [enc_length]; omega
 obtain ⟨l,hl⟩ : ∃ l,enc xs = l := ⟨_,rfl⟩
 have hE := refE_any A xs n c w hn hA hnc (by omega)
 rw [hl] at hel hE ⊢
 clear hn hl
 obtain ⟨N,hN⟩ : ∃ N,l.length = N := ⟨_,rfl⟩
 rw [hN] at hel
 have HNN := Lib.hid hN
 have hpu : ∀ W,Sem.run Tryz.prog (pure #[] : Sem (Array Value)) W = .ok #[] W := fun _ => rfl
 have hsrc : ∀ W : World,Src Tryz.prog 1 22 (.slice (some ⟨W.heap.size,0,none⟩) 2 2) 2 ([13,10].map bv) (W.alloc (.cells #[.int .u8 13,.int .u8 10] 5)) := fun W => Src_rb Tryz.underlying22 rfl (by have h := Rb_new W [13,10] 5 #[.int .u8 13,.int .u8 10] rfl 2; exact h)
 have hst : ∀ a W,Sem.run Tryz.prog (storeCells a []) W = .ok () W := fun _ _ => rfl
 go_enter Tryz.func77,Tryz.ntmps77
 go_wp2_with fail
 refine hE.mono ?_
 rintro e w1 ⟨rfl,hb1⟩
 have hown0 := World.ownsRow_made (base := w1.heap.size) (e := 5) (size := 1) w1 #[] 0 (Nat.le_refl _) (by unfold maxLen; omega) rfl
 have hs0 := hb1.size
 clear hE
 go_wp2_with fail
 go_loopw [4,5] (fun v i wr => ∃ q M : Nat,i = .int .i64 q ∧ q ≤ N ∧ M ≤ 3 * q ∧ Hid ((rlin l q).length = M) ∧ wr.ownsRow w1.heap.size 5 1 v M ((rlin l q).map bv) ∧ Below w1.heap.size w1 wr) (fun _ i _ => N - (intOf i).toNat)
 case atStart => exact ⟨0,0,rfl,by omega,by omega,Lib.hid rfl,hown0,(Below.refl _ _).alloc (Nat.le_refl _) _⟩
 case round =>
  obtain ⟨q,M,rfl,hq,hM,HM,hown,hB⟩ := hrel
  have hs := hB.size
  by_cases hlt : q < N
  ·obtain ⟨x,hx⟩ : ∃ x,l[q]? = some x := ⟨_,List.getElem?_eq_getElem (by omega)⟩
   have hi := str_index (P := Tryz.prog) Tryz.underlying9 hx .i64
   have hg : l.getD q 0 = x := by rw [List.getD_eq_getElem?_getD,hx]; rfl
   have hrl : rlin l (q + 1) = rlin l q ++ ([x] ++ if q % 76 = 75 ∨ q + 1 = l.length then [13,10] else []) := by rw [rlin,hg]
   rw [hN] at hrl
   have hmod : Int.tmod (q : Int) 76 = ((q % 76 : Nat) : Int) := by
    rw [Int.tmod_eq_emod_of_nonneg (by omega)]
    omega
   by_cases c1 : q % 76 = 75
   ·have t1 : (Int.tmod (q : Int) 76 == 75) = true := by rw [hmod,c1]; rfl
    have HRL := Lib.hid (show rlin l (q + 1) = rlin l q ++ [x] ++ [13,10] by rw [hrl,if_pos (.inl c1),List.append_assoc])
    clear hx hg hrl hmod
    go_wp2_with (first
     | ((at_builtin; refine wpList_app rfl _ _ _ _ rfl TU8 (hown.alloc (.cells #[bv x] 5)) rfl (Src_rv (news := [bv x]) Tryz.underlying22 rfl (Rv_new wr _ _ _ rfl) (by simp [Value.oneCell',bv]) (by omega)) rfl (by omega) (by simp; omega) ?_; intro v6 w6 hown6 hgr6 hat6; have hB6 := below_app (hB.alloc hs (.cells #[bv x] 5)) (hown.alloc _) hgr6 (by simp; omega) (Nat.le_refl _); have hs6 := hB6.size); obtain ⟨A6,c6,hv6,_,_,_,_⟩ := own_form hown6; subst hv6)
     | (at_builtin; refine wpList_app rfl _ _ _ _ rfl TU8 (hown6.alloc (.cells #[.int .u8 13,.int .u8 10] 5)) rfl (hsrc w6) rfl (by omega) (by simp; omega) ?_; intro v7 w7 hown7 hgr7 hat7; have hB7 := below_app (hB6.alloc hs6 (.cells #[.int .u8 13,.int .u8 10] 5)) (hown6.alloc _) hgr7 (by simp; omega) (Nat.le_refl _)))
    go_roundw
    case rel => exact ⟨q + 1,M + 1 + 2,by go_num,by omega,by omega,Lib.hid (by rw [HRL.out]; simp [HM.out]),by rw [HRL.out,List.map_append,List.map_append]; exact hown7,hB7⟩
    case measure => simp [intOf]; omega
   ·have t1 : (Int.tmod (q : Int) 76 == 75) = false := by rw [hmod,beq_eq_false_iff_ne]; omega
    by_cases c2 : q + 1 = N
    ·have t2 : ((q : Int) == (N : Int) - 1) = true := by rw [beq_iff_eq]; omega
     have HRL := Lib.hid (show rlin l (q + 1) = rlin l q ++ [x] ++ [13,10] by rw [hrl,if_pos (.inr c2),List.append_assoc])
     clear hx hg hrl hmod
     go_wp2_with (first
      | ((at_builtin; refine wpList_app rfl _ _ _ _ rfl TU8 (hown.alloc (.cells #[bv x] 5)) rfl (Src_rv (news := [bv x]) Tryz.underlying22 rfl (Rv_new wr _ _ _ rfl) (by simp [Value.oneCell',bv]) (by omega)) rfl (by omega) (by simp; omega) ?_; intro v6 w6 hown6 hgr6 hat6; have hB6 := below_app (hB.alloc hs (.cells #[bv x] 5)) (hown.alloc _) hgr6 (by simp; omega) (Nat.le_refl _); have hs6 := hB6.size); obtain ⟨A6,c6,hv6,_,_,_,_⟩ := own_form hown6; subst hv6)
      | (at_builtin; refine wpList_app rfl _ _ _ _ rfl TU8 (hown6.alloc (.cells #[.int .u8 13,.int .u8 10] 5)) rfl (hsrc w6) rfl (by omega) (by simp; omega) ?_; intro v7 w7 hown7 hgr7 hat7; have hB7 := below_app (hB6.alloc hs6 (.cells #[.int .u8 13,.int .u8 10] 5)) (hown6.alloc _) hgr7 (by simp; omega) (Nat.le_refl _)))
     go_roundw
     case rel => exact ⟨q + 1,M + 1 + 2,by go_num,by omega,by omega,Lib.hid (by rw [HRL.out]; simp [HM.out]),by rw [HRL.out,List.map_append,List.map_append]; exact hown7,hB7⟩
     case measure => simp [intOf]; omega
    ·have t2 : ((q : Int) == (N : Int) - 1) = false := by rw [beq_eq_false_iff_ne]; omega
     have HRL := Lib.hid (show rlin l (q + 1) = rlin l q ++ [x] by rw [hrl,if_neg (by omega),List.append_nil])
     clear hx hg hrl hmod
     go_wp2_with (at_builtin; refine wpList_app rfl _ _ _ _ rfl TU8 (hown.alloc (.cells #[bv x] 5)) rfl (Src_rv (news := [bv x]) Tryz.underlying22 rfl (Rv_new wr _ _ _ rfl) (by simp [Value.oneCell',bv]) (by omega)) rfl (by omega) (by simp; omega) ?_; intro v6 w6 hown6 hgr6 hat6; have hB6 := below_app (hB.alloc hs (.cells #[bv x] 5)) (hown.alloc _) hgr6 (by simp; omega) (Nat.le_refl _); have hs6 := hB6.size)
     go_roundw
     case rel => exact ⟨q + 1,M + 1,by go_num,by omega,by omega,Lib.hid (by rw [HRL.out]; simp [HM.out]),by rw [HRL.out,List.map_append]; exact hown6,hB6⟩
     case measure => simp [intOf]; omega
  ·obtain rfl : q = N := by omega
   have he : rlin l q = lin l := by rw [← hN]; exact rlin_lin l
   rw [he] at HM hown
   have HE := Lib.hid HM.out
   go_wp2_with fail
   go_ret
   refine ⟨⟨_,rfl,?_⟩,hb1.trans (hB.mono hs0)⟩
   rw [HE.out]
   exact own_base hown hs0
end Ar
end
section
open Go.RowKit
variable {F : Fence} {n : Nat} {P : Program}
def SeqRow {α : Type} (F : Fence) (n : Nat) (P : Program) (g : Nat) (lb : Array Value) (encs : α → Array Value) (Kp : World → World → Prop) (row : Option Nat) (S Sp : List α → Prop) (Pr : List α → α → Prop) (w : World) : Prop :=
 ∀ (l : Nat) (J Jx : List α → World → Prop) (W : World),Below w.heap.size w W → (∀ s A B,J s A → A.grownBy B row → J s B) → (∀ s A B,Jx s A → A.grownBy B row → Jx s B) →
  (∀ pre x W1,J pre W1 → Pr pre x → YieldAt F (n - 1) P l (encs x) W1 fun e W' =>
   (e = .returned (.bool true) ∧ J (pre ++ [x]) W' ∧ Kp W1 W') ∨ (e = .returned (.bool false) ∧ Jx (pre ++ [x]) W')) →
  J [] W →
  CallsIn F n P g (#[.func (.yield l) #[] #[]] ++ lb) W fun e W' => (∃ v,e = .returned v) ∧ ((∃ xs,S xs ∧ J xs W') ∨ (∃ pre,Sp pre ∧ Jx pre W'))
def Turns {β : Type} (B : Nat) (I : β → World → Prop) : Prop := ∀ s W l o o',I s W → B ≤ l → W.heap[l]? = some o → o.isCells = false → I s (W.putObj l o')
theorem wpIn_rangeFunc_row {α : Type} {g : Operand} {ps : Array Tmp} {assign body : Code} {Q : Exit → Act → World → Prop} {a : Act} {w : World}
  (hro : F.round = none) (h1 : 1 ≤ n) {gf : Nat} {lb : Array Value} (hg : a.eval g = .func (.func gf) #[] lb) (hFg : F.fn gf) (eg : ∀ args w,(callFunc gf args).run P w = .ok (.enter gf args) w)
  {encs : α → Array Value} {Kp : World → World → Prop} {row : Option Nat} {S Sp : List α → Prop} {Pr : List α → α → Prop} {w0 : World} (hseq : SeqRow F (n - 1) P gf lb encs Kp row S Sp Pr w0)
  (hrow : ∀ r,row = some r → r < w.heap.size)
  (hKt : ∀ {A B C : World},Kp A B → Kp B C → Kp A C) (hKb : ∀ (W : World) (l : Nat) (o o' : Obj),w.heap.size ≤ l → W.heap[l]? = some o → o.isCells = false → Kp W (W.putObj l o')) (hb0 : Below w0.heap.size w0 w) (hps : ∀ x,(encs x).size = ps.size)
  (I : List α → World → Prop) (Ix : Code → List α → World → Prop)
  (hI : ∀ s A B,I s A → A.grownBy B row → I s B) (hIx : ∀ c s A B,Ix c s A → A.grownBy B row → Ix c s B) (hIt : Turns w.heap.size I) (hIxt : ∀ c,Turns w.heap.size (Ix c)) (h0 : I [] w)
  (Ax : α → Act → World → Prop) (hAx : ∀ x a',Turns w.heap.size (fun (_ : Unit) W => Ax x a' W))
  (hassign : ∀ (l : Nat) (pre : List α) (x : α) (W : World) (K : Act → World → Prop),I pre W → Pr pre x → (∀ a' W',KeepsFrom w.heap.size W W' → Kp W W' → I pre W' → Ax x a' W' → K a' W') →
   assign.wpIn (F.inRound l) (n - 1 - 1) P (Exit.then K (fun _ _ _ => False)) { tmps := (ps.zip (encs x)).foldl (fun t (p,v) => t.setIfInBounds p v) a.tmps,defers := [] } W)
  (hbody : ∀ (l : Nat) (pre : List α) (x : α) (a' : Act) (W : World),w.heap.size ≤ l → I pre W → Ax x a' W → Pr pre x → body.wpIn (F.inRound l) (n - 1 - 1) P (ownPostG w.heap.size Kp I Ix (pre ++ [x]) W) a' W)
  (hdone : ∀ (D : Nat) (xs : List α) (W : World),w.heap.size ≤ D → S xs → I xs W → W.heap[D]? = some (.deferred (some [])) → Q .normal { a with defers := { target := .collected D,args := #[] } :: a.defers } W)
  (hstop : ∀ (D : Nat) (c : Code) (pre : List α) (W : World),w.heap.size ≤ D → Sp pre → Ix c pre W → W.heap[D]? = some (.deferred (some [])) → c.wpIn F n P Q { a with defers := { target := .collected D,args := #[] } :: a.defers } W) :
  (Code.rangeFunc g ps assign body).wpIn F n P Q a w := by
 refine wpIn_rangeFunc ?_
 intro fn hfn
 rw [hro]
 obtain ⟨rec,hrec⟩ : ∃ rec : LoopState → Option Code → Loop,rec = fun st pe => { state := st,pending := pe,fn,tmps := a.tmps,params := ps,assign,body,defers := w.heap.size } := ⟨_,rfl⟩
 obtain ⟨W1,hW1⟩ : ∃ W1,(w.alloc (.deferred (some []))).alloc (.loop (rec .ready none)) = W1 := ⟨_,rfl⟩
 have hL1 : W1.heap[w.heap.size + 1]? = some (.loop (rec .ready none)) := by
  rw [← hW1]
  have := World.alloc_heap_new (w.alloc (.deferred (some []))) (.loop (rec .ready none))
  rwa [World.size_alloc] at this
 have hK1 : W1.heap[w.heap.size]? = some (.deferred (some [])) := by
  rw [← hW1]
  exact (Below.heap_alloc _ _ _ (by simp)).trans (World.alloc_heap_new w _)
 have hI1 : I [] W1 := by
  rw [← hW1]
  exact hI _ _ _ (hI _ _ _ h0 (World.grownBy_alloc _ _ _)) (World.grownBy_alloc _ _ _)
 have hb1 : Below w0.heap.size w0 W1 := by
  rw [← hW1]
  exact hb0.trans ((((Below.refl _ w).alloc (Nat.le_refl _) _).alloc (by simp) _).mono hb0.size)
 refine ⟨w.heap.size + 1,[{ target := .collected w.heap.size,args := #[] }],W1,{ target := .fn (.func gf) lb,args := #[.func (.yield (w.heap.size + 1)) #[] #[]] },W1,gf,
  #[.func (.yield (w.heap.size + 1)) #[] #[]] ++ lb,W1,?_,?_,?_,?_,fun _ => h1,?_⟩
 ·rw [← hW1,hrec]
  exact run_enterLoop_outer _ _ _ _ _
 ·simp only [resolve,hg]
  simp [go_sem]
 ·intro f' hf'
  simp [Target.leads] at hf'
  subst hf'
  exact hFg
 ·simp [invoke,go_sem,eg]
 ·-- the two blocks of book-keeping lie as they lay,whatever the iterator does
  have hkeep : ∀ {A B : World} {k : Nat} {o : Obj},A.grownBy B row → w.heap.size ≤ k → A.heap[k]? = some o → B.heap[k]? = some o := fun hg' hk ho =>
   (hg'.block _ (Array.getElem?_eq_some_iff.1 ho).1 (fun e => by have := hrow _ e.symm; omega)).trans ho
  refine (hseq (w.heap.size + 1)
   (fun pre W => I pre W ∧ W.heap[w.heap.size + 1]? = some (.loop (rec .ready none)) ∧ W.heap[w.heap.size]? = some (.deferred (some [])))
   (fun pre W => ∃ c,Ix c pre W ∧ W.heap[w.heap.size + 1]? = some (.loop (rec .done (some c))) ∧ W.heap[w.heap.size]? = some (.deferred (some [])))
   W1 hb1
   (fun s A B hs hg' => ⟨hI s A B hs.1 hg',hkeep hg' (by omega) hs.2.1,hkeep hg' (Nat.le_refl _) hs.2.2⟩)
   (fun s A B hs hg' => by
    obtain ⟨c,hc,hl,hk⟩ := hs
    exact ⟨c,hIx c s A B hc hg',hkeep hg' (by omega) hl,hkeep hg' (Nat.le_refl _) hk⟩)
   ?_ ⟨hI1,hL1,hK1⟩).mono ?_
  ·rintro pre x W ⟨hi,hl,hk⟩ hpr
   have hy := run_yield (P := P) (args := encs x) hl (by rw [hrec]; exact hps x)
   rw [hrec] at hy
   refine ⟨fn,_,assign,body,hy,roundIn_of_wpIn hfn (hassign _ pre x W _ hi hpr ?_)⟩
   clear hy
   intro a' W2 hkf hkp hi2 hax
   have hl1 := hkf.same _ _ (by omega) hl rfl
   have hk1 := hkf.same _ _ (Nat.le_refl _) hk rfl
   have hlt := (Array.getElem?_eq_some_iff.1 hl1).1
   refine ⟨_,run_beginRound hl1 (by rw [hrec]),?_⟩
   have hl2 : (W2.putObj (w.heap.size + 1) (.loop { rec .ready none with state := .busy })).heap[w.heap.size + 1]? = some (.loop { rec .ready none with state := .busy }) := World.putObj_heap_same hlt
   have hk2 : (W2.putObj (w.heap.size + 1) (.loop { rec .ready none with state := .busy })).heap[w.heap.size]? = some (.deferred (some [])) := (World.putObj_heap_other (by omega)).trans hk1
   have hw2 : Kp W2 (W2.putObj (w.heap.size + 1) (.loop { rec .ready none with state := .busy })) := hKb _ _ _ _ (by omega) hl1 rfl
   refine wpIn_mono (hbody _ pre x a' _ (by omega) (hIt _ _ _ _ _ hi2 (by omega) hl1 rfl) (hAx x a' () _ _ _ _ hax (by omega) hl1 rfl) hpr) ?_
   have fin : ∀ (jump : Option Code) (W3 : World),KeepsFrom w.heap.size (W2.putObj (w.heap.size + 1) (.loop { rec .ready none with state := .busy })) W3 →
     (Instr.endRound (w.heap.size + 1) jump).run P W3 = .ok (.bool jump.isNone) (W3.putObj (w.heap.size + 1) (.loop (rec (if jump.isNone then .ready else .done) jump))) ∧
     W3.heap[w.heap.size + 1]? = some (.loop { rec .ready none with state := .busy }) ∧
     (W3.putObj (w.heap.size + 1) (.loop (rec (if jump.isNone then .ready else .done) jump))).heap[w.heap.size + 1]? = some (.loop (rec (if jump.isNone then .ready else .done) jump)) ∧
     (W3.putObj (w.heap.size + 1) (.loop (rec (if jump.isNone then .ready else .done) jump))).heap[w.heap.size]? = some (.deferred (some [])) := fun jump W3 hk3 => by
    have hl3 := hk3.same _ _ (by omega) hl2 rfl
    have := run_endRound (P := P) jump hl3
    rw [hrec] at this ⊢
    exact ⟨this,by rw [hrec] at hl3; exact hl3,World.putObj_heap_same (Array.getElem?_eq_some_iff.1 hl3).1,(World.putObj_heap_other (by omega)).trans (hk3.same _ _ (Nat.le_refl _) hk2 rfl)⟩
   rintro e a3 W3 hp
   cases e with
   | normal =>
    obtain ⟨hk3,hkp3,hi3⟩ := hp
    obtain ⟨hr,hl3,hl4,hk4⟩ := fin none W3 hk3
    exact ⟨_,_,hr,.inl ⟨rfl,⟨hIt _ _ _ _ _ hi3 (by omega) hl3 rfl,hl4,hk4⟩,hKt hkp (hKt (hKt hw2 hkp3) (hKb _ _ _ _ (by omega) hl3 rfl))⟩⟩
   | ret =>
    obtain ⟨hk3,hi3⟩ := hp
    obtain ⟨hr,hl3,hl4,hk4⟩ := fin (some .ret) W3 hk3
    exact ⟨_,_,hr,.inr ⟨rfl,.ret,hIxt _ _ _ _ _ _ hi3 (by omega) hl3 rfl,hl4,hk4⟩⟩
   | exit id =>
    obtain ⟨hk3,hi3⟩ := hp
    obtain ⟨hr,hl3,hl4,hk4⟩ := fin (some (.exit id)) W3 hk3
    exact ⟨_,_,hr,.inr ⟨rfl,.exit id,hIxt _ _ _ _ _ _ hi3 (by omega) hl3 rfl,hl4,hk4⟩⟩
   | goto t =>
    obtain ⟨hk3,hi3⟩ := hp
    obtain ⟨hr,hl3,hl4,hk4⟩ := fin (some (.goto t)) W3 hk3
    exact ⟨_,_,hr,.inr ⟨rfl,.goto t,hIxt _ _ _ _ _ _ hi3 (by omega) hl3 rfl,hl4,hk4⟩⟩
   | panic ch => exact hp.elim
   | outgrown => exact hp.elim
  ·rintro e W2 ⟨⟨v,rfl⟩,(⟨xs,hS,hi,hl,hk⟩ | ⟨pre,hSp,c,hi,hl,hk⟩)⟩
   ·exact ⟨none,_,by have := run_endLoop (P := P) hl (by rw [hrec]; simp); rw [hrec] at this; exact this,hdone _ xs _ (Nat.le_refl _) hS (hIt _ _ _ _ _ hi (by omega) hl rfl) ((World.putObj_heap_other (by omega)).trans hk)⟩
   ·exact ⟨some c,_,by have := run_endLoop (P := P) hl (by rw [hrec]; simp); rw [hrec] at this; exact this,hstop _ c pre _ (Nat.le_refl _) hSp (hIxt _ _ _ _ _ _ hi (by omega) hl rfl) ((World.putObj_heap_other (by omega)).trans hk)⟩
end
end Go.Proofs.YtkllecicddfjpaaGreatDoor
