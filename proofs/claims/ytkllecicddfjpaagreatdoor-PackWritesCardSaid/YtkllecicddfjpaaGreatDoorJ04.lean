/- The walk of the law, part 4. -/
import Derived.Test.YtkllecicddfjpaaGreatDoorJ03
set_option maxRecDepth 100000
set_option maxHeartbeats 16000000
set_option linter.unusedVariables false
set_option linter.unusedSimpArgs false
namespace Go.Proofs.YtkllecicddfjpaaGreatDoor
section
namespace Tk
def pre (a : List UInt8) : List (List UInt8) → List (List UInt8)
 | [] => [a]
 | p :: ps => (a ++ p) :: ps
theorem pre_nil {ps : List (List UInt8)} (h : ps ≠ []) : pre [] ps = ps := by cases ps with | nil => exact absurd rfl h | cons p ps => rfl
theorem pre_pre (a b : List UInt8) (ps : List (List UInt8)) : pre a (pre b ps) = pre (a ++ b) ps := by cases ps <;> simp [pre]
theorem pre_ne (a : List UInt8) (ps : List (List UInt8)) : pre a ps ≠ [] := by cases ps <;> simp [pre]
def semN : Nat → List UInt8 → Option (List (List UInt8))
 | _,[] => some [[]]
 | 0,_ :: _ => none
 | n + 1,c :: r => if c = 34 then (match qGo r with | none => none | some (a,t) => (semN n t).map (pre (34 :: a)))
  else if c = 59 then (semN n r).map fun ps => [] :: ps
  else (semN n r).map (pre [c])
def semP (l : List UInt8) : Option (List (List UInt8)) := semN l.length l
theorem semN_fuel : ∀ (n m : Nat) (l : List UInt8),l.length ≤ n → l.length ≤ m → semN n l = semN m l
 | n,m,[],_,_ => by cases n <;> cases m <;> rfl
 | n + 1,m + 1,c :: r,hn,hm => by
  simp only [List.length_cons] at hn hm
  have ih : ∀ t : List UInt8,t.length ≤ r.length → semN n t = semN m t := fun t ht => semN_fuel n m t (by omega) (by omega)
  rw [semN,semN]
  split
  ·cases h : qGo r with
   | none => rfl
   | some p =>
    obtain ⟨a,t⟩ := p
    have := (qGo_len r.length r a t (Nat.le_refl _) h).1
    have hl : t.length ≤ r.length := by rw [this]; simp
    simp only
    rw [ih t hl]
  ·rw [ih r (Nat.le_refl _)]
 | 0,_,c :: r,hn,_ => by simp at hn
 | _ + 1,0,c :: r,_,hm => by simp at hm
theorem semP_cons (c : UInt8) (r : List UInt8) : semP (c :: r) =
  if c = 34 then (match qGo r with | none => none | some (a,t) => (semP t).map (pre (34 :: a)))
  else if c = 59 then (semP r).map fun ps => [] :: ps
  else (semP r).map (pre [c]) := by
 show semN (r.length + 1) (c :: r) = _
 rw [semN]
 split
 ·cases h : qGo r with
  | none => rfl
  | some p =>
   obtain ⟨a,t⟩ := p
   have := (qGo_len r.length r a t (Nat.le_refl _) h).1
   have hl : t.length ≤ r.length := by rw [this]; simp
   simp only
   rw [semN_fuel r.length t.length t hl (Nat.le_refl _)]
   rfl
 ·rfl
theorem semP_ne {l : List UInt8} {ps : List (List UInt8)} (h : semP l = some ps) : ps ≠ [] := by
 cases l with
 | nil => simp [semP,semN] at h; simp [← h]
 | cons c r =>
  rw [semP_cons] at h
  split at h
  ·split at h
   ·cases h
   ·rw [Option.map_eq_some_iff] at h
    obtain ⟨x,_,rfl⟩ := h
    exact pre_ne _ _
  ·split at h
   ·rw [Option.map_eq_some_iff] at h
    obtain ⟨x,_,rfl⟩ := h
    simp
   ·rw [Option.map_eq_some_iff] at h
    obtain ⟨x,_,rfl⟩ := h
    exact pre_ne _ _
theorem qGo_app : ∀ (n : Nat) (l a t u : List UInt8),l.length ≤ n → qGo l = some (a,t) → qGo (a ++ u) = some (a,u)
 | 0,[],_,_,_,_,h => by simp [qGo] at h
 | n + 1,[],_,_,_,_,h => by simp [qGo] at h
 | n + 1,c :: l,a,t,u,hl,h => by
  simp only [List.length_cons] at hl
  rw [qGo.eq_def] at h
  simp only at h
  split at h
  ·rename_i hc
   split at h
   ·cases h
   ·rename_i x r'
    rw [Option.map_eq_some_iff] at h
    obtain ⟨⟨a',b'⟩,h1,h2⟩ := h
    cases h2
    have ih := qGo_app n r' a' b' u (by simp at hl; omega) h1
    show qGo (92 :: x :: (a' ++ u)) = _
    rw [qGo,if_pos rfl]
    simp only
    rw [ih]
    rfl
  ·rename_i h9
   split at h
   ·cases h
    show qGo (34 :: u) = _
    rw [qGo.eq_def]
    simp
   ·rename_i h3
    rw [Option.map_eq_some_iff] at h
    obtain ⟨⟨a',b'⟩,h1,h2⟩ := h
    cases h2
    have ih := qGo_app n l a' b' u (by omega) h1
    show qGo (c :: (a' ++ u)) = _
    rw [qGo.eq_def]
    simp only
    rw [if_neg h9,if_neg h3,ih]
    rfl
theorem bare_sem : ∀ (n : Nat) (l o : List UInt8),l.length ≤ n → bareP l = .ok o → ∃ ps,semP o = some ps
 | _,[],o,_,h => by
  have : o = [] := by simpa [bareP,bareN,eq_comm] using h
  exact ⟨[[]],by rw [this]; rfl⟩
 | 0,c :: r,o,hl,_ => by simp at hl
 | n + 1,c :: r,o,hl,h => by
  simp only [List.length_cons] at hl
  rw [bareP_cons] at h
  have key : ∀ (x : UInt8) (t p : List UInt8),x ≠ 34 → t.length ≤ n → bareP t = .ok p → ∃ ps,semP (x :: p) = some ps := by
   intro x t p hx ht hp
   obtain ⟨ps,hps⟩ := bare_sem n t p ht hp
   rw [semP_cons,if_neg hx,hps]
   split
   ·exact ⟨_,rfl⟩
   ·exact ⟨_,rfl⟩
  by_cases h1 : c = 40
  ·rw [if_pos h1] at h
   cases hc : cmtGo 1 r with
   | error e => rw [hc] at h; cases h
   | ok t =>
    have := cmtGo_len r.length r 1 t (Nat.le_refl _) hc
    rw [hc] at h
    simp only at h
    cases hb : bareP t with
    | error e => rw [hb] at h; cases h
    | ok p =>
     rw [hb] at h
     cases h
     exact key 32 t p (by decide) (by omega) hb
  ·rw [if_neg h1] at h
   by_cases h2 : c = 34
   ·rw [if_pos h2] at h
    cases hq : qGo r with
    | none => rw [hq] at h; cases h
    | some q =>
     obtain ⟨a,t⟩ := q
     have := (qGo_len r.length r a t (Nat.le_refl _) hq).1
     have hl2 : t.length ≤ r.length := by rw [this]; simp
     rw [hq] at h
     simp only at h
     cases hb : bareP t with
     | error e => rw [hb] at h; cases h
     | ok p =>
      rw [hb] at h
      cases h
      obtain ⟨ps,hps⟩ := bare_sem n t p (by omega) hb
      rw [semP_cons,if_pos rfl,qGo_app r.length r a t p (Nat.le_refl _) hq]
      simp only
      rw [hps]
      exact ⟨_,rfl⟩
   ·rw [if_neg h2] at h
    by_cases h3 : c = 41
    ·rw [if_pos h3] at h
     cases h
    ·rw [if_neg h3] at h
     cases hb : bareP r with
     | error e => rw [hb] at h; cases h
     | ok p =>
      rw [hb] at h
      cases h
      exact key c r p h2 (by omega) hb
def semD : Bool → List UInt8 → List UInt8 → List (List UInt8)
 | _,cur,[] => [cur]
 | ins,cur,c :: r =>
  if ins = true ∧ c = 92 then (match r with | [] => [cur ++ [92]] | x :: r' => semD ins (cur ++ [92,x]) r')
  else if c = 34 then semD (!ins) (cur ++ [34]) r
  else if c = 59 ∧ ins = false then cur :: semD false [] r
  else semD ins (cur ++ [c]) r
def unq : List UInt8 → List UInt8
 | [] => []
 | c :: r => if c = 34 then [] else if c = 92 then (match r with | [] => [] | x :: r' => x :: unq r') else c :: unq r
def quoP : List UInt8 → Option (List UInt8)
 | [] => none
 | c :: r => if c = 34 then (match qGo r with | some (a,[]) => some (unq a) | _ => none) else none
def partV (p : List UInt8) : List UInt8 × List UInt8 × Bool := match cutAt 61 p with
 | none => ((trimB p).map small,[],false)
 | some (a,b) => match quoP (trimB b) with
  | some u => ((trimB a).map small,u,valB u && atomB (trimB a))
  | none => ((trimB a).map small,trimB b,onlyB loc' (trimB b) && atomB (trimB a))
def kindB (l : List UInt8) : Bool := match cutAt 47 l with | none => false | some (a,b) => atomB a && atomB b
def parmP (l : List UInt8) : Except Nat (List UInt8 × List (List UInt8 × List UInt8)) := match bareP l with
 | .error e => .error e
 | .ok b => match semP b with
  | none => .error 3
  | some ps => if kindB (trimB (ps.headD [])) && ps.tail.all (fun p => (partV p).2.2) then .ok ((trimB (ps.headD [])).map small,ps.tail.map fun p => ((partV p).1,(partV p).2.1)) else .error 3
end Tk
end
section
namespace Tk
def idGo : Bool → List UInt8 → List (List UInt8) → List UInt8 → Except Nat (List (List UInt8))
 | ins,_,o,[] => if ins then .error 3 else .ok o
 | ins,id,o,c :: r => if ins then (if c = 62 then (if id = [] then .error 3 else idGo false id (o ++ [id]) r) else if idc c then idGo true (id ++ [c]) o r else .error 3)
   else if blk c then idGo false id o r else if c = 60 then idGo true [] o r else .error 3
theorem idGo_in : ∀ (r id : List UInt8) (o : List (List UInt8)),id.all idc = true → idGo true id o r = match cutAt 62 r with
  | none => .error 3
  | some (a,t) => if onlyB idc (id ++ a) then idGo false (id ++ a) (o ++ [id ++ a]) t else .error 3
 | [],id,o,_ => rfl
 | c :: r,id,o,h => by
  rw [idGo,if_pos rfl,cutAt]
  by_cases hc : c = 62
  ·rw [if_pos hc,if_pos hc]
   simp only [List.append_nil]
   by_cases h0 : id = []
   ·rw [if_pos h0,h0]
    rfl
   ·rw [if_neg h0,if_pos (by unfold onlyB; rw [h]; simpa using h0)]
  ·rw [if_neg hc,if_neg hc]
   by_cases hi : idc c = true
   ·rw [if_pos hi,idGo_in r (id ++ [c]) o (by rw [List.all_append,h]; simp [hi])]
    cases cutAt 62 r with
    | none => rfl
    | some p => simp
   ·rw [if_neg hi]
    cases cutAt 62 r with
    | none => rfl
    | some p =>
     have : idc c = false := by simpa using hi
     simp [onlyB,this]
theorem idGo_lead : ∀ (l id : List UInt8) (o : List (List UInt8)),idGo false id o l = idGo false id o (l.dropWhile blk)
 | [],_,_ => rfl
 | c :: r,id,o => by
  by_cases h : blk c = true
  ·rw [List.dropWhile_cons_of_pos h,← idGo_lead r id o,idGo,if_neg (by simp),if_pos h]
  ·rw [List.dropWhile_cons_of_neg h]
theorem idGo_tail (b : List UInt8) (hb : ∀ c ∈ b,blk c = true) : ∀ (l : List UInt8) (ins : Bool) (id : List UInt8) (o : List (List UInt8)),idGo ins id o (l ++ b) = idGo ins id o l
 | [],ins,id,o => by
  rw [List.nil_append]
  cases ins with
  | false =>
   rw [idGo_lead]
   have : ∀ b : List UInt8,(∀ c ∈ b,blk c = true) → b.dropWhile blk = [] := by
    intro b
    induction b with
    | nil => exact fun _ => rfl
    | cons c r ih =>
     intro h
     rw [List.dropWhile_cons_of_pos (h c (by simp))]
     exact ih fun x hx => h x (by simp [hx])
   rw [this b hb]
  | true =>
   cases b with
   | nil => rfl
   | cons c r =>
    have h := (blk_iff c).1 (hb c (by simp))
    have h1 : c ≠ 62 := fun e => by rw [e] at h; simp at h
    have h2 : idc c = false := by
     unfold idc prc
     simp only [Bool.and_eq_false_iff,decide_eq_false_iff_not]
     omega
    show idGo true id o (c :: r) = .error 3
    rw [idGo,if_pos rfl,if_neg h1,h2]
    rfl
 | c :: r,ins,id,o => by
  rw [List.cons_append,idGo,idGo]
  have ih := idGo_tail b hb r
  simp only [ih]
theorem trimB_mid (l : List UInt8) : ∃ b,(∀ c ∈ b,blk c = true) ∧ l = (l.reverse.dropWhile blk).reverse ++ b := by
 refine ⟨(l.reverse.takeWhile blk).reverse,fun c hc => ?_,?_⟩
 ·exact (List.all_eq_true.1 (List.all_takeWhile (p := blk) (l := l.reverse))) c (by simpa using hc)
 ·rw [← List.reverse_append,List.takeWhile_append_dropWhile,List.reverse_reverse]
theorem idGo_trim (l id : List UInt8) (o : List (List UInt8)) : idGo false id o l = idGo false id o (trimB l) := by
 obtain ⟨b,hb,e⟩ := trimB_mid l
 conv => lhs; rw [e]
 rw [idGo_tail b hb,idGo_lead,← trimB_def]
theorem trimB_head {l r : List UInt8} {c : UInt8} (h : trimB l = c :: r) : blk c = false := by
 rw [trimB_def] at h
 have := List.head?_dropWhile_not blk ((l.reverse.dropWhile blk).reverse)
 rw [h] at this
 simpa using this
theorem idGo_eq : ∀ (n : Nat) (l id : List UInt8) (o : List (List UInt8)),l.length ≤ n → idGo false id o l = (idsIn l).map fun p => o ++ p
 | n,l,id,o,hn => by
  rw [idGo_trim,idsIn_eq]
  have hl := trimB_len l
  cases ht : trimB l with
  | nil => simp [idGo,Except.map]
  | cons c r =>
   rw [ht] at hl
   simp only [List.length_cons] at hl
   rw [idGo,if_neg (by simp),if_neg (by rw [trimB_head ht]; simp)]
   by_cases hc : c = 60
   ·simp only [if_pos hc]
    rw [idGo_in r [] o rfl]
    cases hcut : cutAt 62 r with
    | none => rfl
    | some p =>
     obtain ⟨a,t⟩ := p
     have := cutAt_len hcut
     simp only [List.nil_append]
     split
     ·cases n with
      | zero => omega
      | succ n =>
       rw [idGo_eq n t a (o ++ [a]) (by omega)]
       cases idsIn t <;> simp [Except.map]
     ·rfl
   ·simp only [if_neg hc]
    rfl
theorem id_eq (l : List UInt8) : idGo false [] [] l = idsIn l := by
 rw [idGo_eq l.length l [] [] (Nat.le_refl _)]
 cases idsIn l <;> simp [Except.map]
end Tk
end
section
namespace Tk
def okc (c : UInt8) : Bool := prc c && c != 60 && c != 62 && c != 40 && c != 41 && c != 34 && c != 92
def okId (id : List UInt8) : Bool := id.all okc && !id.isEmpty
def sepT : Nat → List UInt8
 | 0 => []
 | 1 => [32]
 | 2 => [9,40,120,41]
 | _ => [40,97,32,40,98,41,32,99,41,32]
def sepB : Nat → List UInt8
 | 0 => []
 | 1 => [32]
 | 2 => [9,32]
 | _ => [32,32]
def itemT (p : Nat × List UInt8) : List UInt8 := sepT p.1 ++ [60] ++ p.2 ++ [62]
def itemB (p : Nat × List UInt8) : List UInt8 := sepB p.1 ++ [60] ++ p.2 ++ [62]
theorem emap_map {f g : List UInt8 → List UInt8} (r : Except Nat (List UInt8)) : (r.map f).map g = r.map fun p => g (f p) := by cases r <;> rfl
theorem bareP_plain {c : UInt8} {r : List UInt8} (h1 : c ≠ 40) (h2 : c ≠ 34) (h3 : c ≠ 41) : bareP (c :: r) = (bareP r).map fun o => c :: o := by
 rw [bareP_cons,if_neg h1,if_neg h2,if_neg h3]
theorem bareP_sep (s : Nat) (r : List UInt8) : bareP (sepT s ++ r) = (bareP r).map fun o => sepB s ++ o := by
 match s with
 | 0 => cases h : bareP r <;> simp [sepT,sepB,h,Except.map]
 | 1 =>
  show bareP (32 :: r) = _
  rw [bareP_plain (by decide) (by decide) (by decide)]
  rfl
 | 2 =>
  show bareP (9 :: 40 :: 120 :: 41 :: r) = _
  rw [bareP_plain (by decide) (by decide) (by decide),bareP_cons,if_pos rfl]
  have : cmtGo 1 (120 :: 41 :: r) = .ok r := by
   rw [cmtGo.eq_def]
   simp only
   rw [if_neg (by decide),if_neg (by decide),if_neg (by decide),cmtGo.eq_def]
   simp
  rw [this]
  simp only
  rw [emap_map]
  rfl
 | n + 3 =>
  show bareP (40 :: 97 :: 32 :: 40 :: 98 :: 41 :: 32 :: 99 :: 41 :: 32 :: r) = _
  rw [bareP_cons,if_pos rfl]
  have : cmtGo 1 (97 :: 32 :: 40 :: 98 :: 41 :: 32 :: 99 :: 41 :: 32 :: r) = .ok (32 :: r) := by simp [cmtGo]
  rw [this]
  simp only
  rw [bareP_plain (by decide) (by decide) (by decide),emap_map]
  rfl
theorem bareP_all : ∀ (a r : List UInt8),(∀ c ∈ a,c ≠ 40 ∧ c ≠ 34 ∧ c ≠ 41) → bareP (a ++ r) = (bareP r).map fun o => a ++ o
 | [],r,_ => by cases h : bareP r <;> simp [h,Except.map]
 | c :: a,r,h => by
  have hc := h c (by simp)
  rw [List.cons_append,bareP_plain hc.1 hc.2.1 hc.2.2,bareP_all a r (fun x hx => h x (by simp [hx])),emap_map]
  rfl
theorem okc_iff (c : UInt8) : okc c = true ↔ prc c = true ∧ c ≠ 60 ∧ c ≠ 62 ∧ c ≠ 40 ∧ c ≠ 41 ∧ c ≠ 34 ∧ c ≠ 92 := by
 unfold okc
 simp [and_assoc]
theorem bareP_item (p : Nat × List UInt8) (r : List UInt8) (h : okId p.2 = true) : bareP (itemT p ++ r) = (bareP r).map fun o => itemB p ++ o := by
 unfold itemT itemB
 unfold okId at h
 rw [Bool.and_eq_true,List.all_eq_true] at h
 rw [List.append_assoc,List.append_assoc,List.append_assoc,bareP_sep,show [60] ++ (p.2 ++ ([62] ++ r)) = ([60] ++ p.2 ++ [62]) ++ r by simp,bareP_all _ _ ?_,emap_map]
 ·simp
 ·intro c hc
  simp only [List.mem_append,List.mem_singleton] at hc
  rcases hc with (rfl | hc) | rfl
  ·decide
  ·have := (okc_iff c).1 (h.1 c hc)
   exact ⟨this.2.2.2.1,this.2.2.2.2.2.1,this.2.2.2.2.1⟩
  ·decide
theorem bareP_text : ∀ its : List (Nat × List UInt8),(∀ p ∈ its,okId p.2 = true) → bareP (its.flatMap itemT) = .ok (its.flatMap itemB)
 | [],_ => rfl
 | p :: its,h => by
  rw [List.flatMap_cons,bareP_item p _ (h p (by simp)),bareP_text its (fun x hx => h x (by simp [hx]))]
  rfl
theorem idGo_sep (s : Nat) (id : List UInt8) (d : List (List UInt8)) (r : List UInt8) : idGo false id d (sepB s ++ r) = idGo false id d r := by
 match s with
 | 0 => rfl
 | 1 =>
  show idGo false id d (32 :: r) = _
  rw [idGo,if_neg (by simp),if_pos (by decide)]
 | 2 =>
  show idGo false id d (9 :: 32 :: r) = _
  rw [idGo,if_neg (by simp),if_pos (by decide),idGo,if_neg (by simp),if_pos (by decide)]
 | n + 3 =>
  show idGo false id d (32 :: 32 :: r) = _
  rw [idGo,if_neg (by simp),if_pos (by decide),idGo,if_neg (by simp),if_pos (by decide)]
theorem idGo_id : ∀ (id cur : List UInt8) (d : List (List UInt8)) (r : List UInt8),id.all okc = true → cur ++ id ≠ [] → idGo true cur d (id ++ 62 :: r) = idGo false (cur ++ id) (d ++ [cur ++ id]) r
 | [],cur,d,r,_,h => by
  rw [List.append_nil] at h ⊢
  rw [List.nil_append,idGo,if_pos rfl,if_pos rfl,if_neg h]
 | c :: id,cur,d,r,ha,h => by
  rw [List.all_cons,Bool.and_eq_true] at ha
  have hc := (okc_iff c).1 ha.1
  have hi : idc c = true := by
   unfold idc
   rw [hc.1]
   simpa using hc.2.1
  rw [List.cons_append,idGo,if_pos rfl,if_neg hc.2.2.1,if_pos hi,idGo_id id (cur ++ [c]) d r ha.2 (by simp)]
  simp
theorem idGo_text : ∀ (its : List (Nat × List UInt8)) (cur : List UInt8) (d : List (List UInt8)),(∀ p ∈ its,okId p.2 = true) → idGo false cur d (its.flatMap itemB) = .ok (d ++ its.map (·.2))
 | [],cur,d,_ => by simp [idGo]
 | p :: its,cur,d,h => by
  have hp := h p (by simp)
  unfold okId at hp
  rw [Bool.and_eq_true] at hp
  have hne : p.2 ≠ [] := by
   have := hp.2
   simpa using this
  rw [List.flatMap_cons]
  show idGo false cur d ((sepB p.1 ++ [60] ++ p.2 ++ [62]) ++ its.flatMap itemB) = _
  rw [show (sepB p.1 ++ [60] ++ p.2 ++ [62]) ++ its.flatMap itemB = sepB p.1 ++ (60 :: (p.2 ++ 62 :: its.flatMap itemB)) by simp,idGo_sep,idGo,if_neg (by simp),if_neg (by decide),if_pos rfl,
   idGo_id p.2 [] d _ hp.1 (by simpa using hne),idGo_text its _ _ (fun x hx => h x (by simp [hx]))]
  simp
theorem lists_ok (its : List (Nat × List UInt8)) (h : ∀ p ∈ its,okId p.2 = true) : idsP (its.flatMap itemT) = .ok (its.map (·.2)) := by
 unfold idsP
 rw [bareP_text its h]
 simp only
 rw [← id_eq,idGo_text its [] [] h]
 rfl
theorem atc_small (c : UInt8) : atc (small c) = atc c ∧ (small c = 46 ↔ c = 46) ∧ small (small c) = small c := by
 have key : ∀ n : Fin 256,atc (small (UInt8.ofNat n.1)) = atc (UInt8.ofNat n.1) ∧ (small (UInt8.ofNat n.1) = 46 ↔ UInt8.ofNat n.1 = 46) ∧ small (small (UInt8.ofNat n.1)) = small (UInt8.ofNat n.1) := by decide +kernel
 have := key ⟨c.toNat,c.toNat_lt⟩
 simpa only [UInt8.ofNat_toNat] using this
theorem dotGo_small : ∀ (y : List UInt8) (last : UInt8),dotGo (small last) (y.map small) = dotGo last y
 | [],last => by
  show (small last != 46) = (last != 46)
  have := (atc_small last).2.1
  rw [Bool.eq_iff_iff]
  simp [this]
 | c :: y,last => by
  have hc := atc_small c
  have hl := (atc_small last).2.1
  rw [List.map_cons,dotGo,dotGo]
  by_cases h : c = 46
  ·rw [if_pos (hc.2.1.2 h),if_pos h]
   by_cases h2 : last = 46
   ·rw [if_pos (hl.2 h2),if_pos h2]
   ·rw [if_neg (fun k => h2 (hl.1 k)),if_neg h2]
    exact dotGo_small y 46
  ·rw [if_neg (fun k => h (hc.2.1.1 k)),if_neg h,hc.1,dotGo_small y c]
theorem dotP_small (y : List UInt8) : dotP (y.map small) = dotP y := by
 rw [← dot_eq,← dot_eq]
 exact dotGo_small y 46
theorem dotGo_chars : ∀ (x : List UInt8) (last : UInt8),dotGo last x = true → ∀ c ∈ x,atc c = true ∨ c = 46
 | [],_,_,_,h => by cases h
 | d :: x,last,h,c,hc => by
  rw [dotGo] at h
  by_cases hd : d = 46
  ·rw [if_pos hd] at h
   split at h
   ·cases h
   ·rcases List.mem_cons.1 hc with rfl | hc
    ·exact .inr hd
    ·exact dotGo_chars x 46 h c hc
  ·rw [if_neg hd] at h
   split at h
   ·rename_i ha
    rcases List.mem_cons.1 hc with rfl | hc
    ·exact .inl ha
    ·exact dotGo_chars x d h c hc
   ·cases h
theorem trimB_self' {u : List UInt8} (h1 : ∀ x,u.head? = some x → blk x = false) (h2 : ∀ x,u.getLast? = some x → blk x = false) : trimB u = u := by
 rw [trimB_def]
 have e1 : u.reverse.dropWhile blk = u.reverse := by
  cases hr : u.reverse with
  | nil => rfl
  | cons x r =>
   have : u.getLast? = some x := by rw [List.getLast?_eq_head?_reverse,hr]; rfl
   rw [List.dropWhile_cons_of_neg (by rw [h2 x this]; simp)]
 rw [e1,List.reverse_reverse]
 cases u with
 | nil => rfl
 | cons x r => rw [List.dropWhile_cons_of_neg (by rw [h1 x rfl]; simp)]
theorem addr_parts {l a : List UInt8} (h : addrP l = .ok a) : ∃ x y,a = x ++ 64 :: y.map small ∧ dotP x = true ∧ dotP y = true := by
 unfold addrP at h
 cases hb : bareP l with
 | error e => rw [hb] at h; cases h
 | ok b =>
  rw [hb] at h
  simp only at h
  cases ha : addrIn b with
  | none => rw [ha] at h; cases h
  | some t =>
   rw [ha] at h
   simp only at h
   unfold addrAt at h
   cases hc : cutAt 64 t with
   | none => rw [hc] at h; cases h
   | some p =>
    obtain ⟨x,y⟩ := p
    rw [hc] at h
    simp only at h
    split at h
    ·rename_i hd
     rw [Bool.and_eq_true] at hd
     cases h
     exact ⟨x,y,rfl,hd.1,hd.2⟩
    ·cases h
end Tk
end
end Go.Proofs.YtkllecicddfjpaaGreatDoor
