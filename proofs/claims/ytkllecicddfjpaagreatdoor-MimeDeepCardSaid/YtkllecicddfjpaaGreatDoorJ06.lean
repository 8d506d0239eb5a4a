/- A kind and parameters, in plain words: cut at the ; outside of quotations, and sign by sign: one. Nothing of the program. · Ids: sign by sign, and from cut to cut: one. Nothing of the program. -/
import Derived.Test.YtkllecicddfjpaaGreatDoorJ05
namespace Go.Proofs.YtkllecicddfjpaaGreatDoor
namespace Tk
set_option linter.unusedVariables false
set_option linter.unusedSimpArgs false

/-- a piece with more ahead of it -/
def pre (a : List UInt8) : List (List UInt8) → List (List UInt8)
  | [] => [a]
  | p :: ps => (a ++ p) :: ps
theorem pre_nil {ps : List (List UInt8)} (h : ps ≠ []) : pre [] ps = ps := by cases ps with | nil => exact absurd rfl h | cons p ps => rfl
theorem pre_pre (a b : List UInt8) (ps : List (List UInt8)) : pre a (pre b ps) = pre (a ++ b) ps := by cases ps <;> simp [pre]
theorem pre_ne (a : List UInt8) (ps : List (List UInt8)) : pre a ps ≠ [] := by cases ps <;> simp [pre]
/-- cut at each ; outside of quotations (none: one doesn't end) -/
def semN : Nat → List UInt8 → Option (List (List UInt8))
  | _, [] => some [[]]
  | 0, _ :: _ => none
  | n + 1, c :: r => if c = 34 then (match qGo r with | none => none | some (a, t) => (semN n t).map (pre (34 :: a)))
    else if c = 59 then (semN n r).map fun ps => [] :: ps
    else (semN n r).map (pre [c])
def semP (l : List UInt8) : Option (List (List UInt8)) := semN l.length l
theorem semN_fuel : ∀ (n m : Nat) (l : List UInt8), l.length ≤ n → l.length ≤ m → semN n l = semN m l
  | n, m, [], _, _ => by cases n <;> cases m <;> rfl
  | n + 1, m + 1, c :: r, hn, hm => by
    simp only [List.length_cons] at hn hm
    have ih : ∀ t : List UInt8, t.length ≤ r.length → semN n t = semN m t := fun t ht => semN_fuel n m t (by omega) (by omega)
    rw [semN, semN]
    split
    · cases h : qGo r with
      | none => rfl
      | some p =>
        obtain ⟨a, t⟩ := p
        have := (qGo_len r.length r a t (Nat.le_refl _) h).1
        have hl : t.length ≤ r.length := by rw [this]; simp
        simp only
        rw [ih t hl]
    · rw [ih r (Nat.le_refl _)]
  | 0, _, c :: r, hn, _ => by simp at hn
  | _ + 1, 0, c :: r, _, hm => by simp at hm
theorem semP_cons (c : UInt8) (r : List UInt8) : semP (c :: r) =
    if c = 34 then (match qGo r with | none => none | some (a, t) => (semP t).map (pre (34 :: a)))
    else if c = 59 then (semP r).map fun ps => [] :: ps
    else (semP r).map (pre [c]) := by
  show semN (r.length + 1) (c :: r) = _
  rw [semN]
  split
  · cases h : qGo r with
    | none => rfl
    | some p =>
      obtain ⟨a, t⟩ := p
      have := (qGo_len r.length r a t (Nat.le_refl _) h).1
      have hl : t.length ≤ r.length := by rw [this]; simp
      simp only
      rw [semN_fuel r.length t.length t hl (Nat.le_refl _)]
      rfl
  · rfl
theorem semP_ne {l : List UInt8} {ps : List (List UInt8)} (h : semP l = some ps) : ps ≠ [] := by
  cases l with
  | nil => simp [semP, semN] at h; simp [← h]
  | cons c r =>
    rw [semP_cons] at h
    split at h
    · split at h
      · cases h
      · rw [Option.map_eq_some_iff] at h
        obtain ⟨x, _, rfl⟩ := h
        exact pre_ne _ _
    · split at h
      · rw [Option.map_eq_some_iff] at h
        obtain ⟨x, _, rfl⟩ := h
        simp
      · rw [Option.map_eq_some_iff] at h
        obtain ⟨x, _, rfl⟩ := h
        exact pre_ne _ _
theorem qGo_app : ∀ (n : Nat) (l a t u : List UInt8), l.length ≤ n → qGo l = some (a, t) → qGo (a ++ u) = some (a, u)
  | 0, [], _, _, _, _, h => by simp [qGo] at h
  | n + 1, [], _, _, _, _, h => by simp [qGo] at h
  | n + 1, c :: l, a, t, u, hl, h => by
    simp only [List.length_cons] at hl
    rw [qGo.eq_def] at h
    simp only at h
    split at h
    · rename_i hc
      split at h
      · cases h
      · rename_i x r'
        rw [Option.map_eq_some_iff] at h
        obtain ⟨⟨a', b'⟩, h1, h2⟩ := h
        cases h2
        have ih := qGo_app n r' a' b' u (by simp at hl; omega) h1
        show qGo (92 :: x :: (a' ++ u)) = _
        rw [qGo, if_pos rfl]
        simp only
        rw [ih]
        rfl
    · rename_i h9
      split at h
      · cases h
        show qGo (34 :: u) = _
        rw [qGo.eq_def]
        simp
      · rename_i h3
        rw [Option.map_eq_some_iff] at h
        obtain ⟨⟨a', b'⟩, h1, h2⟩ := h
        cases h2
        have ih := qGo_app n l a' b' u (by omega) h1
        show qGo (c :: (a' ++ u)) = _
        rw [qGo.eq_def]
        simp only
        rw [if_neg h9, if_neg h3, ih]
        rfl
/-- what is bare has whole quotations alone -/
theorem bare_sem : ∀ (n : Nat) (l o : List UInt8), l.length ≤ n → bareP l = .ok o → ∃ ps, semP o = some ps
  | _, [], o, _, h => by
    have : o = [] := by simpa [bareP, bareN, eq_comm] using h
    exact ⟨[[]], by rw [this]; rfl⟩
  | 0, c :: r, o, hl, _ => by simp at hl
  | n + 1, c :: r, o, hl, h => by
    simp only [List.length_cons] at hl
    rw [bareP_cons] at h
    have key : ∀ (x : UInt8) (t p : List UInt8), x ≠ 34 → t.length ≤ n → bareP t = .ok p → ∃ ps, semP (x :: p) = some ps := by
      intro x t p hx ht hp
      obtain ⟨ps, hps⟩ := bare_sem n t p ht hp
      rw [semP_cons, if_neg hx, hps]
      split
      · exact ⟨_, rfl⟩
      · exact ⟨_, rfl⟩
    by_cases h1 : c = 40
    · rw [if_pos h1] at h
      cases hc : cmtGo 1 r with
      | error e => rw [hc] at h; cases h
      | ok t =>
        have := cmtGo_len r.length r 1 t (Nat.le_refl _) hc
        rw [hc] at h
        simp only at h
        cases hb : bareP t with
        | error e => rw [hb] at h; cases h
        | ok p =>
          rw [hb] at h
          cases h
          exact key 32 t p (by decide) (by omega) hb
    · rw [if_neg h1] at h
      by_cases h2 : c = 34
      · rw [if_pos h2] at h
        cases hq : qGo r with
        | none => rw [hq] at h; cases h
        | some q =>
          obtain ⟨a, t⟩ := q
          have := (qGo_len r.length r a t (Nat.le_refl _) hq).1
          have hl2 : t.length ≤ r.length := by rw [this]; simp
          rw [hq] at h
          simp only at h
          cases hb : bareP t with
          | error e => rw [hb] at h; cases h
          | ok p =>
            rw [hb] at h
            cases h
            obtain ⟨ps, hps⟩ := bare_sem n t p (by omega) hb
            rw [semP_cons, if_pos rfl, qGo_app r.length r a t p (Nat.le_refl _) hq]
            simp only
            rw [hps]
            exact ⟨_, rfl⟩
      · rw [if_neg h2] at h
        by_cases h3 : c = 41
        · rw [if_pos h3] at h
          cases h
        · rw [if_neg h3] at h
          cases hb : bareP r with
          | error e => rw [hb] at h; cases h
          | ok p =>
            rw [hb] at h
            cases h
            exact key c r p h2 (by omega) hb
/-- sign by sign: inside of a quotation or not, what is told of this piece -/
def semD : Bool → List UInt8 → List UInt8 → List (List UInt8)
  | _, cur, [] => [cur]
  | ins, cur, c :: r =>
    if ins = true ∧ c = 92 then (match r with | [] => [cur ++ [92]] | x :: r' => semD ins (cur ++ [92, x]) r')
    else if c = 34 then semD (!ins) (cur ++ [34]) r
    else if c = 59 ∧ ins = false then cur :: semD false [] r
    else semD ins (cur ++ [c]) r
theorem semD_q : ∀ (n : Nat) (l cur a t : List UInt8), l.length ≤ n → qGo l = some (a, t) → semD true cur l = semD false (cur ++ a) t
  | 0, [], _, _, _, _, h => by simp [qGo] at h
  | n + 1, [], _, _, _, _, h => by simp [qGo] at h
  | n + 1, c :: l, cur, a, t, hl, h => by
    simp only [List.length_cons] at hl
    rw [qGo.eq_def] at h
    simp only at h
    rw [semD.eq_def]
    simp only
    split at h
    · rename_i hc
      rw [if_pos ⟨trivial, hc⟩]
      split at h
      · cases h
      · rename_i x r'
        rw [Option.map_eq_some_iff] at h
        obtain ⟨⟨a', b'⟩, h1, h2⟩ := h
        cases h2
        simp only
        rw [semD_q n r' _ a' b' (by simp at hl; omega) h1]
        simp
    · rename_i h9
      rw [if_neg (fun k => h9 k.2)]
      split at h
      · rename_i h3
        cases h
        rw [if_pos h3]
        rfl
      · rename_i h3
        rw [Option.map_eq_some_iff] at h
        obtain ⟨⟨a', b'⟩, h1, h2⟩ := h
        cases h2
        rw [if_neg h3, if_neg (by simp), semD_q n l _ a' b' (by omega) h1]
        simp
theorem semD_eq : ∀ (n : Nat) (l cur : List UInt8) (ps : List (List UInt8)), l.length ≤ n → semP l = some ps → semD false cur l = pre cur ps
  | _, [], cur, ps, _, h => by
    have : ps = [[]] := by simpa [semP, semN, eq_comm] using h
    rw [this]
    simp [semD, pre]
  | 0, c :: r, _, _, hl, _ => by simp at hl
  | n + 1, c :: r, cur, ps, hl, h => by
    simp only [List.length_cons] at hl
    rw [semP_cons] at h
    rw [semD.eq_def]
    simp only
    rw [if_neg (by simp)]
    by_cases h3 : c = 34
    · rw [if_pos h3] at h
      rw [if_pos h3]
      cases hq : qGo r with
      | none => rw [hq] at h; cases h
      | some q =>
        obtain ⟨a, t⟩ := q
        have := (qGo_len r.length r a t (Nat.le_refl _) hq).1
        have hl2 : t.length ≤ r.length := by rw [this]; simp
        rw [hq] at h
        simp only at h
        rw [Option.map_eq_some_iff] at h
        obtain ⟨qs, h1, rfl⟩ := h
        show semD true _ _ = _
        rw [semD_q r.length r _ a t (Nat.le_refl _) hq, semD_eq n t _ qs (by omega) h1, pre_pre]
        simp
    · rw [if_neg h3] at h
      rw [if_neg h3]
      by_cases h5 : c = 59
      · rw [if_pos h5, Option.map_eq_some_iff] at h
        obtain ⟨qs, h1, rfl⟩ := h
        rw [if_pos ⟨h5, trivial⟩, semD_eq n r [] qs (by omega) h1, pre_nil (semP_ne h1)]
        simp [pre]
      · rw [if_neg h5, Option.map_eq_some_iff] at h
        obtain ⟨qs, h1, rfl⟩ := h
        rw [if_neg (fun k => h5 k.1), semD_eq n r _ qs (by omega) h1, pre_pre]
theorem semD_sem {l : List UInt8} {ps : List (List UInt8)} (h : semP l = some ps) : semD false [] l = ps := by
  rw [semD_eq l.length l [] ps (Nat.le_refl _) h, pre_nil (semP_ne h)]

/-- what a quotation tells, from behind its beginning, its end told -/
def unq : List UInt8 → List UInt8
  | [] => []
  | c :: r => if c = 34 then [] else if c = 92 then (match r with | [] => [] | x :: r' => x :: unq r') else c :: unq r
/-- from behind a beginning: what is told, and what is behind the end (none: it doesn't end) -/
def unGo : List UInt8 → List UInt8 → List UInt8 × Option (List UInt8)
  | o, [] => (o, none)
  | o, c :: r => if c = 34 then (o, some r) else if c = 92 then (match r with | [] => (o, none) | x :: r' => unGo (o ++ [x]) r') else unGo (o ++ [c]) r
theorem unGo_q : ∀ (n : Nat) (l o : List UInt8), l.length ≤ n → (qGo l = none ∧ (unGo o l).2 = none) ∨ ∃ a t, qGo l = some (a, t) ∧ unGo o l = (o ++ unq a, some t)
  | 0, [], _, _ => .inl ⟨rfl, rfl⟩
  | n + 1, [], _, _ => .inl ⟨rfl, rfl⟩
  | n + 1, c :: l, o, hl => by
    simp only [List.length_cons] at hl
    rw [qGo.eq_def, unGo.eq_def]
    simp only
    by_cases h9 : c = 92
    · subst h9
      rw [if_pos rfl, if_neg (by decide), if_pos rfl]
      cases l with
      | nil => exact .inl ⟨rfl, rfl⟩
      | cons x r' =>
        simp only
        rcases unGo_q n r' (o ++ [x]) (by simp at hl; omega) with ⟨h1, h2⟩ | ⟨a, t, h1, h2⟩
        · exact .inl ⟨by rw [h1]; rfl, h2⟩
        · refine .inr ⟨_, _, by rw [h1]; rfl, ?_⟩
          rw [h2, unq]
          simp
    · rw [if_neg h9]
      by_cases h3 : c = 34
      · rw [if_pos h3, if_pos h3]
        exact .inr ⟨_, _, rfl, by simp [unq]⟩
      · rw [if_neg h3, if_neg h3, if_neg h9]
        rcases unGo_q n l (o ++ [c]) (by omega) with ⟨h1, h2⟩ | ⟨a, t, h1, h2⟩
        · exact .inl ⟨by rw [h1]; rfl, h2⟩
        · refine .inr ⟨_, _, by rw [h1]; rfl, ?_⟩
          rw [h2, unq.eq_def (c :: a)]
          simp [h3, h9]

/-- is v a whole quotation? what it tells -/
def quoP : List UInt8 → Option (List UInt8)
  | [] => none
  | c :: r => if c = 34 then (match qGo r with | some (a, []) => some (unq a) | _ => none) else none
/-- a parameter: name, value, may it be one? -/
def partV (p : List UInt8) : List UInt8 × List UInt8 × Bool := match cutAt 61 p with
  | none => ((trimB p).map small, [], false)
  | some (a, b) => match quoP (trimB b) with
    | some u => ((trimB a).map small, u, valB u && atomB (trimB a))
    | none => ((trimB a).map small, trimB b, onlyB loc' (trimB b) && atomB (trimB a))
/-- is it a kind? -/
def kindB (l : List UInt8) : Bool := match cutAt 47 l with | none => false | some (a, b) => atomB a && atomB b
/-- a kind, and parameters -/
def parmP (l : List UInt8) : Except Nat (List UInt8 × List (List UInt8 × List UInt8)) := match bareP l with
  | .error e => .error e
  | .ok b => match semP b with
    | none => .error 3
    | some ps => if kindB (trimB (ps.headD [])) && ps.tail.all (fun p => (partV p).2.2) then .ok ((trimB (ps.headD [])).map small, ps.tail.map fun p => ((partV p).1, (partV p).2.1)) else .error 3
end Tk
end Go.Proofs.YtkllecicddfjpaaGreatDoor

namespace Go.Proofs.YtkllecicddfjpaaGreatDoor
namespace Tk
set_option linter.unusedVariables false
set_option linter.unusedSimpArgs false

/-- the document's Ids sign by sign -/
def idGo : Bool → List UInt8 → List (List UInt8) → List UInt8 → Except Nat (List (List UInt8))
  | ins, _, o, [] => if ins then .error 3 else .ok o
  | ins, id, o, c :: r => if ins then (if c = 62 then (if id = [] then .error 3 else idGo false id (o ++ [id]) r) else if idc c then idGo true (id ++ [c]) o r else .error 3)
      else if blk c then idGo false id o r else if c = 60 then idGo true [] o r else .error 3
theorem idGo_in : ∀ (r id : List UInt8) (o : List (List UInt8)), id.all idc = true → idGo true id o r = match cutAt 62 r with
    | none => .error 3
    | some (a, t) => if onlyB idc (id ++ a) then idGo false (id ++ a) (o ++ [id ++ a]) t else .error 3
  | [], id, o, _ => rfl
  | c :: r, id, o, h => by
    rw [idGo, if_pos rfl, cutAt]
    by_cases hc : c = 62
    · rw [if_pos hc, if_pos hc]
      simp only [List.append_nil]
      by_cases h0 : id = []
      · rw [if_pos h0, h0]
        rfl
      · rw [if_neg h0, if_pos (by unfold onlyB; rw [h]; simpa using h0)]
    · rw [if_neg hc, if_neg hc]
      by_cases hi : idc c = true
      · rw [if_pos hi, idGo_in r (id ++ [c]) o (by rw [List.all_append, h]; simp [hi])]
        cases cutAt 62 r with
        | none => rfl
        | some p => simp
      · rw [if_neg hi]
        cases cutAt 62 r with
        | none => rfl
        | some p =>
          have : idc c = false := by simpa using hi
          simp [onlyB, this]
theorem idGo_lead : ∀ (l id : List UInt8) (o : List (List UInt8)), idGo false id o l = idGo false id o (l.dropWhile blk)
  | [], _, _ => rfl
  | c :: r, id, o => by
    by_cases h : blk c = true
    · rw [List.dropWhile_cons_of_pos h, ← idGo_lead r id o, idGo, if_neg (by simp), if_pos h]
    · rw [List.dropWhile_cons_of_neg h]
theorem idGo_tail (b : List UInt8) (hb : ∀ c ∈ b, blk c = true) : ∀ (l : List UInt8) (ins : Bool) (id : List UInt8) (o : List (List UInt8)), idGo ins id o (l ++ b) = idGo ins id o l
  | [], ins, id, o => by
    rw [List.nil_append]
    cases ins with
    | false =>
      rw [idGo_lead]
      have : ∀ b : List UInt8, (∀ c ∈ b, blk c = true) → b.dropWhile blk = [] := by
        intro b
        induction b with
        | nil => exact fun _ => rfl
        | cons c r ih =>
          intro h
          rw [List.dropWhile_cons_of_pos (h c (by simp))]
          exact ih fun x hx => h x (by simp [hx])
      rw [this b hb]
    | true =>
      cases b with
      | nil => rfl
      | cons c r =>
        have h := (blk_iff c).1 (hb c (by simp))
        have h1 : c ≠ 62 := fun e => by rw [e] at h; simp at h
        have h2 : idc c = false := by
          unfold idc prc
          simp only [Bool.and_eq_false_iff, decide_eq_false_iff_not]
          omega
        show idGo true id o (c :: r) = .error 3
        rw [idGo, if_pos rfl, if_neg h1, h2]
        rfl
  | c :: r, ins, id, o => by
    rw [List.cons_append, idGo, idGo]
    have ih := idGo_tail b hb r
    simp only [ih]
theorem trimB_mid (l : List UInt8) : ∃ b, (∀ c ∈ b, blk c = true) ∧ l = (l.reverse.dropWhile blk).reverse ++ b := by
  refine ⟨(l.reverse.takeWhile blk).reverse, fun c hc => ?_, ?_⟩
  · exact (List.all_eq_true.1 (List.all_takeWhile (p := blk) (l := l.reverse))) c (by simpa using hc)
  · rw [← List.reverse_append, List.takeWhile_append_dropWhile, List.reverse_reverse]
theorem idGo_trim (l id : List UInt8) (o : List (List UInt8)) : idGo false id o l = idGo false id o (trimB l) := by
  obtain ⟨b, hb, e⟩ := trimB_mid l
  conv => lhs; rw [e]
  rw [idGo_tail b hb, idGo_lead, ← trimB_def]
theorem trimB_head {l r : List UInt8} {c : UInt8} (h : trimB l = c :: r) : blk c = false := by
  rw [trimB_def] at h
  have := List.head?_dropWhile_not blk ((l.reverse.dropWhile blk).reverse)
  rw [h] at this
  simpa using this
theorem idGo_eq : ∀ (n : Nat) (l id : List UInt8) (o : List (List UInt8)), l.length ≤ n → idGo false id o l = (idsIn l).map fun p => o ++ p
  | n, l, id, o, hn => by
    rw [idGo_trim, idsIn_eq]
    have hl := trimB_len l
    cases ht : trimB l with
    | nil => simp [idGo, Except.map]
    | cons c r =>
      rw [ht] at hl
      simp only [List.length_cons] at hl
      rw [idGo, if_neg (by simp), if_neg (by rw [trimB_head ht]; simp)]
      by_cases hc : c = 60
      · simp only [if_pos hc]
        rw [idGo_in r [] o rfl]
        cases hcut : cutAt 62 r with
        | none => rfl
        | some p =>
          obtain ⟨a, t⟩ := p
          have := cutAt_len hcut
          simp only [List.nil_append]
          split
          · cases n with
            | zero => omega
            | succ n =>
              rw [idGo_eq n t a (o ++ [a]) (by omega)]
              cases idsIn t <;> simp [Except.map]
          · rfl
      · simp only [if_neg hc]
        rfl
theorem id_eq (l : List UInt8) : idGo false [] [] l = idsIn l := by
  rw [idGo_eq l.length l [] [] (Nat.le_refl _)]
  cases idsIn l <;> simp [Except.map]
end Tk
end Go.Proofs.YtkllecicddfjpaaGreatDoor
