/- Ids between < and > come back; an address that is told is told again. Nothing of the program. -/
import Derived.Test.YtkllecicddfjpaaGreatDoorJ06
namespace Go.Proofs.YtkllecicddfjpaaGreatDoor
namespace Tk
set_option linter.unusedVariables false
set_option linter.unusedSimpArgs false

/-- may stand in an id, and in no comment or quotation -/
def okc (c : UInt8) : Bool := prc c && c != 60 && c != 62 && c != 40 && c != 41 && c != 34 && c != 92
def okId (id : List UInt8) : Bool := id.all okc && !id.isEmpty
/-- what stands ahead of an id -/
def sepT : Nat → List UInt8
  | 0 => []
  | 1 => [32]
  | 2 => [9, 40, 120, 41]
  | _ => [40, 97, 32, 40, 98, 41, 32, 99, 41, 32]
/-- and what is left of that -/
def sepB : Nat → List UInt8
  | 0 => []
  | 1 => [32]
  | 2 => [9, 32]
  | _ => [32, 32]
def itemT (p : Nat × List UInt8) : List UInt8 := sepT p.1 ++ [60] ++ p.2 ++ [62]
def itemB (p : Nat × List UInt8) : List UInt8 := sepB p.1 ++ [60] ++ p.2 ++ [62]
theorem emap_map {f g : List UInt8 → List UInt8} (r : Except Nat (List UInt8)) : (r.map f).map g = r.map fun p => g (f p) := by cases r <;> rfl
theorem bareP_plain {c : UInt8} {r : List UInt8} (h1 : c ≠ 40) (h2 : c ≠ 34) (h3 : c ≠ 41) : bareP (c :: r) = (bareP r).map fun o => c :: o := by
  rw [bareP_cons, if_neg h1, if_neg h2, if_neg h3]
theorem bareP_sep (s : Nat) (r : List UInt8) : bareP (sepT s ++ r) = (bareP r).map fun o => sepB s ++ o := by
  match s with
  | 0 => cases h : bareP r <;> simp [sepT, sepB, h, Except.map]
  | 1 =>
    show bareP (32 :: r) = _
    rw [bareP_plain (by decide) (by decide) (by decide)]
    rfl
  | 2 =>
    show bareP (9 :: 40 :: 120 :: 41 :: r) = _
    rw [bareP_plain (by decide) (by decide) (by decide), bareP_cons, if_pos rfl]
    have : cmtGo 1 (120 :: 41 :: r) = .ok r := by
      rw [cmtGo.eq_def]
      simp only
      rw [if_neg (by decide), if_neg (by decide), if_neg (by decide), cmtGo.eq_def]
      simp
    rw [this]
    simp only
    rw [emap_map]
    rfl
  | n + 3 =>
    show bareP (40 :: 97 :: 32 :: 40 :: 98 :: 41 :: 32 :: 99 :: 41 :: 32 :: r) = _
    rw [bareP_cons, if_pos rfl]
    have : cmtGo 1 (97 :: 32 :: 40 :: 98 :: 41 :: 32 :: 99 :: 41 :: 32 :: r) = .ok (32 :: r) := by simp [cmtGo]
    rw [this]
    simp only
    rw [bareP_plain (by decide) (by decide) (by decide), emap_map]
    rfl
theorem bareP_all : ∀ (a r : List UInt8), (∀ c ∈ a, c ≠ 40 ∧ c ≠ 34 ∧ c ≠ 41) → bareP (a ++ r) = (bareP r).map fun o => a ++ o
  | [], r, _ => by cases h : bareP r <;> simp [h, Except.map]
  | c :: a, r, h => by
    have hc := h c (by simp)
    rw [List.cons_append, bareP_plain hc.1 hc.2.1 hc.2.2, bareP_all a r (fun x hx => h x (by simp [hx])), emap_map]
    rfl
theorem okc_iff (c : UInt8) : okc c = true ↔ prc c = true ∧ c ≠ 60 ∧ c ≠ 62 ∧ c ≠ 40 ∧ c ≠ 41 ∧ c ≠ 34 ∧ c ≠ 92 := by
  unfold okc
  simp [and_assoc]
theorem bareP_item (p : Nat × List UInt8) (r : List UInt8) (h : okId p.2 = true) : bareP (itemT p ++ r) = (bareP r).map fun o => itemB p ++ o := by
  unfold itemT itemB
  unfold okId at h
  rw [Bool.and_eq_true, List.all_eq_true] at h
  rw [List.append_assoc, List.append_assoc, List.append_assoc, bareP_sep, show [60] ++ (p.2 ++ ([62] ++ r)) = ([60] ++ p.2 ++ [62]) ++ r by simp, bareP_all _ _ ?_, emap_map]
  · simp
  · intro c hc
    simp only [List.mem_append, List.mem_singleton] at hc
    rcases hc with (rfl | hc) | rfl
    · decide
    · have := (okc_iff c).1 (h.1 c hc)
      exact ⟨this.2.2.2.1, this.2.2.2.2.2.1, this.2.2.2.2.1⟩
    · decide
theorem bareP_text : ∀ its : List (Nat × List UInt8), (∀ p ∈ its, okId p.2 = true) → bareP (its.flatMap itemT) = .ok (its.flatMap itemB)
  | [], _ => rfl
  | p :: its, h => by
    rw [List.flatMap_cons, bareP_item p _ (h p (by simp)), bareP_text its (fun x hx => h x (by simp [hx]))]
    rfl
theorem idGo_sep (s : Nat) (id : List UInt8) (d : List (List UInt8)) (r : List UInt8) : idGo false id d (sepB s ++ r) = idGo false id d r := by
  match s with
  | 0 => rfl
  | 1 =>
    show idGo false id d (32 :: r) = _
    rw [idGo, if_neg (by simp), if_pos (by decide)]
  | 2 =>
    show idGo false id d (9 :: 32 :: r) = _
    rw [idGo, if_neg (by simp), if_pos (by decide), idGo, if_neg (by simp), if_pos (by decide)]
  | n + 3 =>
    show idGo false id d (32 :: 32 :: r) = _
    rw [idGo, if_neg (by simp), if_pos (by decide), idGo, if_neg (by simp), if_pos (by decide)]
theorem idGo_id : ∀ (id cur : List UInt8) (d : List (List UInt8)) (r : List UInt8), id.all okc = true → cur ++ id ≠ [] → idGo true cur d (id ++ 62 :: r) = idGo false (cur ++ id) (d ++ [cur ++ id]) r
  | [], cur, d, r, _, h => by
    rw [List.append_nil] at h ⊢
    rw [List.nil_append, idGo, if_pos rfl, if_pos rfl, if_neg h]
  | c :: id, cur, d, r, ha, h => by
    rw [List.all_cons, Bool.and_eq_true] at ha
    have hc := (okc_iff c).1 ha.1
    have hi : idc c = true := by
      unfold idc
      rw [hc.1]
      simpa using hc.2.1
    rw [List.cons_append, idGo, if_pos rfl, if_neg hc.2.2.1, if_pos hi, idGo_id id (cur ++ [c]) d r ha.2 (by simp)]
    simp
theorem idGo_text : ∀ (its : List (Nat × List UInt8)) (cur : List UInt8) (d : List (List UInt8)), (∀ p ∈ its, okId p.2 = true) → idGo false cur d (its.flatMap itemB) = .ok (d ++ its.map (·.2))
  | [], cur, d, _ => by simp [idGo]
  | p :: its, cur, d, h => by
    have hp := h p (by simp)
    unfold okId at hp
    rw [Bool.and_eq_true] at hp
    have hne : p.2 ≠ [] := by
      have := hp.2
      simpa using this
    rw [List.flatMap_cons]
    show idGo false cur d ((sepB p.1 ++ [60] ++ p.2 ++ [62]) ++ its.flatMap itemB) = _
    rw [show (sepB p.1 ++ [60] ++ p.2 ++ [62]) ++ its.flatMap itemB = sepB p.1 ++ (60 :: (p.2 ++ 62 :: its.flatMap itemB)) by simp, idGo_sep, idGo, if_neg (by simp), if_neg (by decide), if_pos rfl,
      idGo_id p.2 [] d _ hp.1 (by simpa using hne), idGo_text its _ _ (fun x hx => h x (by simp [hx]))]
    simp
theorem lists_ok (its : List (Nat × List UInt8)) (h : ∀ p ∈ its, okId p.2 = true) : idsP (its.flatMap itemT) = .ok (its.map (·.2)) := by
  unfold idsP
  rw [bareP_text its h]
  simp only
  rw [← id_eq, idGo_text its [] [] h]
  rfl

theorem atc_not {c : UInt8} (h : atc c = true) : c ≠ 40 ∧ c ≠ 34 ∧ c ≠ 41 ∧ c ≠ 64 ∧ c ≠ 62 ∧ blk c = false := by
  have key : ∀ n : Fin 256, atc (UInt8.ofNat n.1) = true → UInt8.ofNat n.1 ≠ 40 ∧ UInt8.ofNat n.1 ≠ 34 ∧ UInt8.ofNat n.1 ≠ 41 ∧ UInt8.ofNat n.1 ≠ 64 ∧ UInt8.ofNat n.1 ≠ 62 ∧ blk (UInt8.ofNat n.1) = false := by decide +kernel
  have := key ⟨c.toNat, c.toNat_lt⟩
  simp only [UInt8.ofNat_toNat] at this
  exact this h
theorem atc_small (c : UInt8) : atc (small c) = atc c ∧ (small c = 46 ↔ c = 46) ∧ small (small c) = small c := by
  have key : ∀ n : Fin 256, atc (small (UInt8.ofNat n.1)) = atc (UInt8.ofNat n.1) ∧ (small (UInt8.ofNat n.1) = 46 ↔ UInt8.ofNat n.1 = 46) ∧ small (small (UInt8.ofNat n.1)) = small (UInt8.ofNat n.1) := by decide +kernel
  have := key ⟨c.toNat, c.toNat_lt⟩
  simpa only [UInt8.ofNat_toNat] using this
theorem dotGo_small : ∀ (y : List UInt8) (last : UInt8), dotGo (small last) (y.map small) = dotGo last y
  | [], last => by
    show (small last != 46) = (last != 46)
    have := (atc_small last).2.1
    rw [Bool.eq_iff_iff]
    simp [this]
  | c :: y, last => by
    have hc := atc_small c
    have hl := (atc_small last).2.1
    rw [List.map_cons, dotGo, dotGo]
    by_cases h : c = 46
    · rw [if_pos (hc.2.1.2 h), if_pos h]
      by_cases h2 : last = 46
      · rw [if_pos (hl.2 h2), if_pos h2]
      · rw [if_neg (fun k => h2 (hl.1 k)), if_neg h2]
        exact dotGo_small y 46
    · rw [if_neg (fun k => h (hc.2.1.1 k)), if_neg h, hc.1, dotGo_small y c]
theorem dotP_small (y : List UInt8) : dotP (y.map small) = dotP y := by
  rw [← dot_eq, ← dot_eq]
  exact dotGo_small y 46
/-- of signs of atoms and points -/
theorem dotGo_chars : ∀ (x : List UInt8) (last : UInt8), dotGo last x = true → ∀ c ∈ x, atc c = true ∨ c = 46
  | [], _, _, _, h => by cases h
  | d :: x, last, h, c, hc => by
    rw [dotGo] at h
    by_cases hd : d = 46
    · rw [if_pos hd] at h
      split at h
      · cases h
      · rcases List.mem_cons.1 hc with rfl | hc
        · exact .inr hd
        · exact dotGo_chars x 46 h c hc
    · rw [if_neg hd] at h
      split at h
      · rename_i ha
        rcases List.mem_cons.1 hc with rfl | hc
        · exact .inl ha
        · exact dotGo_chars x d h c hc
      · cases h
theorem dotGo_last : ∀ (x : List UInt8) (last : UInt8), dotGo last x = true → ∀ c, (last :: x).getLast? = some c → c ≠ 46
  | [], last, h, c, hc => by
    simp at hc
    have : last ≠ 46 := by simpa [dotGo] using h
    rw [← hc]
    exact this
  | d :: x, last, h, c, hc => by
    rw [dotGo] at h
    rw [List.getLast?_cons_cons] at hc
    by_cases hd : d = 46
    · rw [if_pos hd] at h
      split at h
      · cases h
      · rw [hd] at hc
        exact dotGo_last x 46 h c hc
    · rw [if_neg hd] at h
      split at h
      · exact dotGo_last x d h c hc
      · cases h
theorem dotP_head {x : List UInt8} (h : dotP x = true) : ∃ c r, x = c :: r ∧ atc c = true := by
  rw [← dot_eq] at h
  cases x with
  | nil => simp [dotGo] at h
  | cons c r =>
    rw [dotGo] at h
    by_cases hc : c = 46
    · rw [if_pos hc, if_pos rfl] at h
      cases h
    · rw [if_neg hc] at h
      split at h
      · rename_i ha
        exact ⟨c, r, rfl, ha⟩
      · cases h
theorem trimB_self' {u : List UInt8} (h1 : ∀ x, u.head? = some x → blk x = false) (h2 : ∀ x, u.getLast? = some x → blk x = false) : trimB u = u := by
  rw [trimB_def]
  have e1 : u.reverse.dropWhile blk = u.reverse := by
    cases hr : u.reverse with
    | nil => rfl
    | cons x r =>
      have : u.getLast? = some x := by rw [List.getLast?_eq_head?_reverse, hr]; rfl
      rw [List.dropWhile_cons_of_neg (by rw [h2 x this]; simp)]
  rw [e1, List.reverse_reverse]
  cases u with
  | nil => rfl
  | cons x r => rw [List.dropWhile_cons_of_neg (by rw [h1 x rfl]; simp)]
theorem bareP_self (a : List UInt8) (h : ∀ c ∈ a, c ≠ 40 ∧ c ≠ 34 ∧ c ≠ 41) : bareP a = .ok a := by
  have := bareP_all a [] h
  rw [List.append_nil] at this
  rw [this]
  simp [bareP, bareN, Except.map]
theorem addr_parts {l a : List UInt8} (h : addrP l = .ok a) : ∃ x y, a = x ++ 64 :: y.map small ∧ dotP x = true ∧ dotP y = true := by
  unfold addrP at h
  cases hb : bareP l with
  | error e => rw [hb] at h; cases h
  | ok b =>
    rw [hb] at h
    simp only at h
    cases ha : addrIn b with
    | none => rw [ha] at h; cases h
    | some t =>
      rw [ha] at h
      simp only at h
      unfold addrAt at h
      cases hc : cutAt 64 t with
      | none => rw [hc] at h; cases h
      | some p =>
        obtain ⟨x, y⟩ := p
        rw [hc] at h
        simp only at h
        split at h
        · rename_i hd
          rw [Bool.and_eq_true] at hd
          cases h
          exact ⟨x, y, rfl, hd.1, hd.2⟩
        · cases h
theorem addr_again {l a : List UInt8} (h : addrP l = .ok a) : addrP a = .ok a := by
  obtain ⟨x, y, rfl, hx, hy⟩ := addr_parts h
  have hy2 : dotP (y.map small) = true := by rw [dotP_small]; exact hy
  have e2 : (y.map small).map small = y.map small := by
    rw [List.map_map]
    apply List.map_congr_left
    intro c _
    exact (atc_small c).2.2
  generalize y.map small = z at *
  have cx := dotGo_chars x 46 (by rw [dot_eq]; exact hx)
  have cz := dotGo_chars z 46 (by rw [dot_eq]; exact hy2)
  obtain ⟨c0, r0, hx0, ha0⟩ := dotP_head hx
  obtain ⟨c1, r1, hz0, ha1⟩ := dotP_head hy2
  have hb : bareP (x ++ 64 :: z) = .ok (x ++ 64 :: z) := by
    apply bareP_self
    intro c hc
    have k : ∀ c, atc c = true ∨ c = 46 → c ≠ 40 ∧ c ≠ 34 ∧ c ≠ 41 := by
      rintro c (h | rfl)
      · have := atc_not h
        exact ⟨this.1, this.2.1, this.2.2.1⟩
      · decide
    rcases List.mem_append.1 hc with hc | hc
    · exact k c (cx c hc)
    · rcases List.mem_cons.1 hc with rfl | hc
      · decide
      · exact k c (cz c hc)
  obtain ⟨zl, hzl⟩ : ∃ c, z.getLast? = some c := by
    rw [hz0]
    exact ⟨_, List.getLast?_cons⟩
  have hlast : atc zl = true := by
    have hm : zl ∈ z := List.mem_of_getLast? hzl
    rcases cz zl hm with h | h
    · exact h
    · exfalso
      have := dotGo_last z 46 (by rw [dot_eq]; exact hy2) zl (by rw [hz0, List.getLast?_cons_cons, ← hz0]; exact hzl)
      exact this h
  have hl2 : (x ++ 64 :: z).getLast? = some zl := by
    rw [List.getLast?_append, hz0, List.getLast?_cons_cons, ← hz0, hzl]
    rfl
  have ht : trimB (x ++ 64 :: z) = x ++ 64 :: z := by
    apply trimB_self'
    · intro u hu
      rw [hx0] at hu
      simp at hu
      rw [← hu]
      exact (atc_not ha0).2.2.2.2.2
    · intro u hu
      rw [hl2] at hu
      rw [← Option.some.inj hu]
      exact (atc_not hlast).2.2.2.2.2
  have hin : addrIn (x ++ 64 :: z) = some (x ++ 64 :: z) := by
    unfold addrIn
    rw [ht, if_neg]
    rw [hl2]
    intro e
    exact (atc_not hlast).2.2.2.2.1 (Option.some.inj e)
  have h64 : (64 : UInt8) ∉ x := by
    intro hm
    rcases cx 64 hm with h | h
    · exact (atc_not h).2.2.2.1 rfl
    · exact absurd h (by decide)
  unfold addrP
  rw [hb]
  simp only
  rw [hin]
  simp only
  unfold addrAt
  rw [cutAt_app h64]
  simp only
  rw [hx, hy2, e2]
  rfl
end Tk
end Go.Proofs.YtkllecicddfjpaaGreatDoor
