/- Plain: what relays may do keeps the values of a name that stays. -/
import Derived.Test.YtcagkoakbdbbaaaGreatDoorJ39
namespace Go.Proofs.YtcagkoakbdbbaaaGreatDoor
set_option linter.unusedVariables false
set_option linter.unusedSimpArgs false
open Go.RowKit

/-- a field's lines, with its name and value -/
abbrev Raw := List UInt8 × (List UInt8 × List UInt8)
def rawOk (rs : List Raw) : Prop := ∀ r ∈ rs, H1 r.1 r.2.1 r.2.2
def rawT (rs : List Raw) : List UInt8 := (rs.map Prod.fst).flatten
def rawS (rs : List Raw) : Nat := (rs.map fun r => 2 * tT r.1 + 2).sum
/-- the values of a name -/
def vN (name : List UInt8) (fs : List (List UInt8 × List UInt8)) : List (List UInt8) := (fs.filter fun p => sameN p.1 name).map Prod.snd
theorem vN_app (name : List UInt8) (a b : List (List UInt8 × List UInt8)) : vN name (a ++ b) = vN name a ++ vN name b := by simp [vN]
theorem vN_one (name : List UInt8) (p : List UInt8 × List UInt8) : vN name [p] = if sameN p.1 name then [p.2] else [] := by
  unfold vN
  by_cases h : sameN p.1 name = true
  · simp [h]
  · simp [h]
theorem vN_cons (name : List UInt8) (p : List UInt8 × List UInt8) (l : List (List UInt8 × List UInt8)) : vN name (p :: l) = (if sameN p.1 name then [p.2] else []) ++ vN name l := by
  rw [← List.singleton_append, vN_app, vN_one]
theorem rawS_app (a b : List Raw) : rawS (a ++ b) = rawS a + rawS b := by simp [rawS]
theorem rawT_app (a b : List Raw) : rawT (a ++ b) = rawT a ++ rawT b := by simp [rawT]
theorem rawT_len {rs : List Raw} (h : rawOk rs) : (rawT rs).length ≤ rawS rs := by
  induction rs with
  | nil => simp [rawT, rawS]
  | cons r t ih =>
    have h1 := (h r List.mem_cons_self).len
    have h2 := ih fun x hx => h x (List.mem_cons_of_mem _ hx)
    have e1 : rawT (r :: t) = r.1 ++ rawT t := by simp [rawT]
    have e2 : rawS (r :: t) = 2 * tT r.1 + 2 + rawS t := by simp [rawS]
    rw [e1, e2, List.length_append]
    omega
theorem raw_gf {rs : List Raw} (h : rawOk rs) : ∀ f ∈ rs.map Prod.fst, GF f := fun f hf => by
  obtain ⟨r, hr, rfl⟩ := List.mem_map.1 hf
  exact (h r hr).gf
theorem raw_head {rs : List Raw} (h : rawOk rs) : HeadT (rs.map Prod.snd) (rawT rs) := by
  induction rs with
  | nil => exact HeadT.nil
  | cons r t ih =>
    have h1 := (h r List.mem_cons_self).head
    have h2 := ih fun x hx => h x (List.mem_cons_of_mem _ hx)
    have e1 : rawT (r :: t) = r.1 ++ rawT t := by simp [rawT]
    rw [e1]
    exact h1.append h2
theorem raw_bare {rs : List Raw} (h : rawOk rs) : ∃ rs', rawOk rs' ∧ rs'.map Prod.snd = rs.map Prod.snd ∧ rawS rs' = rawS rs ∧ ∀ r, bareL (rawT rs ++ r) = rawT rs' ++ bareL r := by
  induction rs with
  | nil => exact ⟨[], h, rfl, rfl, fun r => rfl⟩
  | cons x t ih =>
    obtain ⟨g, k1, k2, k3⟩ := (h x List.mem_cons_self).bare
    obtain ⟨t', j1, j2, j3, j4⟩ := ih fun y hy => h y (List.mem_cons_of_mem _ hy)
    refine ⟨(g, x.2) :: t', fun y hy => ?_, by simp [j2], ?_, fun r => ?_⟩
    · rcases List.mem_cons.1 hy with rfl | hy
      · exact k1
      · exact j1 y hy
    · simp only [rawS, List.map_cons, List.sum_cons, k2] at *
      rw [j3]
    · have e1 : rawT (x :: t) ++ r = x.1 ++ (rawT t ++ r) := by simp [rawT]
      have e2 : rawT ((g, x.2) :: t') = g ++ rawT t' := by simp [rawT]
      rw [e1, k3, j4, e2, List.append_assoc]
theorem raw_full {rs : List Raw} (h : rawOk rs) : ∃ rs', rawOk rs' ∧ rs'.map Prod.snd = rs.map Prod.snd ∧ rawS rs' = rawS rs ∧ ∀ r p, p ≠ 13 → ∃ p', p' ≠ 13 ∧ fullL p (rawT rs ++ r) = rawT rs' ++ fullL p' r := by
  induction rs with
  | nil => exact ⟨[], h, rfl, rfl, fun r p hp => ⟨p, hp, rfl⟩⟩
  | cons x t ih =>
    obtain ⟨g, k1, k2, k3⟩ := (h x List.mem_cons_self).full
    obtain ⟨t', j1, j2, j3, j4⟩ := ih fun y hy => h y (List.mem_cons_of_mem _ hy)
    refine ⟨(g, x.2) :: t', fun y hy => ?_, by simp [j2], ?_, fun r p hp => ?_⟩
    · rcases List.mem_cons.1 hy with rfl | hy
      · exact k1
      · exact j1 y hy
    · simp only [rawS, List.map_cons, List.sum_cons, k2] at *
      rw [j3]
    · have e1 : rawT (x :: t) ++ r = x.1 ++ (rawT t ++ r) := by simp [rawT]
      have e2 : rawT ((g, x.2) :: t') = g ++ rawT t' := by simp [rawT]
      obtain ⟨p', hp', h9⟩ := j4 r 10 (by decide)
      exact ⟨p', hp', by rw [e1, k3 _ p hp, h9, e2, List.append_assoc]⟩

/-- a mail that relays have had k times -/
def Inv (name : List UInt8) (want : List (List UInt8)) (k : Nat) (b : List UInt8) : Prop := ∃ (rs : List Raw) (en bd : List UInt8), b = rawT rs ++ en ++ bd ∧ rawOk rs ∧ (en = [10] ∨ en = [13, 10]) ∧ tT bd ≤ 1000 ∧ bd.count 10 ≤ 1000 + 2000 * k ∧ rawS rs ≤ 43000 + 430 * k ∧ rs.length ≤ 20 + k ∧ vN name (rs.map Prod.snd) = want
theorem Inv.mono {name : List UInt8} {want : List (List UInt8)} {k : Nat} {b : List UInt8} (h : Inv name want k b) : Inv name want (k + 1) b := by
  obtain ⟨rs, en, bd, h1, h2, h3, h4, h5, h6, h7, h8⟩ := h
  exact ⟨rs, en, bd, h1, h2, h3, h4, by omega, by omega, by omega, h8⟩
theorem Inv.len {name : List UInt8} {want : List (List UInt8)} {k : Nat} {b : List UInt8} (h : Inv name want k b) (hk : k ≤ 30) : b.length ≤ 200000 := by
  obtain ⟨rs, en, bd, rfl, h2, h3, h4, h5, h6, h7, h8⟩ := h
  have h9 := rawT_len h2
  have h10 := all_len bd
  have h11 : en.length ≤ 2 := by rcases h3 with rfl | rfl <;> simp
  unfold tT at h4
  simp only [List.length_append]
  omega
theorem Inv.read {name : List UInt8} {want : List (List UInt8)} {k : Nat} {b : List UInt8} (h : Inv name want k b) (hk : k ≤ 30) : ∃ (rs : List Raw) (en bd : List UInt8), b = rawT rs ++ en ++ bd ∧ (en = [10] ∨ en = [13, 10]) ∧ (rawT rs = [] ∨ (rawT rs).getLast? = some 10) ∧ rs.length ≤ 1000 ∧ (rawT rs ++ en).length ≤ 65536 ∧ readGo [] b = .ok (rs.map Prod.snd, bd) ∧ vN name (rs.map Prod.snd) = want := by
  obtain ⟨rs, en, bd, rfl, h2, h3, h4, h5, h6, h7, h8⟩ := h
  have h9 := rawT_len h2
  have h11 : en.length ≤ 2 := by rcases h3 with rfl | rfl <;> simp
  refine ⟨rs, en, bd, rfl, h3, goods_end (raw_gf h2), by omega, by simp only [List.length_append]; omega, ?_, h8⟩
  have h10 : ∀ e, readGo [] (rawT rs ++ eol e ++ bd) = .ok ([] ++ rs.map Prod.snd, bd) := fun e => readGo_head (raw_head h2) [] e bd (by simp; omega)
  rcases h3 with rfl | rfl
  · exact h10 false
  · exact h10 true

theorem at_split {α : Type} {l : List α} {a : Nat} {x : α} (h : l[a]? = some x) : ∃ pre post, l = pre ++ x :: post ∧ pre.length = a := by
  have hl := (List.getElem?_eq_some_iff.1 h).1
  refine ⟨l.take a, l.drop (a + 1), ?_, by rw [List.length_take]; omega⟩
  rw [List.getElem?_eq_getElem hl] at h
  have e := List.drop_eq_getElem_cons hl
  rw [Option.some.inj h] at e
  rw [← e, List.take_append_drop]
theorem set_split {α : Type} (pre post : List α) (x y : α) : (pre ++ x :: post).set pre.length y = pre ++ y :: post := by
  rw [List.set_append_right _ _ (Nat.le_refl _), Nat.sub_self, List.set_cons_zero]
theorem erase_split {α : Type} (pre post : List α) (x : α) : (pre ++ x :: post).eraseIdx pre.length = pre ++ post := by
  rw [List.eraseIdx_append_of_length_le (Nat.le_refl _), Nat.sub_self, List.eraseIdx_cons_zero]
theorem sameN_trans {a b c : List UInt8} (h : sameN a b = true) : sameN a c = sameN b c := by
  unfold sameN at *
  rw [decide_eq_true_iff] at h
  rw [h]
theorem raw_mid {pre post : List Raw} {x y : Raw} (h : rawOk (pre ++ x :: post)) (hy : H1 y.1 y.2.1 y.2.2) : rawOk (pre ++ y :: post) := fun r hr => by
  rcases List.mem_append.1 hr with hr | hr
  · exact h r (List.mem_append_left _ hr)
  · rcases List.mem_cons.1 hr with rfl | hr
    · exact hy
    · exact h r (List.mem_append_right _ (List.mem_cons_of_mem _ hr))
theorem prot_trace (name : List UInt8) (hp : protL name = true) (M : Int) : sameN (trace M) name = false := by
  unfold protL at hp
  rw [List.any_eq_true] at hp
  obtain ⟨p, hp1, hp2⟩ := hp
  have hall : ∀ p ∈ nmL, ∀ q ∈ trL, sameN q p = false := by decide
  have htr : trace M ∈ trL := by
    have h1 := Int.emod_nonneg M (by decide : (3 : Int) ≠ 0)
    have h2 := Int.emod_lt_of_pos M (by decide : (0 : Int) < 3)
    have h3 : (M % 3).toNat = 0 ∨ (M % 3).toNat = 1 ∨ (M % 3).toNat = 2 := by omega
    unfold trace
    rcases h3 with h | h | h <;> rw [h] <;> decide
  have h1 := hall p hp1 _ htr
  cases hq : sameN (trace M) name with
  | false => rfl
  | true =>
    have h2 := sameN_trans (c := name) hp2
    have h3 : sameN (trace M) p = true := by
      unfold sameN at *
      rw [decide_eq_true_iff] at *
      rw [hq, hp2]
    rw [h3] at h1
    cases h1
theorem trace_ok (M : Int) : nmOk (trace M) = true := by
  have h1 := Int.emod_nonneg M (by decide : (3 : Int) ≠ 0)
  have h2 := Int.emod_lt_of_pos M (by decide : (0 : Int) < 3)
  have h3 : (M % 3).toNat = 0 ∨ (M % 3).toNat = 1 ∨ (M % 3).toNat = 2 := by omega
  unfold trace
  rcases h3 with h | h | h <;> rw [h] <;> decide
theorem h1_add {M : Int} {t : List UInt8} (hv : vlOk t = true) : H1 (addF M t) (trace M) t ∧ tT (addF M t) = (trace M).length + 2 + t.length := by
  have hvl := hv
  unfold vlOk at hvl
  rw [Bool.and_eq_true, Bool.and_eq_true, decide_eq_true_iff] at hvl
  have hpl : plain (32 :: t) := by
    intro c hc
    rcases List.mem_cons.1 hc with rfl | h
    · decide
    · exact vl_plain hv c h
  have e : addF M t = trace M ++ 58 :: (32 :: t) ++ eol true ++ segT [] := by
    unfold addF
    simp [eol, segT]
  have hs : further ([] : List (List UInt8 × Bool)) := fun p hp => by simp at hp
  rw [e]
  refine ⟨⟨32 :: t, true, [], rfl, hpl, hs, by simpa [segV] using trimB_pad hvl.2, trace_ok M, hvl.1.2, hvl.1.1, by simp⟩, ?_⟩
  unfold tT
  obtain ⟨k1, k2, k3⟩ := h1_lines (e := true) (ss := []) (trace_ok M) hpl hs
  rw [k1, k3]
  simp only [List.length_append, List.length_cons, segV, List.flatMap_nil, List.length_nil]
  omega
/-- one thing that a relay does -/
theorem Inv.step {name : List UInt8} {want : List (List UInt8)} {k : Nat} {b r t : List UInt8} {z N M : Int} (h : Inv name want k b) (hp : protL name = true) (hr : AppZ z N M t b r) : Inv name want (k + 1) r := by
  have hm := h.mono
  obtain ⟨rs, en, bd, rfl, h2, h3, h4, h5, h6, h7, h8⟩ := h
  have hpar : readG [] (fl (rawT rs ++ en ++ bd)) = some (rs.map Prod.fst, en, bd) := read_goods (raw_gf h2) h3 bd
  have hgen : ∀ R, AppR R (rawT rs ++ en ++ bd) r → (rs ≠ [] ∧ ∃ fs' bd', R (rs.map Prod.fst) bd fs' bd' ∧ r = fs'.flatten ++ en ++ bd') ∨ r = rawT rs ++ en ++ bd := fun R hR => by
    unfold AppR at hR
    rw [hpar] at hR
    simp only at hR
    by_cases hok : okF (rs.map Prod.fst) = true
    · rw [if_pos hok] at hR
      exact .inl ⟨(by intro e; rw [e] at hok; cases hok), hR⟩
    · rw [if_neg hok] at hR
      exact .inr hR
  unfold AppZ at hr
  by_cases z1 : z = 1
  · rw [if_pos z1] at hr
    obtain ⟨rs', j1, j2, j3, j4⟩ := raw_bare h2
    have h9 := bare_tb bd.length bd (Nat.le_refl _)
    refine ⟨rs', [10], bareL bd, ?_, j1, .inl rfl, by omega, by omega, by omega, ?_, by rw [j2]; exact h8⟩
    · rw [hr, List.append_assoc, j4]
      have e : bareL (en ++ bd) = [] ++ 10 :: bareL bd := by
        rcases h3 with rfl | rfl
        · exact bare_plain (s := []) (fun c hc => by simp at hc) false bd
        · exact bare_plain (s := []) (fun c hc => by simp at hc) true bd
      rw [e]
      simp
    · have := congrArg List.length j2
      simp at this
      omega
  rw [if_neg z1] at hr
  by_cases z2 : z = 2
  · rw [if_pos z2] at hr
    obtain ⟨rs', j1, j2, j3, j4⟩ := raw_full h2
    have h9 := full_tb bd.length bd (Nat.le_refl _)
    refine ⟨rs', [13, 10], fullL 10 bd, ?_, j1, .inr rfl, by omega, by omega, by omega, ?_, by rw [j2]; exact h8⟩
    · rw [hr, List.append_assoc]
      obtain ⟨p', hp', h10⟩ := j4 (en ++ bd) 0 (by decide)
      rw [h10]
      have e : fullL p' (en ++ bd) = [] ++ 13 :: 10 :: fullL 10 bd := by
        rcases h3 with rfl | rfl
        · exact full_plain (s := []) (fun c hc => by simp at hc) false bd p' hp'
        · exact full_plain (s := []) (fun c hc => by simp at hc) true bd p' hp'
      rw [e]
      simp
    · have := congrArg List.length j2
      simp at this
      omega
  rw [if_neg z2] at hr
  by_cases z6 : z = 6
  · rw [if_pos z6] at hr
    unfold addL at hr
    by_cases hk : addOk (rawT rs ++ en ++ bd) t = true
    · rw [if_pos hk] at hr
      unfold addOk at hk
      simp only [Bool.and_eq_true, decide_eq_true_eq] at hk
      obtain ⟨k1, k2⟩ := h1_add (M := M) hk.2
      have h9 := trace_len M
      refine ⟨(addF M t, (trace M, t)) :: rs, en, bd, ?_, fun x hx => ?_, h3, h4, by omega, ?_, by simp; omega, ?_⟩
      · rw [hr]
        simp [rawT]
      · rcases List.mem_cons.1 hx with rfl | hx
        · exact k1
        · exact h2 x hx
      · have e : rawS ((addF M t, (trace M, t)) :: rs) = 2 * tT (addF M t) + 2 + rawS rs := by simp [rawS]
        rw [e, k2]
        omega
      · rw [List.map_cons, vN_cons, prot_trace name hp M]
        exact h8
    · rw [if_neg hk] at hr
      rw [hr]
      exact hm
  rw [if_neg z6] at hr
  by_cases z8 : z = 8
  · rw [if_pos z8] at hr
    rcases hgen RW hr with ⟨_, fs', bd', ⟨rfl, htb⟩, rfl⟩ | rfl
    · obtain ⟨t1, t2⟩ := htb
      unfold tT at h4
      exact ⟨rs, en, bd', rfl, h2, h3, by unfold tT; omega, by omega, by omega, by omega, h8⟩
    · exact hm
  rw [if_neg z8] at hr
  by_cases zc : z = 3 ∨ z = 4 ∨ z = 5 ∨ z = 7
  · rw [if_pos zc] at hr
    rcases hgen (RF z N M) hr with ⟨hne, fs', bd', ⟨rfl, rfl⟩, rfl⟩ | rfl
    · have hne2 : rs.map Prod.fst ≠ [] := by simpa using hne
      obtain ⟨a, f, hf, e1, e2⟩ := picked hne2 N
      rw [List.getElem?_map] at hf
      cases hra : rs[a]? with
      | none => rw [hra] at hf; cases hf
      | some x =>
        rw [hra] at hf
        obtain rfl : x.1 = f := Option.some.inj hf
        have hx := h2 x (List.mem_of_getElem? hra)
        obtain ⟨pre, post, rfl, hpre⟩ := at_split hra
        have hpm : (pre.map Prod.fst).length = a := by rw [List.length_map]; exact hpre
        have em : (pre ++ x :: post).map Prod.fst = pre.map Prod.fst ++ x.1 :: post.map Prod.fst := by simp
        -- one field in the place of another
        have hset : ∀ (y : Raw), H1 y.1 y.2.1 y.2.2 → tT y.1 = tT x.1 → sameN y.2.1 x.2.1 = true → y.2.2 = x.2.2 → Inv name want (k + 1) ((((pre ++ x :: post).map Prod.fst).set a y.1).flatten ++ en ++ bd') := fun y hy ht hs hv => by
          refine ⟨pre ++ y :: post, en, bd', ?_, raw_mid h2 hy, h3, h4, by omega, ?_, ?_, ?_⟩
          · rw [em, ← hpm, set_split]
            simp [rawT]
          · have e3 : rawS (pre ++ y :: post) = rawS (pre ++ x :: post) := by
              rw [rawS_app, rawS_app]
              simp [rawS, ht]
            omega
          · simp at h7 ⊢
            omega
          · rw [← h8]
            rw [List.map_append, List.map_cons, List.map_append, List.map_cons, vN_app, vN_app, vN_cons, vN_cons, sameN_trans hs, hv]
        unfold chgF
        rw [e2, e1]
        by_cases z3 : z = 3
        · rw [if_pos z3]
          obtain ⟨k1, k2⟩ := hx.fold M
          exact hset (foldL M x.1, x.2) k1 k2 (by unfold sameN; simp) rfl
        rw [if_neg z3]
        by_cases z4 : z = 4
        · rw [if_pos z4]
          obtain ⟨nm', k1, k2, k3⟩ := hx.letters M
          exact hset (lettersL M x.1, (nm', x.2.2)) k1 k3 k2 rfl
        rw [if_neg z4]
        by_cases z5 : z = 5
        · rw [if_pos z5]
          unfold dropL
          rw [hx.name]
          by_cases hpx : protL x.2.1 = true
          · rw [if_pos hpx]
            exact hm
          · rw [if_neg hpx]
            have hno : sameN x.2.1 name = false := by
              cases hq : sameN x.2.1 name with
              | false => rfl
              | true =>
                exfalso
                apply hpx
                unfold protL at hp ⊢
                rw [List.any_eq_true] at hp ⊢
                obtain ⟨p, hp1, hp2⟩ := hp
                refine ⟨p, hp1, ?_⟩
                unfold sameN at *
                rw [decide_eq_true_iff] at *
                rw [hp2, hq]
            refine ⟨pre ++ post, en, bd', ?_, fun y hy => h2 y ?_, h3, h4, by omega, ?_, ?_, ?_⟩
            · rw [em, ← hpm, erase_split]
              simp [rawT]
            · rcases List.mem_append.1 hy with hy | hy
              · exact List.mem_append_left _ hy
              · exact List.mem_append_right _ (List.mem_cons_of_mem _ hy)
            · have e3 : rawS (pre ++ x :: post) = rawS (pre ++ post) + (2 * tT x.1 + 2) := by
                rw [rawS_app, rawS_app]
                simp [rawS]
                omega
              omega
            · simp at h7 ⊢
              omega
            · rw [← h8, List.map_append, List.map_append, List.map_cons, vN_app, vN_app, vN_cons, hno]
              rfl
        rw [if_neg z5]
        unfold swapL
        rw [em]
        cases post with
        | nil =>
          have hnone : (pre.map Prod.fst ++ x.1 :: List.map Prod.fst ([] : List Raw))[a + 1]? = none := by
            rw [List.getElem?_eq_none]
            simp
            omega
          rw [hnone]
          show Inv name want (k + 1) _
          have := hm
          simpa [rawT] using this
        | cons y post =>
          have hsome : (pre.map Prod.fst ++ x.1 :: List.map Prod.fst (y :: post))[a + 1]? = some y.1 := by
            rw [List.getElem?_append_right (by omega), hpm]
            simp
          rw [hsome]
          have hy := h2 y (by simp)
          simp only
          rw [hx.name, hy.name]
          by_cases hs : sameN x.2.1 y.2.1 = true
          · rw [if_pos hs]
            have := hm
            simpa [rawT] using this
          · rw [if_neg hs]
            refine ⟨pre ++ y :: x :: post, en, bd', ?_, fun q hq => h2 q ?_, h3, h4, by omega, ?_, ?_, ?_⟩
            · rw [← hpm, set_split]
              have e3 : pre.map Prod.fst ++ y.1 :: List.map Prod.fst (y :: post) = (pre.map Prod.fst ++ [y.1]) ++ y.1 :: post.map Prod.fst := by simp
              have e4 : (pre.map Prod.fst).length + 1 = (pre.map Prod.fst ++ [y.1]).length := by simp
              rw [e3, e4, set_split]
              simp [rawT]
            · simp only [List.mem_append, List.mem_cons] at hq ⊢
              rcases hq with h | h | h | h
              · exact .inl h
              · exact .inr (.inr (.inl h))
              · exact .inr (.inl h)
              · exact .inr (.inr (.inr h))
            · have e3 : rawS (pre ++ y :: x :: post) = rawS (pre ++ x :: y :: post) := by
                rw [rawS_app, rawS_app]
                simp [rawS]
                omega
              omega
            · simp at h7 ⊢
              omega
            · rw [← h8]
              have e5 : ∀ u v : Raw, (pre ++ u :: v :: post).map Prod.snd = pre.map Prod.snd ++ ([u.2] ++ ([v.2] ++ post.map Prod.snd)) := fun u v => by simp
              rw [e5, e5, vN_app, vN_app, vN_app, vN_app, vN_app, vN_app, vN_one, vN_one]
              cases h11 : sameN x.2.1 name with
              | false => simp
              | true =>
                cases h12 : sameN y.2.1 name with
                | false => simp
                | true =>
                  exfalso
                  apply hs
                  unfold sameN at *
                  rw [decide_eq_true_iff] at *
                  rw [h11, h12]
    · exact hm
  · rw [if_neg zc] at hr
    rw [hr]
    exact hm
end Go.Proofs.YtcagkoakbdbbaaaGreatDoor
