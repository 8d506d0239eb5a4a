/- The program's Whole and Split. -/
import Derived.Test.YtddjabjloplhiaaGreatDoorZ7
namespace Go.Proofs.YtddjabjloplhiaaGreatDoor
set_option linter.unusedVariables false
set_option linter.unusedSimpArgs false
open Go.RowKit

/-- what becomes of a byte where all ends are made whole -/
def whB (b : List UInt8) (q : Nat) (c : UInt8) : List UInt8 :=
  if c = 10 then (if 0 < q ∧ b[q - 1]? = some 13 then [10] else [13, 10]) else if c = 13 then (if b[q + 1]? = some 10 then [13] else [13, 10]) else [c]
/-- all ends whole, so far -/
def whT (b : List UInt8) : Nat → List UInt8
  | 0 => []
  | q + 1 => whT b q ++ (match b[q]? with | some c => whB b q c | none => [])
theorem whT_succ {b : List UInt8} {q : Nat} {c : UInt8} (h : b[q]? = some c) : whT b (q + 1) = whT b q ++ whB b q c := by
  show whT b q ++ _ = _
  rw [h]
theorem whB_len (b : List UInt8) (q : Nat) (c : UInt8) : (whB b q c).length ≤ 2 := by
  unfold whB
  repeat' split
  all_goals simp
theorem whT_len (b : List UInt8) : ∀ q, (whT b q).length ≤ 2 * q
  | 0 => by simp [whT]
  | q + 1 => by
    have ih := whT_len b q
    cases h : b[q]? with
    | none => unfold whT; rw [h]; simp; omega
    | some c =>
      rw [whT_succ h]
      have := whB_len b q c
      simp
      omega
def wholeP (b : List UInt8) : List UInt8 := whT b b.length
theorem wholeP_len (b : List UInt8) : (wholeP b).length ≤ 2 * b.length := whT_len b _

/-- lines with an end behind -/
def laidP (b : List UInt8) : List UInt8 := if (spl (wholeP b)).2 = [] then wholeP b else wholeP b ++ [13, 10]
def dot (l : List UInt8) : List UInt8 := if l.head? = some 46 then 46 :: l else l
def dots (ls : List (List UInt8)) : List UInt8 := ls.flatMap fun l => dot l ++ [13, 10]
def stuffP (b : List UInt8) : List UInt8 := dots (spl (laidP b)).1 ++ [46, 13, 10]
theorem dots_cons (l : List UInt8) (ls : List (List UInt8)) : dots (l :: ls) = dot l ++ [13, 10] ++ dots ls := by simp [dots]
theorem dots_app (a b : List (List UInt8)) : dots (a ++ b) = dots a ++ dots b := by simp [dots]
theorem dot_len (l : List UInt8) : (dot l).length ≤ l.length + 1 := by
  unfold dot
  split <;> simp
theorem dots_len : ∀ ls : List (List UInt8), (dots ls).length ≤ 2 * (joinE ls).length
  | [] => by simp [dots]
  | l :: ls => by
    rw [dots_cons, joinE_cons]
    have := dots_len ls
    have := dot_len l
    simp
    omega
theorem cutE_pre : ∀ {l a b : List UInt8}, cutE l = some (a, b) → cutE a = none
  | [], _, _, h => by simp [cutE] at h
  | c :: r, a, b, h => by
    unfold cutE at h
    by_cases hc : ([13, 10] : List UInt8).isPrefixOf (c :: r) = true
    · rw [if_pos hc] at h
      cases h
      rfl
    · rw [if_neg hc, Option.map_eq_some_iff] at h
      obtain ⟨⟨a', b'⟩, h1, h2⟩ := h
      cases h2
      have ih := cutE_pre h1
      have he := (cutE_some h1).1
      rw [cutE_miss, ih]
      · rfl
      · by_cases h13 : c = 13
        · right
          intro hh
          apply hc
          rw [h13]
          rcases a' with _ | ⟨x, a'⟩
          · simp at hh
          · simp at hh
            rw [he, hh]
            rfl
        · exact .inl h13
theorem cutE_tail : ∀ {l : List UInt8}, cutE l = none → ∀ r, cutE (l ++ 13 :: 10 :: r) = some (l, r)
  | [], _, r => rfl
  | c :: l, h, r => by
    have hm : c ≠ 13 ∨ l.head? ≠ some 10 := by
      by_cases h1 : c = 13
      · right
        intro h2
        rcases l with _ | ⟨x, l⟩
        · simp at h2
        · simp at h2
          rw [h1, h2] at h
          simp [cutE] at h
      · exact .inl h1
    rw [cutE_miss hm, Option.map_eq_none_iff] at h
    rw [List.cons_append, cutE_miss, cutE_tail h r]
    · rfl
    · rcases hm with hm | hm
      · exact .inl hm
      · refine .inr ?_
        rcases l with _ | ⟨x, l⟩
        · simp
        · simpa using hm
theorem cutE_clean2 {l : List UInt8} (h : ∀ c ∈ l, c ≠ 13) : cutE l = none := by
  induction l with
  | nil => rfl
  | cons c r ih =>
    rw [cutE_miss (.inl (h c (by simp))), ih fun x hx => h x (by simp [hx])]
    rfl
theorem cutE_end : ∀ y : List UInt8, ∃ a b, cutE (y ++ [13, 10]) = some (a, b) ∧ (b = [] ∨ ∃ y', b = y' ++ [13, 10] ∧ y'.length < y.length)
  | [] => ⟨[], [], rfl, .inl rfl⟩
  | c :: r => by
    by_cases hc : c = 13 ∧ (r ++ [13, 10]).head? = some 10
    · obtain ⟨h1, h2⟩ := hc
      rcases r with _ | ⟨x, r⟩
      · simp at h2
      · simp at h2
        refine ⟨[], r ++ [13, 10], by rw [h1, h2]; rfl, .inr ⟨r, rfl, by simp; omega⟩⟩
    · obtain ⟨a, b, h1, h2⟩ := cutE_end r
      rw [List.cons_append, cutE_miss (by
        by_cases h : c = 13
        · exact .inr fun h3 => hc ⟨h, h3⟩
        · exact .inl h), h1]
      refine ⟨c :: a, b, rfl, ?_⟩
      rcases h2 with h2 | ⟨y', h2, h3⟩
      · exact .inl h2
      · exact .inr ⟨y', h2, by simp; omega⟩
theorem spl_end : ∀ (k : Nat) (y : List UInt8), y.length ≤ k → (spl (y ++ [13, 10])).2 = []
  | k, y, hk => by
    obtain ⟨a, b, h1, h2⟩ := cutE_end y
    rw [spl_some h1]
    rcases h2 with rfl | ⟨y', rfl, h3⟩
    · rw [spl_none rfl]
    · cases k with
      | zero => omega
      | succ k => exact spl_end k y' (by omega)
theorem spl_rest : ∀ (k : Nat) (b : List UInt8), b.length ≤ k → cutE (spl b).2 = none ∧ ∀ l ∈ (spl b).1, cutE l = none
  | k, b, hk => by
    cases h : cutE b with
    | none => rw [spl_none h]; exact ⟨h, by simp⟩
    | some p =>
      obtain ⟨l, r⟩ := p
      have hl := cutE_len h
      rw [spl_some h]
      cases k with
      | zero => omega
      | succ k =>
        obtain ⟨h1, h2⟩ := spl_rest k r (by omega)
        refine ⟨h1, fun x hx => ?_⟩
        rcases List.mem_cons.1 hx with rfl | hx
        · exact cutE_pre h
        · exact h2 x hx
theorem spl_app : ∀ (k : Nat) (b x : List UInt8), b.length ≤ k → spl (b ++ x) = ((spl b).1 ++ (spl ((spl b).2 ++ x)).1, (spl ((spl b).2 ++ x)).2)
  | k, b, x, hk => by
    cases h : cutE b with
    | none => rw [spl_none h]; rfl
    | some p =>
      obtain ⟨l, r⟩ := p
      have hl := cutE_len h
      rw [spl_some h, spl_some (cutE_app x h)]
      cases k with
      | zero => omega
      | succ k =>
        rw [spl_app k r x (by omega)]
        rfl
/-- the lines of what is laid: those of the whole, and the rest -/
theorem spl_laid (b : List UInt8) : (spl (laidP b)).1 = (spl (wholeP b)).1 ++ (if (spl (wholeP b)).2 = [] then [] else [(spl (wholeP b)).2]) ∧ (spl (laidP b)).2 = [] := by
  unfold laidP
  split
  · rename_i h
    exact ⟨by simp, h⟩
  · have hr := (spl_rest _ (wholeP b) (Nat.le_refl _)).1
    rw [spl_app _ _ _ (Nat.le_refl _), spl_some (cutE_tail hr []), spl_none (b := []) rfl]
    exact ⟨rfl, rfl⟩
theorem laid_join (b : List UInt8) : joinE (spl (laidP b)).1 = laidP b := by
  have h := spl_join _ (laidP b) (Nat.le_refl _)
  rw [(spl_laid b).2, List.append_nil] at h
  exact h
theorem laid_len (b : List UInt8) : (laidP b).length ≤ 2 * b.length + 2 := by
  have := wholeP_len b
  unfold laidP
  split
  · omega
  · simp; omega
theorem stuff_len (b : List UInt8) : (stuffP b).length ≤ 4 * b.length + 7 := by
  have h1 := dots_len (spl (laidP b)).1
  rw [laid_join] at h1
  have := laid_len b
  unfold stuffP
  simp
  omega
/-- is the last line's end there? -/
theorem rest_nil (w : List UInt8) : (spl w).2 = [] ↔ w = [] ∨ ∃ y, w = y ++ [13, 10] := by
  constructor
  · intro h
    have hj := spl_join _ w (Nat.le_refl _)
    rw [h, List.append_nil] at hj
    rcases List.eq_nil_or_concat (spl w).1 with e | ⟨ls, l, e⟩
    · left
      rw [← hj, e]
      rfl
    · right
      refine ⟨joinE ls ++ l, ?_⟩
      rw [← hj, e, List.concat_eq_append, joinE_app, joinE_cons]
      simp [joinE]
  · rintro (rfl | ⟨y, rfl⟩)
    · rw [spl_none rfl]
    · exact spl_end _ y (Nat.le_refl _)
theorem undot_dot (l : List UInt8) : undot (dot l) = l := by
  unfold dot
  split
  · unfold undot
    simp
  · rename_i h
    unfold undot
    rw [if_neg h]
theorem dot_ne (l : List UInt8) : dot l ≠ [46] := by
  unfold dot
  split
  · rename_i h
    rcases l with _ | ⟨c, r⟩
    · simp at h
    · simp
  · rename_i h
    rintro rfl
    exact h rfl
theorem dot_cut {l : List UInt8} (h : cutE l = none) : cutE (dot l) = none := by
  unfold dot
  split
  · rw [cutE_miss (.inl (by decide)), h]
    rfl
  · exact h
/-- what is stuffed comes back -/
theorem unst_dots (tail : List UInt8) : ∀ ls : List (List UInt8), (∀ l ∈ ls, cutE l = none) → unst (dots ls ++ [46, 13, 10] ++ tail) = some (joinE ls, tail)
  | [], _ => by
    rw [unst_some (line := [46]) (behind := tail) rfl, if_pos rfl]
    rfl
  | l :: ls, h => by
    have h1 := cutE_tail (dot_cut (h l (by simp))) (dots ls ++ [46, 13, 10] ++ tail)
    rw [dots_cons]
    rw [show dot l ++ [13, 10] ++ dots ls ++ [46, 13, 10] ++ tail = dot l ++ 13 :: 10 :: (dots ls ++ [46, 13, 10] ++ tail) by simp]
    rw [unst_some h1, if_neg (dot_ne l), unst_dots tail ls fun x hx => h x (by simp [hx]), undot_dot, joinE_cons]
    rfl
theorem unst_stuff (b tail : List UInt8) : unst (stuffP b ++ tail) = some (laidP b, tail) := by
  unfold stuffP
  rw [unst_dots tail _ (spl_rest _ _ (Nat.le_refl _)).2, laid_join]

/-- an address between < and > -/
def angle (a : List UInt8) : List UInt8 := 60 :: a ++ [62]
theorem adr_angle (a : List UInt8) : adr (angle a) = a := by
  have h1 : Lib.trimPrefix (angle a) [60] = a ++ [62] := by
    unfold Lib.trimPrefix
    rw [if_pos (by unfold Lib.hasPrefix angle List.isPrefixOf; simp)]
    rfl
  unfold adr
  rw [h1]
  unfold Lib.trimSuffix
  rw [if_pos ((hasSuffix_one _ _).2 (by simp))]
  simp
theorem adrOk_addr {a : List UInt8} (h : adrOk (angle a) = true) : addrP a = .ok a := by
  unfold adrOk at h
  rw [adr_angle, Bool.and_eq_true] at h
  have h2 := h.2
  unfold isOk at h2
  cases hp : addrP a with
  | error e => rw [hp] at h2; cases h2
  | ok o =>
    rw [hp] at h2
    rw [beq_iff_eq.1 h2]
theorem atc_ne13 {c : UInt8} (h : atc c = true) : c ≠ 13 := by
  rintro rfl
  revert h
  decide
theorem dotGo_ne13 : ∀ (l : List UInt8) (last : UInt8), dotGo last l = true → ∀ c ∈ l, c ≠ 13
  | [], _, _, c, hc => by simp at hc
  | x :: r, last, h, c, hc => by
    unfold dotGo at h
    split at h
    · rename_i h46
      split at h
      · cases h
      · rcases List.mem_cons.1 hc with rfl | hc
        · rw [h46]; decide
        · exact dotGo_ne13 r _ h c hc
    · split at h
      · rename_i ha
        rcases List.mem_cons.1 hc with rfl | hc
        · exact atc_ne13 ha
        · exact dotGo_ne13 r _ h c hc
      · cases h
theorem small_13 {c : UInt8} (h : small c = 13) : c = 13 := by
  unfold small at h
  split at h
  · rename_i hc
    exfalso
    have h1 := congrArg UInt8.toNat h
    rw [UInt8.toNat_add] at h1
    have h2 : (32 : UInt8).toNat = 32 := rfl
    have h3 : (13 : UInt8).toNat = 13 := rfl
    omega
  · exact h
theorem addr_ne13 {l a : List UInt8} (h : addrP l = .ok a) : ∀ c ∈ a, c ≠ 13 := by
  unfold addrP at h
  cases hb : bareP l with
  | error e => rw [hb] at h; cases h
  | ok b =>
    rw [hb] at h
    simp only at h
    cases ha : addrIn b with
    | none => rw [ha] at h; cases h
    | some t =>
      rw [ha] at h
      simp only at h
      unfold addrAt at h
      cases hc : cutAt 64 t with
      | none => rw [hc] at h; cases h
      | some p =>
        obtain ⟨x, y⟩ := p
        rw [hc] at h
        simp only at h
        split at h
        · rename_i hd
          rw [Bool.and_eq_true, ← dot_eq, ← dot_eq] at hd
          cases h
          intro c hcm
          rcases List.mem_append.1 hcm with hcm | hcm
          · exact dotGo_ne13 _ _ hd.1 c hcm
          · rcases List.mem_cons.1 hcm with rfl | hcm
            · decide
            · obtain ⟨z, hz, rfl⟩ := List.mem_map.1 hcm
              intro e
              exact dotGo_ne13 _ _ hd.2 z hz (small_13 e)
        · cases h

def heloL : List UInt8 := [72, 69, 76, 79, 32, 100, 101, 115, 112, 97, 116, 99, 104]
def mailL (a : List UInt8) : List UInt8 := [77, 65, 73, 76, 32, 70, 82, 79, 77, 58] ++ angle a
def rcptL (a : List UInt8) : List UInt8 := [82, 67, 80, 84, 32, 84, 79, 58] ++ angle a
/-- the talk's lines -/
def sendL (frm : List UInt8) (tos : List (List UInt8)) : List (List UInt8) := [heloL, mailL frm] ++ tos.map rcptL
/-- the talk that posts a mail -/
def sendP (frm : List UInt8) (tos : List (List UInt8)) (b : List UInt8) : List UInt8 := joinE (sendL frm tos) ++ [68, 65, 84, 65, 13, 10] ++ stuffP b ++ [81, 85, 73, 84, 13, 10]
/-- may they all be? -/
def sendOk (frm : List UInt8) (tos : List (List UInt8)) : Bool := (frm :: tos).all (fun a => adrOk (angle a)) && (sendL frm tos).all fun l => decide (l.length ≤ 512)

theorem angle_ne13 {a : List UInt8} (h : adrOk (angle a) = true) (p : List UInt8) (hp : ∀ c ∈ p, c ≠ 13) : cutE (p ++ angle a) = none := by
  apply cutE_clean2
  intro c hc
  rcases List.mem_append.1 hc with hc | hc
  · exact hp c hc
  · unfold angle at hc
    rcases List.mem_append.1 hc with hc | hc
    · rcases List.mem_cons.1 hc with rfl | hc
      · decide
      · exact addr_ne13 (adrOk_addr h) c hc
    · rw [List.mem_singleton.1 hc]
      decide
theorem cmd_mailL {a : List UInt8} (h : adrOk (angle a) = true) (hl : (mailL a).length ≤ 512) : cmd ⟨1, [], []⟩ (mailL a) = (okayB, ⟨2, a, []⟩) := by
  have ha : aft (mailL a) mailW = some (angle a) := by
    unfold aft mailL
    rw [if_pos ⟨by simp [mailW], by
      rw [show mailW.length = ([77, 65, 73, 76, 32, 70, 82, 79, 77, 58] : List UInt8).length from rfl, List.take_left]
      decide⟩]
    rw [show mailW.length = ([77, 65, 73, 76, 32, 70, 82, 79, 77, 58] : List UInt8).length from rfl, List.drop_left]
  unfold cmd
  rw [if_neg (by omega), ha]
  simp only
  rw [if_pos h, if_pos (by trivial), adr_angle]
theorem cmd_rcptL {a : List UInt8} (s : Ps) (h : adrOk (angle a) = true) (hl : (rcptL a).length ≤ 512) (hs : s.st = 2 ∨ s.st = 3) (ht : s.tos.length < 10) : cmd s (rcptL a) = (okayB, ⟨3, s.frm, s.tos ++ [a]⟩) := by
  have h0 : aft (rcptL a) mailW = none := by
    unfold aft
    rw [if_neg]
    rintro ⟨_, h2⟩
    have := congrArg List.head? h2
    simp [rcptL, mailW, big] at this
  have ha : aft (rcptL a) rcptW = some (angle a) := by
    unfold aft rcptL
    rw [if_pos ⟨by simp [rcptW], by
      rw [show rcptW.length = ([82, 67, 80, 84, 32, 84, 79, 58] : List UInt8).length from rfl, List.take_left]
      decide⟩]
    rw [show rcptW.length = ([82, 67, 80, 84, 32, 84, 79, 58] : List UInt8).length from rfl, List.drop_left]
  unfold cmd
  rw [if_neg (by omega), h0, ha]
  simp only
  rw [if_pos h, if_pos hs, if_neg (by omega), adr_angle]
theorem feed_line {s : Ps} {l r : List UInt8} (h4 : s.st ≠ 4) (h5 : s.st ≠ 5) (hl : cutE l = none) : feed s (l ++ 13 :: 10 :: r) = (feed (cmd s l).2 (if (cmd s l).2.st = 5 then [] else r)).ahead ((cmd s l).1 ++ [13, 10]) [] := by
  refine feed_some h5 ?_
  unfold step
  rw [if_neg h4, cutE_tail hl]
  rfl
theorem feed_rcpts (r : List UInt8) : ∀ (tos : List (List UInt8)) (s : Ps), (∀ a ∈ tos, adrOk (angle a) = true) → (∀ a ∈ tos, (rcptL a).length ≤ 512) → (s.st = 2 ∨ s.st = 3) → s.tos.length + tos.length ≤ 10 →
    ∃ o, feed s (joinE (tos.map rcptL) ++ r) = (feed ⟨if tos = [] then s.st else 3, s.frm, s.tos ++ tos⟩ r).ahead o []
  | [], s, _, _, _, _ => ⟨[], by simp [joinE, Fed.ahead]⟩
  | a :: l, s, h1, h2, h3, h4 => by
    have hc := cmd_rcptL s (h1 a (by simp)) (h2 a (by simp)) h3 (by simp at h4; omega)
    have hcut : cutE (rcptL a) = none := angle_ne13 (h1 a (by simp)) _ (by decide)
    obtain ⟨o, ho⟩ := feed_rcpts r l ⟨3, s.frm, s.tos ++ [a]⟩ (fun x hx => h1 x (by simp [hx])) (fun x hx => h2 x (by simp [hx])) (.inr rfl) (by simp at h4 ⊢; omega)
    refine ⟨okayB ++ [13, 10] ++ o, ?_⟩
    rw [List.map_cons, joinE_cons, show rcptL a ++ [13, 10] ++ joinE (l.map rcptL) ++ r = rcptL a ++ 13 :: 10 :: (joinE (l.map rcptL) ++ r) by simp]
    rw [feed_line (by omega) (by omega) hcut, hc]
    simp only
    rw [if_neg (by decide), ho]
    simp [Fed.ahead]
/-- what Send gives is fed as one mail, and the talk ends -/
theorem feed_send {frm : List UInt8} {tos : List (List UInt8)} (b : List UInt8) (h : sendOk frm tos = true) (h0 : tos ≠ []) (h10 : tos.length ≤ 10) : ∃ o, feed ⟨0, [], []⟩ (sendP frm tos b) = ⟨o, ⟨5, [], []⟩, [], [⟨frm, tos, laidP b⟩]⟩ := by
  unfold sendOk at h
  rw [Bool.and_eq_true, List.all_eq_true, List.all_eq_true] at h
  obtain ⟨h1, h2⟩ := h
  have hf := h1 frm (by simp)
  have ht : ∀ a ∈ tos, adrOk (angle a) = true := fun a ha => h1 a (by simp [ha])
  have hlf : (mailL frm).length ≤ 512 := of_decide_eq_true (h2 _ (by simp [sendL]))
  have hlt : ∀ a ∈ tos, (rcptL a).length ≤ 512 := fun a ha => of_decide_eq_true (h2 _ (by simp [sendL]; exact .inr (.inr ⟨a, ha, rfl⟩)))
  have e : sendP frm tos b = heloL ++ 13 :: 10 :: (mailL frm ++ 13 :: 10 :: (joinE (tos.map rcptL) ++ ([68, 65, 84, 65] ++ 13 :: 10 :: (stuffP b ++ ([81, 85, 73, 84] ++ 13 :: 10 :: []))))) := by
    unfold sendP sendL
    rw [joinE_app, joinE_cons, joinE_cons]
    simp [joinE]
  have hcm : cutE (mailL frm) = none := angle_ne13 hf _ (by decide)
  have c1 : cmd ⟨0, [], []⟩ heloL = (okayB, ⟨1, [], []⟩) := by kernel_rfl
  have c4 : ∀ f t, cmd ⟨3, f, t⟩ [68, 65, 84, 65] = (dataB, ⟨4, f, t⟩) := fun f t => rfl
  have c5 : cmd ⟨1, [], []⟩ [81, 85, 73, 84] = (byeB, ⟨5, [], []⟩) := by kernel_rfl
  obtain ⟨o, ho⟩ := feed_rcpts ([68, 65, 84, 65] ++ 13 :: 10 :: (stuffP b ++ ([81, 85, 73, 84] ++ 13 :: 10 :: []))) tos ⟨2, frm, []⟩ ht hlt (.inl rfl) (by simpa using h10)
  rw [if_neg h0, List.nil_append] at ho
  have hst : step ⟨4, frm, tos⟩ (stuffP b ++ ([81, 85, 73, 84] ++ 13 :: 10 :: [])) = some (okayB ++ [13, 10], ⟨1, [], []⟩, [81, 85, 73, 84] ++ 13 :: 10 :: [], [⟨frm, tos, laidP b⟩]) := by
    unfold step
    rw [if_pos rfl, unst_stuff]
    rfl
  rw [e, feed_line (by decide) (by decide) (cutE_clean2 (by decide)), c1]
  simp only
  rw [if_neg (by decide), feed_line (show (1 : Nat) ≠ 4 by decide) (show (1 : Nat) ≠ 5 by decide) hcm, cmd_mailL hf hlf]
  simp only
  rw [if_neg (show ¬ (2 : Nat) = 5 by decide), ho, feed_line (show (3 : Nat) ≠ 4 by decide) (show (3 : Nat) ≠ 5 by decide) (cutE_clean2 (by decide)), c4]
  simp only
  rw [if_neg (show ¬ (4 : Nat) = 5 by decide), feed_some (show (4 : Nat) ≠ 5 by decide) hst, feed_line (show (1 : Nat) ≠ 4 by decide) (show (1 : Nat) ≠ 5 by decide) (cutE_clean2 (by decide)), c5]
  simp only
  rw [feed_closed _ rfl]
  exact ⟨_, by simp [Fed.ahead]; rfl⟩
end Go.Proofs.YtddjabjloplhiaaGreatDoor

namespace Go.Proofs.YtddjabjloplhiaaGreatDoor
set_option linter.unusedVariables false
set_option linter.unusedSimpArgs false
open Go.RowKit

set_option maxRecDepth 100000 in
set_option maxHeartbeats 4000000 in
theorem whole_any (A : Option Addr) (b : List UInt8) (n c : Nat) (w : World) (hn : b.length = n) (hA : Rb w A b) (hb : n ≤ 1000000) :
    Calls Tryz.prog 50 #[.slice A n c] w fun e w' => (∃ v, e = .returned v ∧ OwnM w' w.heap.size 5 1 v (wholeP b).length ((wholeP b).map bv)) ∧ Below w.heap.size w w' := by
  have HN := Lib.hid hn
  clear hn
  go_enter Tryz.func50, Tryz.ntmps50
  go_wp2_with fail
  go_loopw [2, 3, 8] (fun v ls i wr => ∃ (q k : Nat) (l : UInt8), i = .int .i64 q ∧ q ≤ n ∧ k ≤ 2 * q ∧ ls = .int .u8 (l.toNat : Int) ∧ Hid (b[q]? = some 10 → (l = 13 ↔ 0 < q ∧ b[q - 1]? = some 13)) ∧ OwnM wr w.heap.size 5 1 v k ((whT b q).map bv) ∧ Below w.heap.size w wr) (fun _ _ i _ => n - (intOf i).toNat)
  case atStart => exact ⟨0, 0, 0, rfl, by omega, by omega, rfl, Lib.hid fun _ => by simp, OwnM.nil _ _ _ _, Below.refl _ _⟩
  case round =>
    obtain ⟨q, k, l, rfl, hq, hk, rfl, hl, hown, hB⟩ := hrel
    have hs := hB.size
    have hkl : (whT b q).length = k := by have : ((whT b q).map bv).length = k * 1 := hown.1; simpa using this
    have HKL := Lib.hid hkl
    clear hkl
    by_cases hlt : q < n
    · obtain ⟨b0, o0, x, rfl, hx, cx⟩ := hA.one (k := q) (by rw [HN.out]; exact hlt)
      have cx' : wr.cell? ⟨b0, o0 + q, none⟩ = some (.int .u8 (x.toNat : Int)) := (hB.cell (p := ⟨b0, o0 + q, none⟩) (cell_lt cx)).trans cx
      have t10 : ((x.toNat : Int) == 10) = (x == 10) := u8_test x 10 rfl
      have t13 : ((x.toNat : Int) == 13) = (x == 13) := u8_test x 13 rfl
      have l13 : ((l.toNat : Int) != 13) = (l != 13) := u8_bne l 13
      have hw2 := whT_succ hx.out
      by_cases h10 : x = 10
      · have hb10 : ((x.toNat : Int) == 10) = true := by rw [t10, h10]; rfl
        have hb13 : ((x.toNat : Int) == 13) = false := by rw [t13, h10]; rfl
        have hi := hl.out (by rw [hx.out, h10])
        have HX : Hid (b[q + 1]? = some 10 → (x = 13 ↔ 0 < q + 1 ∧ b[q + 1 - 1]? = some 13)) := Lib.hid fun _ => by
          rw [Nat.add_sub_cancel, hx.out, h10]
          simp
        by_cases hlz : l = 13
        · have hb2 : ((l.toNat : Int) != 13) = false := by rw [l13, hlz]; rfl
          have hwb : whB b q x = [x] := by unfold whB; rw [if_pos h10, if_pos (hi.1 hlz), h10]
          rw [hwb] at hw2
          have HW := Lib.hid hw2
          clear t10 t13 l13 hw2 hwb hi hl hx h10 hlz cx
          go_wp2_with (at_builtin; refine wpList_appM rfl _ _ _ _ rfl TU8 (hown.alloc (.cells #[bv x] 5)) rfl (Src_rv (news := [bv x]) Tryz.underlying22 rfl (Rv_new wr _ _ _ rfl) (by simp [Value.oneCell', bv]) (by omega)) rfl (by omega) (by simp; omega) ?_; intro v4 w4 hown4 hgr4 hat4; have hB4 := below_appM (hB.alloc hs (.cells #[bv x] 5)) (hown.alloc (.cells #[bv x] 5)) hgr4 (by simp; omega) (Nat.le_refl _); have hs4 := hB4.size)
          go_roundw
          case rel => exact ⟨q + 1, k + 1, x, by go_num, by omega, by omega, rfl, HX, by rw [HW.out, List.map_append]; exact hown4, hB4⟩
          case measure => simp [intOf]; omega
        · have hb2 : ((l.toNat : Int) != 13) = true := by rw [l13]; simp [hlz]
          have hwb : whB b q x = [13] ++ [x] := by unfold whB; rw [if_pos h10, if_neg (fun h => hlz (hi.2 h)), h10]; rfl
          rw [hwb] at hw2
          have HW := Lib.hid hw2
          clear t10 t13 l13 hw2 hwb hi hl hx h10 hlz cx
          go_wp2_with (first
            | (at_builtin; refine wpList_appM rfl _ _ _ _ rfl TU8 (hown.alloc (.cells #[bv 13] 5)) rfl (Src_rv (news := [bv 13]) Tryz.underlying22 rfl (Rv_new wr _ _ _ rfl) (by simp [Value.oneCell', bv]) (by omega)) rfl (by omega) (by simp; omega) ?_; intro v4 w4 hown4 hgr4 hat4; have hB4 := below_appM (hB.alloc hs (.cells #[bv 13] 5)) (hown.alloc (.cells #[bv 13] 5)) hgr4 (by simp; omega) (Nat.le_refl _); have hs4 := hB4.size)
            | (at_builtin; refine wpList_appM rfl _ _ _ _ rfl TU8 (hown4.alloc (.cells #[bv x] 5)) rfl (Src_rv (news := [bv x]) Tryz.underlying22 rfl (Rv_new w4 _ _ _ rfl) (by simp [Value.oneCell', bv]) (by omega)) rfl (by omega) (by simp; omega) ?_; intro v5 w5 hown5 hgr5 hat5; have hB5 := below_appM (hB4.alloc hs4 (.cells #[bv x] 5)) (hown4.alloc (.cells #[bv x] 5)) hgr5 (by simp; omega) (Nat.le_refl _); have hs5 := hB5.size))
          go_roundw
          case rel => exact ⟨q + 1, k + 1 + 1, x, by go_num, by omega, by omega, rfl, HX, by rw [HW.out, List.map_append, List.map_append, ← List.append_assoc]; exact hown5, hB5⟩
          case measure => simp [intOf]; omega
      · have hb10 : ((x.toNat : Int) == 10) = false := by rw [t10]; simp [h10]
        by_cases h13 : x = 13
        · have hb13 : ((x.toNat : Int) == 13) = true := by rw [t13, h13]; rfl
          by_cases hnx : b[q + 1]? = some 10
          · have hq1 := lt_of_get hnx
            rw [HN.out] at hq1
            obtain ⟨b1, o1, x1, e1, hx1, cx1⟩ := hA.one (k := q + 1) (by rw [HN.out]; exact hq1)
            cases e1
            have hx10 : x1 = 10 := by have := hx1.out; rw [hnx] at this; exact (Option.some.inj this).symm
            subst hx10
            have cx1' : wr.cell? ⟨b0, o0 + (q + 1), none⟩ = some (.int .u8 10) := (hB.cell (p := ⟨b0, o0 + (q + 1), none⟩) (cell_lt cx1)).trans cx1
            have hne : ((q : Int) + 1 == (n : Int)) = false := by rw [beq_eq_false_iff_ne]; omega
            have hlq : (q : Int) + 1 < (n : Int) := by omega
            have hwb : whB b q x = [x] := by unfold whB; rw [if_neg h10, if_pos h13, if_pos hnx, h13]
            rw [hwb] at hw2
            have HW := Lib.hid hw2
            have HX : Hid (b[q + 1]? = some 10 → (x = 13 ↔ 0 < q + 1 ∧ b[q + 1 - 1]? = some 13)) := Lib.hid fun _ => by
              rw [Nat.add_sub_cancel, hx.out, h13]
              simp
            have cx0 : w.cell? ⟨b0, o0 + (q + 1), none⟩ = some (.int .u8 10) := cx1
            have hAw := Rb.inB hA (by intro e; rw [e] at hx; have := hx.out; simp at this)
            have hbl0 : b0 < w.heap.size := hAw _ rfl
            clear t10 t13 l13 hw2 hwb hl hx hx1 h10 h13 hnx cx cx1
            go_wp2_with (at_builtin; refine wpList_appM rfl _ _ _ _ rfl TU8 (hown.alloc (.cells #[bv x] 5)) rfl (Src_rv (news := [bv x]) Tryz.underlying22 rfl (Rv_new wr _ _ _ rfl) (by simp [Value.oneCell', bv]) (by omega)) rfl (by omega) (by simp; omega) ?_; intro v4 w4 hown4 hgr4 hat4; have hB4 := below_appM (hB.alloc hs (.cells #[bv x] 5)) (hown.alloc (.cells #[bv x] 5)) hgr4 (by simp; omega) (Nat.le_refl _); have hs4 := hB4.size; have cx6 : w4.cell? ⟨b0, o0 + (q + 1), none⟩ = some (.int .u8 10) := (hB4.cell (p := ⟨b0, o0 + (q + 1), none⟩) hbl0).trans cx0)
            go_roundw
            case rel => exact ⟨q + 1, k + 1, x, by go_num, by omega, by omega, rfl, HX, by rw [HW.out, List.map_append]; exact hown4, hB4⟩
            case measure => simp [intOf]; omega
          · have hwb : whB b q x = [x] ++ [10] := by unfold whB; rw [if_neg h10, if_pos h13, if_neg hnx, h13]; rfl
            rw [hwb] at hw2
            have HW := Lib.hid hw2
            have HX : Hid (b[q + 1]? = some 10 → ((10 : UInt8) = 13 ↔ 0 < q + 1 ∧ b[q + 1 - 1]? = some 13)) := Lib.hid fun h => absurd h hnx
            have hcase : (((q : Int) + 1 == (n : Int)) = true) ∨ (((q : Int) + 1 == (n : Int)) = false ∧ (q : Int) + 1 < (n : Int) ∧ ∃ y : UInt8, ((y.toNat : Int) != 10) = true ∧ w.cell? ⟨b0, o0 + (q + 1), none⟩ = some (.int .u8 (y.toNat : Int))) := by
              by_cases h2 : q + 1 < n
              · obtain ⟨b1, o1, x1, e1, hx1, cx1⟩ := hA.one (k := q + 1) (by rw [HN.out]; exact h2)
                cases e1
                refine .inr ⟨by rw [beq_eq_false_iff_ne]; omega, by omega, x1, ?_, cx1⟩
                rw [show ((x1.toNat : Int) != 10) = (x1 != 10) from u8_bne x1 10]
                rw [bne_iff_ne]
                rintro rfl
                exact hnx hx1.out
              · exact .inl (by rw [beq_iff_eq]; omega)
            clear t10 t13 l13 hw2 hwb hl hx h10 h13 hnx cx
            rcases hcase with k1 | ⟨k1, k2, y, k3, cy⟩
            · go_wp2_with (first
                | (at_builtin; refine wpList_appM rfl _ _ _ _ rfl TU8 (hown.alloc (.cells #[bv x] 5)) rfl (Src_rv (news := [bv x]) Tryz.underlying22 rfl (Rv_new wr _ _ _ rfl) (by simp [Value.oneCell', bv]) (by omega)) rfl (by omega) (by simp; omega) ?_; intro v4 w4 hown4 hgr4 hat4; have hB4 := below_appM (hB.alloc hs (.cells #[bv x] 5)) (hown.alloc (.cells #[bv x] 5)) hgr4 (by simp; omega) (Nat.le_refl _); have hs4 := hB4.size)
                | (at_builtin; refine wpList_appM rfl _ _ _ _ rfl TU8 (hown4.alloc (.cells #[bv 10] 5)) rfl (Src_rv (news := [bv 10]) Tryz.underlying22 rfl (Rv_new w4 _ _ _ rfl) (by simp [Value.oneCell', bv]) (by omega)) rfl (by omega) (by simp; omega) ?_; intro v5 w5 hown5 hgr5 hat5; have hB5 := below_appM (hB4.alloc hs4 (.cells #[bv 10] 5)) (hown4.alloc (.cells #[bv 10] 5)) hgr5 (by simp; omega) (Nat.le_refl _); have hs5 := hB5.size))
              go_roundw
              case rel => exact ⟨q + 1, k + 1 + 1, 10, by go_num, by omega, by omega, rfl, HX, by rw [HW.out, List.map_append, List.map_append, ← List.append_assoc]; exact hown5, hB5⟩
              case measure => simp [intOf]; omega
            · go_wp2_with (first
                | (at_builtin; refine wpList_appM rfl _ _ _ _ rfl TU8 (hown.alloc (.cells #[bv x] 5)) rfl (Src_rv (news := [bv x]) Tryz.underlying22 rfl (Rv_new wr _ _ _ rfl) (by simp [Value.oneCell', bv]) (by omega)) rfl (by omega) (by simp; omega) ?_; intro v4 w4 hown4 hgr4 hat4; have hB4 := below_appM (hB.alloc hs (.cells #[bv x] 5)) (hown.alloc (.cells #[bv x] 5)) hgr4 (by simp; omega) (Nat.le_refl _); have hs4 := hB4.size; have cy6 : w4.cell? ⟨b0, o0 + (q + 1), none⟩ = some (.int .u8 (y.toNat : Int)) := (hB4.cell (p := ⟨b0, o0 + (q + 1), none⟩) (cell_lt cy)).trans cy)
                | (at_builtin; refine wpList_appM rfl _ _ _ _ rfl TU8 (hown4.alloc (.cells #[bv 10] 5)) rfl (Src_rv (news := [bv 10]) Tryz.underlying22 rfl (Rv_new w4 _ _ _ rfl) (by simp [Value.oneCell', bv]) (by omega)) rfl (by omega) (by simp; omega) ?_; intro v5 w5 hown5 hgr5 hat5; have hB5 := below_appM (hB4.alloc hs4 (.cells #[bv 10] 5)) (hown4.alloc (.cells #[bv 10] 5)) hgr5 (by simp; omega) (Nat.le_refl _); have hs5 := hB5.size))
              go_roundw
              case rel => exact ⟨q + 1, k + 1 + 1, 10, by go_num, by omega, by omega, rfl, HX, by rw [HW.out, List.map_append, List.map_append, ← List.append_assoc]; exact hown5, hB5⟩
              case measure => simp [intOf]; omega
        · have hb13 : ((x.toNat : Int) == 13) = false := by rw [t13]; simp [h13]
          have hwb : whB b q x = [x] := by unfold whB; rw [if_neg h10, if_neg h13]
          rw [hwb] at hw2
          have HW := Lib.hid hw2
          have HX : Hid (b[q + 1]? = some 10 → (x = 13 ↔ 0 < q + 1 ∧ b[q + 1 - 1]? = some 13)) := Lib.hid fun _ => by
            rw [Nat.add_sub_cancel, hx.out]
            simp [h13]
          clear t10 t13 l13 hw2 hwb hl hx h10 h13 cx
          go_wp2_with (at_builtin; refine wpList_appM rfl _ _ _ _ rfl TU8 (hown.alloc (.cells #[bv x] 5)) rfl (Src_rv (news := [bv x]) Tryz.underlying22 rfl (Rv_new wr _ _ _ rfl) (by simp [Value.oneCell', bv]) (by omega)) rfl (by omega) (by simp; omega) ?_; intro v4 w4 hown4 hgr4 hat4; have hB4 := below_appM (hB.alloc hs (.cells #[bv x] 5)) (hown.alloc (.cells #[bv x] 5)) hgr4 (by simp; omega) (Nat.le_refl _); have hs4 := hB4.size)
          go_roundw
          case rel => exact ⟨q + 1, k + 1, x, by go_num, by omega, by omega, rfl, HX, by rw [HW.out, List.map_append]; exact hown4, hB4⟩
          case measure => simp [intOf]; omega
    · obtain rfl : q = n := by omega
      have hq2 : whT b q = wholeP b := by unfold wholeP; rw [HN.out]
      rw [hq2] at HKL hown
      go_wp2_with fail
      go_ret
      exact ⟨⟨_, rfl, by rw [HKL.out]; exact hown⟩, hB⟩

/-- so far it was cut -/
def PsAt (b : List UInt8) (ts : List Tl) (buf : List UInt8) : Prop := spl b = (ts.map (·.1) ++ (spl buf).1, (spl buf).2)

set_option maxRecDepth 100000 in
set_option maxHeartbeats 4000000 in
theorem psplit_any (A : Option Addr) (b : List UInt8) (n c : Nat) (w : World) (hw : Mx w) (hn : b.length = n) (hA : Rb w A b) (hnc : n ≤ c) (hpl : Pl A c) (hb : n ≤ 1000000) :
    Calls Tryz.prog 49 #[.slice A n c] w fun e w' => SplitOut b w e w' ∧ Below w.heap.size w w' := by
  subst hn
  have kc := fun (w : World) (C : Array Value) (n c : Nat) => Lib.run_convert_bytes_const (P := Tryz.prog) w 22 5 C n c Tryz.underlying22 Tryz.underlying5
  have hI0 : b ≠ [] → InB A w.heap.size := fun h => hA.inB h
  go_enter Tryz.func49, Tryz.ntmps49
  go_wp2_with fail
  go_loopw [0, 2] (fun bl v wr => ∃ (buf : List UInt8) (ts : List Tl) (B : Option Addr) (d : Nat), bl = .slice B buf.length d ∧ Rb wr B buf ∧ (buf ≠ [] → InB B w.heap.size) ∧ buf.length ≤ d ∧ Pl B d ∧ ts.length + buf.length ≤ b.length ∧ Hid (PsAt b ts buf) ∧ Hid (OwnM wr w.heap.size 22 1 v ts.length (ts.map (·.2)) ∧ LsOk wr w.heap.size [v] ts) ∧ Below w.heap.size w wr) (fun bl _ _ => slLen bl)
  case atStart => exact ⟨b, [], A, c, rfl, hA, hI0, hnc, hpl, by simp, Lib.hid (by unfold PsAt; simp), Lib.hid ⟨OwnM.nil _ _ _ _, fun t ht => by simp at ht⟩, Below.refl _ _⟩
  case round =>
    obtain ⟨buf, ts, B, d, rfl, hB, hI, hbd, hpB, htb, hps, hm, hBl⟩ := hrel
    have hs1 := hBl.size
    obtain ⟨ho, hls⟩ := hm.out
    obtain ⟨Av, cv, rfl, _, _, _, _, _, _⟩ := ho.form
    have hlv := ho.lt
    clear hI0 hA ho hls
    have hal : Below w.heap.size w (wr.alloc (.cells #[.int .u8 13, .int .u8 10] 5 (2, 3))) := hBl.alloc hs1 _
    have hal2 : Below wr.heap.size wr (wr.alloc (.cells #[.int .u8 13, .int .u8 10] 5 (2, 3))) := (Below.refl _ _).alloc (Nat.le_refl _) _
    have hcutc := cutE2_any B (some ⟨wr.heap.size, 0, none⟩) buf buf.length d 2 (wr.alloc (.cells #[.int .u8 13, .int .u8 10] 5 (2, 3))) (hw.below hal) rfl (hB.below hal2) hbd hpB (show Rb _ _ [13, 10] from Rb_new wr [13, 10] _ _ rfl 2 (2, 3)) (by omega)
    unfold CutEOut2 at hcutc
    cases hc : cutE buf with
    | none =>
      have hsp : spl b = (ts.map (·.1), buf) := by have h := hps.out; unfold PsAt at h; rw [spl_none hc] at h; simpa using h
      have HSP := Lib.hid hsp
      rw [hc] at hcutc
      clear hc hps hsp
      go_wp2_with fail
      refine hcutc.mono ?_
      rintro e w3 ⟨rfl, hd⟩
      have hb3 : Below wr.heap.size wr w3 := hal2.trans ((hd.below _).mono hal2.size)
      have hcl := clone_any B buf buf.length d w3 rfl (hB.below hb3) hbd hpB (by omega)
      clear hcutc hd
      go_wp2_with fail
      refine hcl.mono ?_
      rintro e w4 ⟨⟨v4, rfl, hv4⟩, hb4⟩
      have hb4' : Below wr.heap.size wr w4 := hb3.trans (hb4.mono hb3.size)
      have hl4 := (OwnM.of hv4).lt
      have hsz3 := hb3.size
      clear hcl
      go_wp2_with fail
      go_ret2
      refine ⟨⟨_, v4, ts, rfl, by rw [HSP.out], hm.out.1.below hb4', ?_, ?_, ?_⟩, hBl.trans (hb4'.mono hs1)⟩
      · rw [HSP.out]
        exact (OwnM.of hv4).rebase (by omega)
      · refine hm.out.2.next (S := fun _ => False) (Ext.of_below _ hb4') (fun _ _ hs => hs.elim) fun k hk ⟨v, hv, hvk⟩ => ?_
        simp only [List.mem_cons, List.not_mem_nil, or_false] at hv
        rcases hv with rfl | rfl
        · exact ⟨_, List.mem_singleton.2 rfl, hvk⟩
        · have := (hl4 k hvk).1
          omega
      · intro i j u v hij hu hv k h1 h2
        rcases i with _ | _ | i <;> rcases j with _ | _ | j <;> simp at hu hv hij
        · subst hu; subst hv
          have := (hlv k h1).2
          have := (hl4 k h2).1
          omega
        · subst hu; subst hv
          have := (hlv k h2).2
          have := (hl4 k h1).1
          omega
    | some p =>
      obtain ⟨line, behind⟩ := p
      have hcl := cutE_len hc
      have hIB := hI (fun e => by rw [e] at hc; simp [cutE] at hc)
      have hps2 : PsAt b (ts ++ [(line, .slice none 0 0)]) behind := by
        have h := hps.out
        unfold PsAt at h ⊢
        rw [spl_some hc] at h
        rw [h]
        simp
      have HPS := Lib.hid hps2
      rw [hc] at hcutc
      clear hc hps hps2
      go_wp2_with fail
      refine hcutc.mono ?_
      rintro e w3 ⟨⟨B2, d2, rfl, hRa, hRb, hbd2, hpl2, hac, hin⟩, hd⟩
      have hb3 : Below wr.heap.size wr w3 := hal2.trans ((hd.below _).mono hal2.size)
      have hIB2 := hin _ hIB
      have hclc := clone_any B line line.length d w3 rfl hRa hac hpB (by omega)
      clear hcutc hd
      go_wp2_with fail
      refine hclc.mono ?_
      rintro e w4 ⟨⟨v4, rfl, hv4⟩, hb4⟩
      have hb4' : Below wr.heap.size wr w4 := hb3.trans (hb4.mono hb3.size)
      have hl4 := (OwnM.of hv4).lt
      have hsz3 := hb3.size
      have hsz4 := hb4'.size
      obtain ⟨A4, c4, rfl, _, _, _, _⟩ := own_form hv4
      have HV4 := Lib.hid hv4
      have ho4 := hm.out.1.below hb4'
      clear hclc hv4 hRa hal hal2
      go_wp2_with (at_builtin; refine wpList_appM rfl _ _ _ _ rfl TBs (ho4.alloc (.cells #[.slice A4 line.length c4] 22)) rfl (Src_rv (news := [.slice A4 line.length c4]) Tryz.underlying65 rfl (Rv_new w4 _ _ _ rfl) (by simp [Value.oneCell']) (by omega)) rfl (by omega) (by simp; omega) ?_; intro v5 w5 own5 gr5 at5)
      go_roundw
      case rel =>
        have hx5 : Ext (fun k => nb (.slice Av ts.length cv) k) w4 w5 := ((Ext.refl _ w4).alloc _).trans (Ext.of_grown (S := fun k => nb (.slice Av ts.length cv) k) gr5 (fun k e => e)) fun _ h => .inl h
        have hxw : Ext (fun k => nb (.slice Av ts.length cv) k) wr w5 := Ext.belowL hb4' hx5
        have hv5 : ∀ k, nb v5 k → nb (.slice Av ts.length cv) k ∨ w4.heap.size + 1 ≤ k := fun k hk => by
          unfold nb at hk ⊢
          rcases at5 with h | h
          · rw [h] at hk; exact .inl hk
          · rw [h] at hk; have := Option.some.inj hk; simp at this; exact .inr (by omega)
        have hB5 : Below w.heap.size w w5 := (hxw.mono (T := fun k => w.heap.size ≤ k) fun k hk => (hlv k hk).1).below hBl hs1 fun _ h => h
        have hBl4 : Below w.heap.size w w4 := hBl.trans (hb4'.mono hs1)
        refine ⟨behind, ts ++ [(line, .slice A4 line.length c4)], B2, d2, rfl, ?_, fun _ => hIB2, hbd2, hpl2, by simp; omega, ?_, Lib.hid ⟨?_, ?_⟩, hB5⟩
        · exact hRb.keepB hIB2 (fun j hj => (hB5.block j hj).trans ((hBl.trans (hb3.mono hs1)).block j hj).symm)
        · have h := HPS.out
          unfold PsAt at h ⊢
          exact Lib.hid (by simpa using h)
        · rw [List.length_append, List.map_append]
          exact own5
        · intro x hxm
          rcases List.mem_append.1 hxm with hxm | hxm
          · exact hm.out.2.next hxw (fun k _ hk => ⟨_, List.mem_singleton.2 rfl, hk⟩) (fun k hk ⟨v, hvm, hvk⟩ => by
              rw [List.mem_singleton.1 hvm] at hvk
              rcases hv5 k hvk with h | h
              · exact ⟨_, List.mem_singleton.2 rfl, h⟩
              · omega) x hxm
          · rw [List.mem_singleton.1 hxm]
            refine ⟨(hx5.own (OwnM.of HV4.out) fun k hk h => ?_).rebase (by omega), fun k hk v hvm hvk => ?_⟩
            · have := (hlv k h).2
              have := (hl4 k hk).1
              omega
            · rw [List.mem_singleton.1 hvm] at hvk
              have h1 := hl4 k hk
              rcases hv5 k hvk with h | h
              · have := (hlv k h).2
                omega
              · omega
      case measure => simp [slLen]; omega
end Go.Proofs.YtddjabjloplhiaaGreatDoor
