/- Plain: a part in as many multiparts as may be: the mails of MimeDeep, from the inside out. · A part in as many multiparts as may be, in memory: what write gives of it. · A part in as many multiparts as may be, read: mime's read of the mails of MimeDeep. · mime's Read. -/
import Derived.Test.YtkllecicddfjpaaGreatDoorJ46
import Derived.Test.YtkllecicddfjpaaGreatDoorJ30
import Derived.KernelRfl
import Derived.Test.YtkllecicddfjpaaGreatDoorJ41
namespace Go.Proofs.YtkllecicddfjpaaGreatDoor
set_option linter.unusedVariables false
set_option linter.unusedSimpArgs false

theorem gsign_sg (ys : List UInt8) (i : Nat) : Ar.gsign ys i ≠ 10 ∧ Ar.gsign ys i ≠ 13 ∧ Ar.gsign ys i ≠ 45 := by
  unfold Ar.gsign
  split
  · decide
  · have hT : Ar.gnum ys 3 / 2 ^ (18 - 6 * i) % 64 < 64 := Nat.mod_lt _ (by omega)
    generalize Ar.gnum ys 3 / 2 ^ (18 - 6 * i) % 64 = T at *
    have hl : T < Ar.sgs.length := hT
    have key : ∀ c ∈ Ar.sgs, c ≠ 10 ∧ c ≠ 13 ∧ c ≠ 45 := by decide
    rw [List.getD_eq_getElem?_getD, List.getElem?_eq_getElem hl]
    exact key _ (List.getElem_mem hl)
theorem enc_sg (xs : List UInt8) : ∀ c ∈ Ar.enc xs, c ≠ 10 ∧ c ≠ 13 ∧ c ≠ 45 := by
  intro c hc
  unfold Ar.enc at hc
  obtain ⟨j, _, h⟩ := List.mem_flatMap.1 hc
  unfold Ar.enc3 at h
  split at h
  · simp at h
  · obtain ⟨i, _, rfl⟩ := List.mem_map.1 h
    exact gsign_sg _ _
theorem okB_app {bd m p : List UInt8} (hm : okB bd m) (hp : okB bd p) : okB bd (m ++ ([13, 10] ++ p)) := by
  obtain ⟨h1, h2⟩ := okB_lnB hm
  intro t ht
  unfold lns at ht
  rw [lnA_app, lnA_crlf] at ht
  rcases List.mem_append.1 ht with ht | ht
  · exact h1 t ht
  · rcases List.mem_cons.1 ht with rfl | ht
    · exact h2
    · exact hp t ht
theorem okB_one {bd a : List UInt8} (ha : ∀ x ∈ a, x ≠ 10) (hm : mk bd a = 0) : okB bd a := by
  intro t ht
  unfold lns at ht
  rw [lnA_end a [] ha] at ht
  split at ht
  · simp at ht
  · simp at ht
    rw [ht]
    exact hm
theorem okB_lines {bd : List UInt8} : ∀ (cs : List (List UInt8)), (∀ c ∈ cs, ∀ x ∈ c, x ≠ 10 ∧ x ≠ 13 ∧ x ≠ 45) → okB bd (cs.flatMap fun c => c ++ [13, 10])
  | [], _ => okB_nil bd
  | c :: r, h => by
    have e : (c :: r).flatMap (fun c => c ++ [13, 10]) = c ++ ([13, 10] ++ r.flatMap fun c => c ++ [13, 10]) := by simp
    rw [e]
    refine okB_app (okB_one (fun x hx => (h c (by simp) x hx).1) (mk_no ?_)) (okB_lines r fun q hq => h q (by simp [hq]))
    intro hd
    unfold dd at hd
    have : (45 : UInt8) ∈ c.take 2 := by rw [hd]; simp
    exact (h c (by simp) 45 (List.mem_of_mem_take this)).2.2 rfl
theorem okB_lin (bd b : List UInt8) : okB bd (Ar.lin (Ar.enc b)) := by
  have e : Ar.lin (Ar.enc b) = ((List.range (((Ar.enc b).length + 75) / 76)).map fun j => Ar.chk (Ar.enc b) 76 j).flatMap fun c => c ++ [13, 10] := by
    unfold Ar.lin
    rw [List.flatMap_map]
  rw [e]
  refine okB_lines _ fun c hc x hx => ?_
  obtain ⟨j, _, rfl⟩ := List.mem_map.1 hc
  unfold Ar.chk at hx
  exact enc_sg b x (List.mem_of_mem_drop (List.mem_of_mem_take hx))

/-- the boundary of a multipart, counted from the inside -/
def bn (i : Nat) : List UInt8 := [98, UInt8.ofNat (48 + i)]
abbrev abN : List UInt8 := [97, 47, 98]
abbrev mixN : List UInt8 := [109, 117, 108, 116, 105, 112, 97, 114, 116, 47, 109, 105, 120, 101, 100]
/-- the mails, from the inside out -/
def mailL (b : List UInt8) : Nat → Mail
  | 0 => ([(ctN, Tk.writeB abN []), (cteN, codeN 1)], encB 1 b)
  | i + 1 => ([(ctN, Tk.writeB mixN [(bdN, bn i)])], bodyJ (bn i) [mb (mailL b i)])
/-- their heads -/
def hdL : Nat → List UInt8
  | 0 => ctN ++ [58, 32] ++ abN ++ ([13, 10] ++ (cteN ++ [58, 32, 98, 97, 115, 101, 54, 52] ++ ([13, 10] ++ ([] ++ ([13, 10] ++ [])))))
  | i + 1 => ctN ++ [58, 32] ++ mixN ++ [59, 32] ++ bdN ++ [61] ++ bn i ++ ([13, 10] ++ ([] ++ ([13, 10] ++ [])))
theorem hd0 : Fd.foldAll [(ctN, Tk.writeB abN []), (cteN, codeN 1)] ++ [13, 10] = hdL 0 ∧ Fd.rightF [(ctN, Tk.writeB abN []), (cteN, codeN 1)] = true := by decide +kernel
theorem hdS : ∀ i : Fin 9, Fd.foldAll [(ctN, Tk.writeB mixN [(bdN, bn i.1)])] ++ [13, 10] = hdL (i.1 + 1) ∧ Fd.rightF [(ctN, Tk.writeB mixN [(bdN, bn i.1)])] = true := by decide +kernel
theorem bnOk : ∀ i : Fin 9, bdOk (bn i.1) = true ∧ Tk.rightB mixN [(bdN, bn i.1)] = true ∧ paramP [(bdN, bn i.1)] bdN = bn i.1 ∧ Tk.onlyB Tk.loc' (bn i.1) = true := by decide +kernel
theorem bnNe : ∀ i j : Fin 9, i ≠ j → mk (bn j.1) ([45, 45] ++ bn i.1) = 0 ∧ mk (bn j.1) ([45, 45] ++ bn i.1 ++ [45, 45]) = 0 := by decide +kernel
theorem bn10 : ∀ i : Fin 9, ∀ x ∈ bn i.1, x ≠ 10 := by decide +kernel
theorem hdLen : ∀ i : Fin 10, (hdL i.1).length ≤ 70 := by decide +kernel
theorem hdLine : ∀ i : Fin 9, (∀ x ∈ ctN ++ [58, 32] ++ mixN ++ [59, 32] ++ bdN ++ [61] ++ bn i.1, x ≠ 10) ∧ ∀ j : Fin 9, mk (bn j.1) (ctN ++ [58, 32] ++ mixN ++ [59, 32] ++ bdN ++ [61] ++ bn i.1) = 0 := by decide +kernel
theorem hdLine0 : (∀ x ∈ ctN ++ [58, 32] ++ abN, x ≠ 10) ∧ (∀ x ∈ cteN ++ [58, 32, 98, 97, 115, 101, 54, 52], x ≠ 10) ∧ ∀ j : Fin 9, mk (bn j.1) (ctN ++ [58, 32] ++ abN) = 0 ∧ mk (bn j.1) (cteN ++ [58, 32, 98, 97, 115, 101, 54, 52]) = 0 := by decide +kernel

theorem writeP_of {fs : List (List UInt8 × List UInt8)} {h bd : List UInt8} (hh : Fd.foldAll fs ++ [13, 10] = h) (hr : Fd.rightF fs = true) (hf : fs.length ≤ 200) (hl : h.length ≤ 70) (hb : bd.length ≤ 100000) : Fd.writeP fs bd = .ok (h ++ bd) := by
  unfold Fd.writeP
  rw [if_pos hr, hh, if_neg]
  omega
theorem mb_of {m : Mail} {b : List UInt8} (h : Fd.writeP m.1 m.2 = .ok b) : mb m = b := by unfold mb; rw [h]
/-- the mails' bytes -/
theorem mailL_mb (b : List UInt8) (hb : b.length ≤ 300) : ∀ i, i ≤ 9 → Fd.writeP (mailL b i).1 (mailL b i).2 = .ok (mb (mailL b i)) ∧ mb (mailL b i) = hdL i ++ (mailL b i).2 ∧ (mb (mailL b i)).length ≤ 1000 + 200 * i
  | 0, _ => by
    have h1 := encB_bound 1 b
    have hw := writeP_of (bd := encB 1 b) hd0.1 hd0.2 (by decide) (hdLen ⟨0, by omega⟩) (by omega)
    have hm : mb (mailL b 0) = hdL 0 ++ encB 1 b := mb_of (m := mailL b 0) hw
    refine ⟨by rw [hm]; exact hw, hm, ?_⟩
    have h2 := hdLen ⟨0, by omega⟩
    simp only at h2
    rw [hm, List.length_append]
    omega
  | i + 1, hi => by
    obtain ⟨_, _, hl⟩ := mailL_mb b hb i (by omega)
    have hd := hdS ⟨i, by omega⟩
    simp only at hd
    have h2 := hdLen ⟨i + 1, by omega⟩
    simp only at h2
    have hbl : (bodyJ (bn i) [mb (mailL b i)]).length ≤ 1100 + 200 * i := by
      have := bldJ_len (bn i) (1000 + 200 * i) [mb (mailL b i)] (by simpa using hl)
      unfold bodyJ
      rw [List.length_append]
      simp only [List.length_append, List.length_cons, List.length_nil, bn] at this ⊢
      omega
    have hw := writeP_of (bd := bodyJ (bn i) [mb (mailL b i)]) hd.1 hd.2 (by simp) h2 (by omega)
    have hm : mb (mailL b (i + 1)) = hdL (i + 1) ++ bodyJ (bn i) [mb (mailL b i)] := mb_of (m := mailL b (i + 1)) hw
    refine ⟨by rw [hm]; exact hw, hm, ?_⟩
    rw [hm, List.length_append]
    omega
/-- none of their lines is a boundary's further out -/
theorem mailL_ok (b : List UInt8) (hb : b.length ≤ 300) : ∀ i, ∀ j : Fin 9, i ≤ j.1 → okB (bn j.1) (mb (mailL b i))
  | 0, j, _ => by
    obtain ⟨_, h, _⟩ := mailL_mb b hb 0 (by omega)
    rw [h]
    obtain ⟨a1, a2, a3⟩ := hdLine0
    obtain ⟨m1, m2⟩ := a3 j
    have e : hdL 0 ++ (mailL b 0).2 = (ctN ++ [58, 32] ++ abN) ++ ([13, 10] ++ ((cteN ++ [58, 32, 98, 97, 115, 101, 54, 52]) ++ ([13, 10] ++ ([] ++ ([13, 10] ++ encB 1 b))))) := by
      unfold hdL mailL
      simp
    rw [e]
    exact okB_app (okB_one a1 m1) (okB_app (okB_one a2 m2) (okB_app (okB_nil _) (okB_lin _ b)))
  | i + 1, j, hj => by
    obtain ⟨_, h, _⟩ := mailL_mb b hb (i + 1) (by have := j.2; omega)
    have ih := mailL_ok b hb i j (by omega)
    rw [h]
    have hij : (⟨i, by have := j.2; omega⟩ : Fin 9) ≠ j := fun e => by rw [← e] at hj; simp only at hj; omega
    obtain ⟨n1, n2⟩ := bnNe ⟨i, by have := j.2; omega⟩ j hij
    obtain ⟨a1, a2⟩ := hdLine ⟨i, by have := j.2; omega⟩
    have m1 := a2 j
    have b10 := bn10 ⟨i, by have := j.2; omega⟩
    simp only at n1 n2 a1 m1 b10
    have e : hdL (i + 1) ++ (mailL b (i + 1)).2 = (ctN ++ [58, 32] ++ mixN ++ [59, 32] ++ bdN ++ [61] ++ bn i) ++ ([13, 10] ++ ([] ++ ([13, 10] ++ (([45, 45] ++ bn i) ++ ([13, 10] ++ (mb (mailL b i) ++ ([13, 10] ++ (([45, 45] ++ bn i ++ [45, 45]) ++ ([13, 10] ++ [])))))))))  := by
      show hdL (i + 1) ++ bodyJ (bn i) [mb (mailL b i)] = _
      unfold hdL bodyJ
      simp [bld]
    rw [e]
    have d45 : ∀ x ∈ ([45, 45] : List UInt8), x ≠ 10 := by decide
    have d10 : ∀ x ∈ ([45, 45] : List UInt8) ++ bn i, x ≠ 10 := by
      intro x hx
      rcases List.mem_append.1 hx with hx | hx
      · exact d45 x hx
      · exact b10 x hx
    have e10 : ∀ x ∈ ([45, 45] : List UInt8) ++ bn i ++ [45, 45], x ≠ 10 := by
      intro x hx
      rcases List.mem_append.1 hx with hx | hx
      · exact d10 x hx
      · exact d45 x hx
    exact okB_app (okB_one a1 m1) (okB_app (okB_nil _) (okB_app (okB_one d10 n1) (okB_app ih (okB_app (okB_one e10 n2) (okB_nil _)))))
/-- what write gives -/
theorem leafL (b : List UInt8) (hb : b.length ≤ 300) : leafW abN [] 1 b = .ok (mailL b 0) := by
  unfold leafW
  rw [if_pos (by decide +kernel)]
  obtain ⟨h, _⟩ := mailL_mb b hb 0 (by omega)
  exact chkM_yes (m := mailL b 0) h
theorem multiL (b : List UInt8) (hb : b.length ≤ 300) (i d : Nat) (hi : i ≤ 8) (hd : d < 8) : multiW mixN [(bdN, bn i)] [.ok (mailL b i)] d = .ok (mailL b (i + 1)) := by
  obtain ⟨k1, k2, k3, k4⟩ := bnOk ⟨i, by omega⟩
  simp only at k1 k2 k3 k4
  have hs := split_bodyJ (bd := bn i) (ps := [mb (mailL b i)]) k1 (by simp) (by
    intro p hp
    simp only [List.mem_singleton] at hp
    subst hp
    exact mailL_ok b hb i ⟨i, by omega⟩ (Nat.le_refl _))
  unfold multiW
  rw [if_pos k2, k3]
  have hj : joinW (bn i) [.ok (mailL b i)] d = .ok (bodyJ (bn i) [mb (mailL b i)]) := by
    unfold joinW
    rw [if_neg (by rintro (h | h); cases h; rw [k1] at h; cases h), if_neg (by omega)]
    unfold joinG mailsOf
    simp only [mailsOf]
    rw [hs, if_pos rfl]
  rw [hj]
  obtain ⟨h, _⟩ := mailL_mb b hb (i + 1) (by omega)
  exact chkM_yes (m := mailL b (i + 1)) h
theorem multiD (i d : Nat) (o : Except Nat Mail) (hi : i ≤ 8) (hd : 8 ≤ d) : multiW mixN [(bdN, bn i)] [o] d = .error 5 := by
  obtain ⟨k1, k2, k3, k4⟩ := bnOk ⟨i, by omega⟩
  simp only at k1 k2 k3 k4
  unfold multiW
  rw [if_pos k2, k3]
  have hj : joinW (bn i) [o] d = .error 5 := by
    unfold joinW
    rw [if_neg (by rintro (h | h); cases h; rw [k1] at h; cases h), if_pos hd]
  rw [hj]
theorem multiE (i d : Nat) (hi : i ≤ 8) (hd : d < 8) : multiW mixN [(bdN, bn i)] [.error 5] d = .error 5 := by
  obtain ⟨k1, k2, k3, k4⟩ := bnOk ⟨i, by omega⟩
  simp only at k1 k2 k3 k4
  unfold multiW
  rw [if_pos k2, k3]
  have hj : joinW (bn i) [.error 5] d = .error 5 := by
    unfold joinW
    rw [if_neg (by rintro (h | h); cases h; rw [k1] at h; cases h), if_neg (by omega)]
    rfl
  rw [hj]
end Go.Proofs.YtkllecicddfjpaaGreatDoor

namespace Go.Proofs.YtkllecicddfjpaaGreatDoor
set_option linter.unusedVariables false
set_option linter.unusedSimpArgs false
open Go.RowKit

/-- a part in i multiparts -/
def PtL (w : World) (b : List UInt8) : Nat → Pv → Prop
  | 0, p => p.k = abN ∧ p.n = 0 ∧ p.code = 1 ∧ Rb w p.B b ∧ p.nb = b.length ∧ b.length ≤ p.cb ∧ p.nq = 0
  | i + 1, p => p.k = mixN ∧ p.n = 1 ∧ p.code = 0 ∧ p.nb = 0 ∧ p.nq = 1 ∧ Rv w p.A (Tk.pcells [(bdN, bn i)]) ∧ ∃ p' : Pv, Rv w p.C (pvs [p']) ∧ PtL w b i p'
theorem PtL.below {w w' : World} {b : List UInt8} (hb : Below w.heap.size w w') : ∀ {i : Nat} {p : Pv}, PtL w b i p → PtL w' b i p
  | 0, p, h => ⟨h.1, h.2.1, h.2.2.1, h.2.2.2.1.below hb, h.2.2.2.2⟩
  | i + 1, p, h => by
    obtain ⟨h1, h2, h3, h4, h5, h6, p', h7, h8⟩ := h
    exact ⟨h1, h2, h3, h4, h5, h6.below hb, p', h7.below hb, PtL.below hb h8⟩
/-- what write gives of it, at a depth -/
def outL (b : List UInt8) : Nat → Nat → Except Nat Mail
  | 0, _ => leafW abN [] 1 b
  | i + 1, d => multiW mixN [(bdN, bn i)] [outL b i (d + 1)] d
theorem outL_ok (b : List UInt8) (hb : b.length ≤ 300) : ∀ i d, i + d ≤ 8 → outL b i d = .ok (mailL b i)
  | 0, _, _ => leafL b hb
  | i + 1, d, h => by
    unfold outL
    rw [outL_ok b hb i (d + 1) (by omega)]
    exact multiL b hb i d (by omega) (by omega)
theorem outL_deep (b : List UInt8) : ∀ i d, i + 1 + d = 9 → outL b (i + 1) d = .error 5
  | 0, d, h => by
    unfold outL
    exact multiD 0 d _ (by omega) (by omega)
  | i + 1, d, h => by
    unfold outL
    rw [outL_deep b i (d + 1) (by omega)]
    exact multiE (i + 1) d (by omega) (by omega)
/-- either or -/
theorem outL_or (b : List UInt8) (hb : b.length ≤ 300) (i d : Nat) (h : i + d ≤ 9) : outL b i d = .ok (mailL b i) ∨ outL b i d = .error 5 := by
  by_cases h8 : i + d ≤ 8
  · exact .inl (outL_ok b hb i d h8)
  · cases i with
    | zero => exact .inl (leafL b hb)
    | succ i => exact .inr (outL_deep b i d (by omega))
set_option maxRecDepth 100000 in
theorem wl_any (b : List UInt8) (hb : b.length ≤ 300) : ∀ (i d : Nat) (p : Pv) (w : World), i + d ≤ 9 → PtL w b i p → Gm w →
    Calls Tryz.prog 31 #[p.val, .int .i64 (d : Int)] w fun e w' => WOut (outL b i d) w' e ∧ Below w.heap.size w w'
  | 0, d, p, w, _, h, hG => by
    obtain ⟨k, A, n, c, code, B, nb, cb, C, nq, cc⟩ := p
    obtain ⟨h1, h2, h3, h4, h5, h6, h7⟩ := h
    simp only at h1 h2 h3 h4 h5 h6 h7
    subst h1 h2 h3 h5 h7
    exact wleaf_any abN [] A 0 c 1 B b b.length cb C cc d w hG (.inr rfl) (by decide) (by decide) rfl (by omega) (by simp) (Rv.nil _ _) (by simp) rfl h4 h6 (fun h => by cases h) (by omega)
  | i + 1, d, p, w, hd, h, hG => by
    obtain ⟨k, A, n, c, code, B, nb, cb, C, nq, cc⟩ := p
    obtain ⟨h1, h2, h3, h4, h5, h6, p', h7, h8⟩ := h
    simp only at h1 h2 h3 h4 h5 h6 h7
    subst h1 h2 h3 h4 h5
    obtain ⟨k1, k2, k3, k4⟩ := bnOk ⟨i, by omega⟩
    simp only at k1 k2 k3 k4
    have hor := outL_or b hb i (d + 1) (by omega)
    refine wmulti_any mixN [(bdN, bn i)] A 1 c B cb C 1 cc d [p'] [outL b i (d + 1)] w hG (by decide) (by decide) rfl (by omega) ?_ h6 ?_ ?_ rfl rfl (by omega) h7 (by omega) ?_ ?_ ?_
    · intro q hq
      simp only [List.mem_singleton] at hq
      subst hq
      exact ⟨by simp, by simp [bn]⟩
    · intro q hq
      simp only [List.mem_singleton] at hq
      subst hq
      exact k4
    · rw [k3]
      simp [bn]
    · intro j q o hj ho W hW
      have hj0 : j = 0 := by
        have := lt_of_get hj
        simp at this
        exact this
      subst hj0
      simp at hj ho
      subst hj ho
      exact wl_any b hb i (d + 1) p' W (by omega) (h8.below hW) (hG.below hW)
    · intro k hk
      simp only [List.mem_singleton] at hk
      rcases hor with h | h
      · rw [h] at hk; cases hk
      · rw [h] at hk; cases hk; omega
    · intro m hm
      simp only [List.mem_singleton] at hm
      rcases hor with h | h
      · rw [h] at hm
        cases hm
        obtain ⟨e1, _, e3⟩ := mailL_mb b hb i (by omega)
        exact ⟨e1, by omega⟩
      · rw [h] at hm; cases hm
end Go.Proofs.YtkllecicddfjpaaGreatDoor

namespace Go.Proofs.YtkllecicddfjpaaGreatDoor
set_option linter.unusedVariables false
set_option linter.unusedSimpArgs false
open Go.RowKit

/-- how a part in i multiparts that was read lies in memory -/
def RL (b : List UInt8) : Nat → RP
  | 0 => leafR abN [] 1 b
  | i + 1 => multiR mixN [(bdN, bn i)] [RL b i]
theorem RL_stab (b : List UInt8) : ∀ i, Stab (RL b i)
  | 0 => leafR_stab
  | i + 1 => multiR_stab fun R hR => by
    simp only [List.mem_singleton] at hR
    subst hR
    exact RL_stab b i
namespace Ar
theorem sgs_nob : ∀ c ∈ sgs, isb c.toNat = false := by decide
theorem gsign_nob (ys : List UInt8) (i : Nat) : isb (gsign ys i).toNat = false := by
  unfold gsign
  split
  · rfl
  · have : ∀ T, T < 64 → isb (sgs.getD T 0).toNat = false := by decide
    exact this _ (Nat.mod_lt _ (by omega))
theorem enc_nob (xs : List UInt8) : ∀ c ∈ enc xs, isb c.toNat = false := by
  intro c hc
  unfold enc at hc
  rw [List.mem_flatMap] at hc
  obtain ⟨j, _, hc⟩ := hc
  unfold enc3 at hc
  split at hc
  · simp at hc
  · rw [List.mem_map] at hc
    obtain ⟨i, _, rfl⟩ := hc
    exact gsign_nob _ _
theorem chk_flat (l : List UInt8) (k : Nat) (hk : 1 ≤ k) (m : Nat) : (List.range m).flatMap (fun j => chk l k j) = l.take (m * k) := by
  induction m with
  | zero => simp
  | succ m ih =>
    rw [List.range_succ, List.flatMap_append, ih, Nat.succ_mul, List.take_add]
    simp [chk]
theorem nob_flatMap {α : Type} (f : α → List UInt8) (xs : List α) : nob (xs.flatMap f) = xs.flatMap fun x => nob (f x) := by
  induction xs with
  | nil => rfl
  | cons x xs ih => rw [List.flatMap_cons, nob_append, ih, List.flatMap_cons]
theorem lin_nob (l : List UInt8) (h : ∀ c ∈ l, isb c.toNat = false) : nob (lin l) = l := by
  unfold lin
  rw [nob_flatMap]
  have e : ∀ j, nob (chk l 76 j ++ [13, 10]) = chk l 76 j := fun j => by
    rw [nob_append, nob_all (l := chk l 76 j) (fun c hc => h c (List.mem_of_mem_drop (List.mem_of_mem_take hc)))]
    simp [nob, isb]
  simp only [e]
  rw [chk_flat l 76 (by omega)]
  exact List.take_of_length_le (by omega)
end Ar
theorem vals0 : (Fd.valsN ctN [(ctN, Tk.writeB abN []), (cteN, codeN 1)]).head? = some (Tk.writeB abN []) ∧ codeT [(ctN, Tk.writeB abN []), (cteN, codeN 1)] = [98, 97, 115, 101, 54, 52] ∧ (((Fd.valsN cteN [(ctN, Tk.writeB abN []), (cteN, codeN 1)]).head?).getD []).length ≤ 1000000 ∧ Tk.rightB abN [] = true := by decide +kernel
theorem valsS : ∀ i : Fin 9, (Fd.valsN ctN [(ctN, Tk.writeB mixN [(bdN, bn i.1)])]).head? = some (Tk.writeB mixN [(bdN, bn i.1)]) ∧ (Tk.writeB mixN [(bdN, bn i.1)]).length ≤ 1000000 := by decide +kernel
theorem mix_mul : Lib.hasPrefix mixN mulN = true ∧ Lib.hasPrefix abN mulN = false := by decide +kernel

theorem rl_any (b : List UInt8) (hb : b.length ≤ 300) : ∀ (i d : Nat) (w : World) (A : Option Addr) (c : Nat) (B : Option Addr) (c2 : Nat), i + d ≤ 8 → Gm w → Fd.Rf w A (mailL b i).1 → Rb w B (mailL b i).2 → (mailL b i).2.length ≤ c2 → c2 ≤ maxLen → Pl B c2 →
    Calls Tryz.prog 32 #[.agg #[.slice A (mailL b i).1.length c, .slice B (mailL b i).2.length c2], .int .i64 (d : Int)] w fun e w' => ROut (.ok (RL b i)) w.heap.size w' e ∧ Below w.heap.size w w'
  | 0, d, w, A, c, B, c2, _, hG, hA, hB, h2, h3, hpl => by
    obtain ⟨v1, v2, v3, v4⟩ := vals0
    have hlen := (mailL_mb b hb 0 (by omega)).2.2
    have hmb := (mailL_mb b hb 0 (by omega)).2.1
    have hbl : (mailL b 0).2.length ≤ 1000000 := by rw [hmb, List.length_append] at hlen; omega
    have hn : Ar.enc b = Ar.nob (mailL b 0).2 := (Ar.lin_nob _ (Ar.enc_nob b)).symm
    exact rleaf64_any A B (mailL b 0).1 (mailL b 0).2 b _ c _ c2 (d : Int) w rfl hA rfl hB h2 hG (by simp [mailL]) hbl (v := Tk.writeB abN []) (kind := abN) (ms := []) v1 (by decide +kernel) (Tk.write_read v4) mix_mul.2 (by simp) v3 v2 hn
  | i + 1, d, w, A, c, B, c2, hid, hG, hA, hB, h2, h3, hpl => by
    obtain ⟨k1, k2, k3, k4⟩ := bnOk ⟨i, by omega⟩
    obtain ⟨v1, v2⟩ := valsS ⟨i, by omega⟩
    simp only at k1 k2 k3 k4 v1 v2
    obtain ⟨hw, hmb, hlen⟩ := mailL_mb b hb i (by omega)
    obtain ⟨_, hmb2, hlen2⟩ := mailL_mb b hb (i + 1) (by omega)
    have hbl : (mailL b (i + 1)).2.length ≤ 1000000 := by rw [hmb2, List.length_append] at hlen2; omega
    have hs : splitS (mailL b (i + 1)).2 (paramP [(bdN, bn i)] bdN) = ([mb (mailL b i)], 0) := by
      rw [k3]
      exact split_bodyJ (bd := bn i) (ps := [mb (mailL b i)]) k1 (by simp) (by
        intro p hp
        simp only [List.mem_singleton] at hp
        subst hp
        exact mailL_ok b hb i ⟨i, by omega⟩ (Nat.le_refl _))
    have h := rmulti_any A B (mailL b (i + 1)).1 (mailL b (i + 1)).2 _ c _ c2 d [.ok (RL b i)] w rfl hA rfl hB h2 h3 hpl hG (by simp [mailL]) hbl (by omega) (v := Tk.writeB mixN [(bdN, bn i)]) (kind := mixN) (ms := [(bdN, bn i)]) v1 (by omega) (Tk.write_read k2) mix_mul.1 (by simp) (by rw [k3]; simp [bn])
      (by rw [hs]; rfl) (by
        rw [hs]
        intro x hx
        simp only [List.mem_singleton] at hx
        subst hx
        omega) (by
        intro R hR
        simp only [List.mem_singleton] at hR
        cases hR
        exact RL_stab b i) (by
        intro k hk
        simp only [List.mem_singleton] at hk
        cases hk) (by
        intro j x k hj hr
        rw [hs] at hj
        have hj0 : j = 0 := by
          have := lt_of_get hj
          simp at this
          exact this
        subst hj0
        simp at hj
        subst hj
        rw [read_mb hw] at hr
        cases hr) (by
        intro j x fs bb hj hr
        rw [hs] at hj
        have hj0 : j = 0 := by
          have := lt_of_get hj
          simp at this
          exact this
        subst hj0
        simp at hj
        subst hj
        rw [read_mb hw] at hr
        have hm : mailL b i = (fs, bb) := Except.ok.inj hr
        refine ⟨_, rfl, fun W A' c' B' c2' hW r1 r2 r3 r4 r5 => ?_⟩
        have h := rl_any b hb i (d + 1) W A' c' B' c2' (by omega) (hG.below hW) (by rw [hm]; exact r1) (by rw [hm]; exact r2) (by rw [hm]; exact r3) r4 r5
        rw [hm] at h
        exact h)
    have hpw : partsW (paramP [(bdN, bn i)] bdN) (mailL b (i + 1)).2 d [Except.ok (RL b i)] = .ok [RL b i] := by
      unfold partsW
      rw [k3, if_neg (by rw [k1]; decide), if_neg (by omega)]
      rw [k3] at hs
      rw [hs]
      rfl
    rw [hpw] at h
    exact h
end Go.Proofs.YtkllecicddfjpaaGreatDoor

namespace Go.Proofs.YtkllecicddfjpaaGreatDoor
set_option linter.unusedVariables false
set_option linter.unusedSimpArgs false
open Go.RowKit

set_option maxRecDepth 100000 in
set_option maxHeartbeats 2000000 in
theorem mread_any (v0 v1 : Value) (o : Except Nat RP) (w : World) (hst : ∀ R, o = .ok R → Stab R)
    (H : ∀ W, Below w.heap.size w W → Calls Tryz.prog 32 #[.agg #[v0, v1], .int .i64 0] W fun e W' => ROut o W.heap.size W' e ∧ Below W.heap.size W W') :
    Calls Tryz.prog 15 #[.agg #[v0, v1]] w fun e w' => ROut o w.heap.size w' e ∧ Below w.heap.size w w' := by
  have hB00 : Below w.heap.size w (w.alloc (.cells #[v0, v1] 39)) := (Below.refl _ _).alloc (Nat.le_refl _) _
  have hB0 : Below w.heap.size w ((w.alloc (.cells #[v0, v1] 39)).alloc (.cells #[.string ⟨#[]⟩, .slice none 0 0, .int .i64 0, .slice none 0 0, .slice none 0 0] 34)) := hB00.alloc hB00.size _
  have rl := Row.new (w.alloc (.cells #[v0, v1] 39)) #[.string ⟨#[]⟩, .slice none 0 0, .int .i64 0, .slice none 0 0, .slice none 0 0] 34
  rw [World.size_alloc] at rl
  have hc := H _ hB0
  have hz0 : w.heap.size + 2 ≤ ((w.alloc (.cells #[v0, v1] 39)).alloc (.cells #[.string ⟨#[]⟩, .slice none 0 0, .int .i64 0, .slice none 0 0, .slice none 0 0] 34)).heap.size := by simp
  clear H hB00
  go_enter Tryz.func15, Tryz.ntmps15
  go_wp2_with fail
  generalize ((w.alloc (.cells #[v0, v1] 39)).alloc (.cells #[.string ⟨#[]⟩, .slice none 0 0, .int .i64 0, .slice none 0 0, .slice none 0 0] 34)) = W0 at *
  refine hc.mono ?_
  rintro e w1 ⟨hwo, hb1⟩
  have hB1 := hB0.trans (hb1.mono hB0.size)
  have R := rl.below hb1
  have a0 := R.cell (j := 0) rfl
  have f0 := R.frozen 0
  have a1 := R.cell (j := 1) rfl
  have f1 := R.frozen 1
  have a2 := R.cell (j := 2) rfl
  have f2 := R.frozen 2
  have a3 := R.cell (j := 3) rfl
  have f3 := R.frozen 3
  have a4 := R.cell (j := 4) rfl
  have f4 := R.frozen 4
  cases o with
  | error k =>
    simp only [ROut] at hwo
    subst hwo
    go_wp2_with fail
    have rF := (((((R.set 0 (.string (bs []))).set 1 (.slice none 0 0)).set 2 (.int .i64 0)).set 3 (.slice none 0 0)).set 4 (.slice none 0 0))
    have hBF := (((((hB1.setCell (p := ⟨w.heap.size + 1, 0, none⟩) (by simp) (.string (bs []))).setCell (p := ⟨w.heap.size + 1, 1, none⟩) (by simp) (.slice none 0 0)).setCell (p := ⟨w.heap.size + 1, 2, none⟩) (by simp) (.int .i64 0)).setCell (p := ⟨w.heap.size + 1, 3, none⟩) (by simp) (.slice none 0 0)).setCell (p := ⟨w.heap.size + 1, 4, none⟩) (by simp) (.slice none 0 0))
    have e0 := rF.cell (j := 0) rfl
    have e1 := rF.cell (j := 1) rfl
    have e2 := rF.cell (j := 2) rfl
    have e3 := rF.cell (j := 3) rfl
    have e4 := rF.cell (j := 4) rfl
    exact bodyPost_ret (v := .tuple #[.agg #[.string (bs []), .slice none 0 0, .int .i64 0, .slice none 0 0, .slice none 0 0], .int .i64 (k : Int)]) (by simp [results, Tryz.results15, go_sem, e0, e1, e2, e3, e4]) rfl ⟨rfl, hBF⟩
  | ok R0 =>
    obtain ⟨p, F, rfl, hp, hF⟩ := hwo
    have hs := hst R0 rfl
    have HP := Lib.hid hp
    have HF := Lib.hid hF
    clear hp hF hst
    obtain ⟨pk, pA, pn, pc, pcode, pB, pnb, pcb, pC, pnq, pcc⟩ := p
    simp only [Pv.val]
    go_wp2_with fail
    have rF := (((((R.set 0 (.string (bs pk))).set 1 (.slice pA pn pc)).set 2 (.int .i64 pcode)).set 3 (.slice pB pnb pcb)).set 4 (.slice pC pnq pcc))
    have hBF := (((((hB1.setCell (p := ⟨w.heap.size + 1, 0, none⟩) (by simp) (.string (bs pk))).setCell (p := ⟨w.heap.size + 1, 1, none⟩) (by simp) (.slice pA pn pc)).setCell (p := ⟨w.heap.size + 1, 2, none⟩) (by simp) (.int .i64 pcode)).setCell (p := ⟨w.heap.size + 1, 3, none⟩) (by simp) (.slice pB pnb pcb)).setCell (p := ⟨w.heap.size + 1, 4, none⟩) (by simp) (.slice pC pnq pcc))
    have hsz : (((((w1.setCell ⟨w.heap.size + 1, 0, none⟩ (.string (bs pk))).setCell ⟨w.heap.size + 1, 1, none⟩ (.slice pA pn pc)).setCell ⟨w.heap.size + 1, 2, none⟩ (.int .i64 pcode)).setCell ⟨w.heap.size + 1, 3, none⟩ (.slice pB pnb pcb)).setCell ⟨w.heap.size + 1, 4, none⟩ (.slice pC pnq pcc)).heap.size = w1.heap.size := by simp
    have hkeep : ∀ k, F k → (((((w1.setCell ⟨w.heap.size + 1, 0, none⟩ (.string (bs pk))).setCell ⟨w.heap.size + 1, 1, none⟩ (.slice pA pn pc)).setCell ⟨w.heap.size + 1, 2, none⟩ (.int .i64 pcode)).setCell ⟨w.heap.size + 1, 3, none⟩ (.slice pB pnb pcb)).setCell ⟨w.heap.size + 1, 4, none⟩ (.slice pC pnq pcc)).heap[k]? = w1.heap[k]? := fun k hk => by
      have h1 := (HF.out k hk).1
      have hne : k ≠ w.heap.size + 1 := by omega
      rw [Below.heap_setCell _ _ _ k hne, Below.heap_setCell _ _ _ k hne, Below.heap_setCell _ _ _ k hne, Below.heap_setCell _ _ _ k hne, Below.heap_setCell _ _ _ k hne]
    have e0 := rF.cell (j := 0) rfl
    have e1 := rF.cell (j := 1) rfl
    have e2 := rF.cell (j := 2) rfl
    have e3 := rF.cell (j := 3) rfl
    have e4 := rF.cell (j := 4) rfl
    exact bodyPost_ret (v := .tuple #[.agg #[.string (bs pk), .slice pA pn pc, .int .i64 pcode, .slice pB pnb pcb, .slice pC pnq pcc], .int .i64 0]) (by simp [results, Tryz.results15, go_sem, e0, e1, e2, e3, e4]) rfl ⟨⟨⟨pk, pA, pn, pc, pcode, pB, pnb, pcb, pC, pnq, pcc⟩, F, rfl, hs _ _ _ _ HP.out hkeep, fun k hk => ⟨by have := (HF.out k hk).1; omega, by rw [hsz]; exact (HF.out k hk).2⟩⟩, hBF⟩
end Go.Proofs.YtkllecicddfjpaaGreatDoor
