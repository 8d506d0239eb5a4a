/- What is fed is bounded; bits; a new Post. -/
import Derived.Test.YtddjabjloplhiaaGreatDoorZ4
import Derived.Test.YtddjabjloplhiaaGreatDoorB30
namespace Go.Proofs.YtddjabjloplhiaaGreatDoor
set_option linter.unusedVariables false
set_option linter.unusedSimpArgs false
open Go.RowKit

theorem feed_bounds : ∀ (k : Nat) (s : Ps) (b : List UInt8), b.length ≤ k → s.tos.length ≤ 10 → (feed s b).out.length + 20 * (feed s b).left.length ≤ 20 * b.length ∧ (feed s b).ms.length + (feed s b).left.length ≤ b.length ∧ (feed s b).s.tos.length ≤ 10 ∧ ∀ t ∈ (feed s b).ms, t.tos.length ≤ 10 ∧ t.body.length ≤ b.length
  | k, s, b, hk, ht => by
    by_cases h5 : s.st = 5
    · rw [feed_closed b h5]
      simp [ht]
    cases hs : step s b with
    | none =>
      rw [feed_none hs]
      simp [ht]
    | some p =>
      obtain ⟨o, s', r, ms⟩ := p
      have hl := step_len hs
      rw [feed_some h5 hs]
      have hst : o.length ≤ 11 ∧ s'.tos.length ≤ 10 ∧ ms.length ≤ 1 ∧ ∀ t ∈ ms, t.tos.length ≤ 10 ∧ t.body.length ≤ b.length := by
        unfold step at hs
        split at hs
        · rw [Option.map_eq_some_iff] at hs
          obtain ⟨⟨m', r'⟩, h2, h3⟩ := hs
          cases h3
          have hul := unst_len _ (Nat.le_refl _) h2
          refine ⟨by decide, by simp, by simp, fun t ht' => ?_⟩
          rw [List.mem_singleton.1 ht']
          exact ⟨ht, by dsimp only; omega⟩
        · rw [Option.map_eq_some_iff] at hs
          obtain ⟨⟨m', r'⟩, h2, h3⟩ := hs
          cases h3
          have := answer_len s m'
          have := cmd_tos s m' ht
          refine ⟨by simp; omega, this, by simp, fun t ht' => by simp at ht'⟩
      obtain ⟨h1, h2, h3, h4⟩ := hst
      cases k with
      | zero => omega
      | succ k =>
        obtain ⟨i1, i2, i3, i4⟩ := feed_bounds k s' r (by omega) h2
        refine ⟨?_, ?_, i3, fun t ht' => ?_⟩
        · simp only [Fed.ahead, List.length_append]
          by_cases hle : (feed s' r).left.length ≤ r.length
          · omega
          · omega
        · simp only [Fed.ahead, List.length_append]
          omega
        · simp only [Fed.ahead] at ht'
          rcases List.mem_append.1 ht' with h | h
          · exact h4 t h
          · have := i4 t h
            exact ⟨this.1, by omega⟩
theorem i64_and16 (n : Int) : bits .and .i64 n 65535 = n % 65536 := by
  have h3 : (BitVec.ofInt 64 65535).toNat = 2 ^ 16 - 1 := by decide
  have key : (BitVec.ofInt 64 n &&& BitVec.ofInt 64 65535).toNat = (n % ((2 ^ 64 : Nat) : Int)).toNat % 2 ^ 16 := by
    rw [BitVec.toNat_and, BitVec.toNat_ofInt, h3, Nat.and_two_pow_sub_one_eq_mod]
  show IntKind.i64.wrap ((BitVec.ofInt 64 n &&& BitVec.ofInt 64 65535).toNat : Nat) = n % 65536
  rw [key, IntKind.wrap_i64]
  omega

set_option maxHeartbeats 400000 in
theorem newPost2_any (w : World) : Calls Tryz.prog 7 #[] w fun e w' => e = .returned (.pointer (some ⟨w.heap.size, 0, none⟩)) ∧ Row w' w.heap.size 52 [.int .i64 ((0 : Nat) : Int), .slice none 0 0, .string (bs []), .slice none 0 0, .slice none 0 0, .slice none 0 0] ∧ Below w.heap.size w w' ∧ w'.heap.size = w.heap.size + 1 := by
  go_enter Tryz.func7, Tryz.ntmps7
  go_wp2_with fail
  go_ret
  exact ⟨rfl, Row.new w _ _, (Below.refl _ _).alloc (Nat.le_refl _) _, by simp⟩
/-- a new Post, and a new row of who calls -/
theorem post_new {w w' : World} {p : Nat} (h : Row w p 52 [.int .i64 ((0 : Nat) : Int), .slice none 0 0, .string (bs []), .slice none 0 0, .slice none 0 0, .slice none 0 0]) {xv : Value} {xo : List UInt8} (hb : Below w.heap.size w w') (hx : OwnM w' w.heap.size 5 1 xv xo.length (xo.map bv)) :
    PostM w' p p ⟨0, [], []⟩ [] [] xv xo := by
  refine ⟨.slice none 0 0, .slice none 0 0, .slice none 0 0, h.below hb, OwnM.nil _ _ _ _, OwnM.nil _ _ _ _, OwnM.nil _ _ _ _, OwnM.nil _ _ _ _, hx.rebase (Nat.le_of_lt h.lt), Nat.le_refl _, ?_, fun t ht => by simp at ht⟩
  have hlt := h.lt
  have hxl := hx.lt
  intro i j u v hij hu hv k h1 h2
  rcases i with _ | _ | _ | _ | _ | _ | i <;> rcases j with _ | _ | _ | _ | _ | _ | j <;> simp at hu hv hij
  all_goals (first | omega | skip)
  all_goals subst hu
  all_goals subst hv
  all_goals first
    | exact nb_nil h1
    | exact nb_nil h2
    | (rw [nb_pv] at h1; have := (hxl _ h2).1; omega)
    | (rw [nb_pv] at h2; have := (hxl _ h1).1; omega)
/-- one more piece is fed, to a talk from its beginning on -/
theorem feedStep_any (p : Nat) (done x : List UInt8) (ts : List Tm) (xv : Value) (B : Option Addr) (n cb : Nat) (w : World) (hw : MxB w p) (hn : x.length = n) (hB : Rb w B x) (hsz : done.length + n ≤ 50000)
    (h : PostM w p p (feed ⟨0, [], []⟩ done).s (feed ⟨0, [], []⟩ done).left ts xv (feed ⟨0, [], []⟩ done).out) (hts : ts.map (·.1) = (feed ⟨0, [], []⟩ done).ms) (hbase : p ≤ w.heap.size) :
    Calls Tryz.prog 8 #[.pointer (some ⟨p, 0, none⟩), .slice B n cb] w fun e w' => (∃ (v : Value) (o : List UInt8), e = .returned v ∧ OwnM w' p 5 1 v o.length (o.map bv) ∧ (feed ⟨0, [], []⟩ (done ++ x)).out = (feed ⟨0, [], []⟩ done).out ++ o ∧
      ∃ ts', PostM w' p p (feed ⟨0, [], []⟩ (done ++ x)).s (feed ⟨0, [], []⟩ (done ++ x)).left ts' xv (feed ⟨0, [], []⟩ done).out ∧ ts'.map (·.1) = (feed ⟨0, [], []⟩ (done ++ x)).ms) ∧ Below p w w' := by
  obtain ⟨b1, b2, b3, b4⟩ := feed_bounds _ ⟨0, [], []⟩ done (Nat.le_refl _) (by decide)
  have hfa := feed_app _ ⟨0, [], []⟩ done x (Nat.le_refl _) (by decide)
  have htl : ts.length = (feed ⟨0, [], []⟩ done).ms.length := by rw [← hts]; simp
  by_cases h5 : (feed ⟨0, [], []⟩ done).s.st = 5
  · rw [if_pos h5] at hfa
    refine (feedClosed_any p p _ _ ts xv _ (.slice B n cb) w h h5).mono ?_
    rintro e w' ⟨rfl, rfl⟩
    refine ⟨⟨_, [], rfl, OwnM.nil _ _ _ _, by rw [hfa, List.append_nil], ts, ?_, ?_⟩, Below.refl _ _⟩
    · rw [hfa]; exact h
    · rw [hfa]; exact hts
  · rw [if_neg h5] at hfa
    refine (feed_any p p _ _ x ts xv _ B n cb w hw hn hB (by omega) h hbase b3 (by omega) h5).mono ?_
    rintro e w' ⟨⟨⟨v, rfl, hv⟩, ts', hP, hm⟩, hb⟩
    refine ⟨⟨v, _, rfl, hv, by rw [hfa]; rfl, ts ++ ts', ?_, ?_⟩, hb⟩
    · rw [hfa]; exact hP
    · rw [hfa, List.map_append, hts, hm]; rfl
end Go.Proofs.YtddjabjloplhiaaGreatDoor
