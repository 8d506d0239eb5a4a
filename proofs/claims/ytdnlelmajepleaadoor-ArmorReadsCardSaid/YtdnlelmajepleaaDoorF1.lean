/- The library's bytes.FieldsFunc at armor's blanks: the pieces between blanks. -/
import Derived.Test.YtdnlelmajepleaaDoorAp
import Derived.Test.YtdnlelmajepleaaDoorP7
import Derived.Test.YtdnlelmajepleaaDoorShelf
namespace Go.Proofs.YtdnlelmajepleaaDoor
open Go.RowKit

theorem tabs_below {g3 g4 : Nat} {w w' : World} (h : Lib.Utf8Tabs g3 g4 w) (hb : Below w.heap.size w w') : Lib.Utf8Tabs g3 g4 w' :=
  ⟨fun c hc => (hb.cell (p := ⟨g3, c, none⟩) (cell_lt (h.1 c hc))).trans (h.1 c hc),
    fun i hi => ⟨(hb.cell (p := ⟨g4, 2 * i, none⟩) (cell_lt (h.2 i hi).1)).trans (h.2 i hi).1, (hb.cell (p := ⟨g4, 2 * i + 1, none⟩) (cell_lt (h.2 i hi).2)).trans (h.2 i hi).2⟩⟩

theorem rune_any (b o c : Nat) (l : List UInt8) (n : Nat) (w : World) (hT : Lib.Utf8Tabs 1 2 w) (hn : l.length = n) (h0 : 0 < n) (hr : Rb w (some ⟨b, o, none⟩) l) :
    Calls Tryd.prog 21 #[.slice (some ⟨b, o, none⟩) n c] w fun e w' => (∃ R K : Nat, e = .returned (.tuple #[.int .i32 R, .int .i64 K]) ∧
      1 ≤ K ∧ K ≤ n ∧ R < 2147483648 ∧ (isb R = true → nob (l.take K) = []) ∧ (isb R = false → nob (l.take K) = l.take K)) ∧ Below w.heap.size w w' := by
  subst hn
  have h := Any7.utf8_DecodeRune Tryd.lays7n32 (bs l) b o c w hT (fun j hj => by
    rw [bs_size] at hj
    obtain ⟨b', o', x, e, hx, hc⟩ := hr.one hj
    cases e
    rw [hc, bs_get]
    simp [List.getD, hx.out])
  rw [bs_size] at h
  refine h.mono ?_
  rintro e w' ⟨rfl, hb⟩
  have hd : Lib.decodeGo (bs l) = Utf8.decode (bs l) 0 := by unfold Lib.decodeGo; rw [if_neg (by rw [bs_size]; omega)]
  rw [hd]
  generalize hq : Utf8.decode (bs l) 0 = q
  obtain ⟨R, K⟩ := q
  obtain ⟨s1, s2, s3, s4, s5⟩ := dec_step l h0 R K hq
  exact ⟨⟨R, K, rfl, s1, s2, s3, s4, s5⟩, hb⟩

set_option maxHeartbeats 400000 in
theorem blank_any (R : Nat) (w : World) (hR : R < 2147483648) :
    Calls Tryd.prog 17 #[.int .i32 R] w fun e w' => e = .returned (.bool (isb R)) ∧ w = w' := by
  have h1 : ((R : Int) == 32) = (R == 32) := by rw [Bool.eq_iff_iff]; simp; omega
  have h2 : ((R : Int) == 9) = (R == 9) := by rw [Bool.eq_iff_iff]; simp; omega
  have h3 : ((R : Int) == 13) = (R == 13) := by rw [Bool.eq_iff_iff]; simp; omega
  have h4 : ((R : Int) == 10) = (R == 10) := by rw [Bool.eq_iff_iff]; simp; omega
  have e : isb R = (((R : Int) == 32) || ((R : Int) == 9) || ((R : Int) == 13) || ((R : Int) == 10)) := by rw [h1, h2, h3, h4]; rfl
  rw [e]
  clear e h1 h2 h3 h4
  rcases Bool.eq_false_or_eq_true ((R : Int) == 32) with h | h
  · go_enter Tryd.func17, Tryd.ntmps17
    go_wp2
    all_goals (go_ret; exact ⟨ret_bool (by rw [h]; rfl), rfl⟩)
  rcases Bool.eq_false_or_eq_true ((R : Int) == 9) with h' | h'
  · go_enter Tryd.func17, Tryd.ntmps17
    go_wp2
    all_goals (go_ret; exact ⟨ret_bool (by rw [h, h']; rfl), rfl⟩)
  rcases Bool.eq_false_or_eq_true ((R : Int) == 13) with h2 | h2
  · go_enter Tryd.func17, Tryd.ntmps17
    go_wp2
    all_goals (go_ret; exact ⟨ret_bool (by rw [h, h', h2]; rfl), rfl⟩)
  · go_enter Tryd.func17, Tryd.ntmps17
    go_wp2
    all_goals (go_ret; exact ⟨ret_bool (by rw [h, h', h2]; rfl), rfl⟩)

theorem Rv.drop {w : World} {b o : Nat} {xs : List Value} (h : Rv w (some ⟨b, o, none⟩) xs) (q : Nat) : Rv w (some ⟨b, o + q, none⟩) (xs.drop q) := fun hp => by
  obtain ⟨b', o', e, hc⟩ := h (by simp at hp; omega)
  cases e
  exact ⟨b, o + q, rfl, fun j v hj => by rw [Nat.add_assoc]; exact hc _ v (by rw [← hj, List.getElem?_drop])⟩
theorem Rb.drop {w : World} {b o : Nat} {l : List UInt8} (h : Rb w (some ⟨b, o, none⟩) l) (q : Nat) : Rb w (some ⟨b, o + q, none⟩) (l.drop q) := by
  have := Rv.drop h q
  rwa [← List.map_drop] at this
theorem Rv_new (w : World) (cs : Array Value) (xs : List Value) (t : TypeId) (h : cs = xs.toArray) : Rv (w.alloc (.cells cs t)) (some ⟨w.heap.size, 0, none⟩) xs := fun _ =>
  ⟨w.heap.size, 0, rfl, fun j v hj => by rw [World.cell?_alloc_new, h, Nat.zero_add]; simpa using hj⟩

/-- an owned row in one form -/
theorem own_form {w : World} {base e size n : Nat} {v : Value} {xs : List Value} (h : w.ownsRow base e size v n xs) : ∃ A c, v = .slice A n c ∧ n ≤ c ∧ c ≤ maxLen ∧ Rv w A xs ∧ xs.length = n * size := by
  have hl := h.1
  rcases h.2 with ⟨rfl, h0⟩ | ⟨g, cap, cur, rfl, _, _, h1, h2, _⟩
  · subst h0
    have : xs = [] := List.eq_nil_of_length_eq_zero (by simpa using hl)
    subst this
    exact ⟨none, 0, rfl, Nat.le_refl _, by unfold maxLen; omega, Rv.nil _ _, hl⟩
  · refine ⟨_, cap, rfl, h1, h2, fun _ => ⟨g, 0, rfl, fun j v hj => ?_⟩, hl⟩
    have hlt := lt_of_get hj
    rw [Nat.zero_add, h.cellAt j (by omega)]
    exact hj
/-- make([]T, n) at elements of one cell -/
theorem makeN {P : Program} {t e : TypeId} {i : TypeInfo} {z : Value} {bytes : Nat} (ht : P.underlying t = some (.slice e)) (hi : P.info? e = some i) (hz : i.zero = some z) (hs : i.size = 1) (hb : i.bytes = bytes)
    (kl kc : IntKind) (m : Nat) (b2 : bytes * m ≤ 281474976710656) (b3 : m ≤ 9223372036854775807) :
    ∃ X : Array Value, X.size = m ∧ ∀ W : World, (Instr.makeSlice t (.int kl m) (.int kc m)).run P W = .ok (.slice (some ⟨W.heap.size, 0, none⟩) m m) (W.alloc (.cells X e)) := by
  have hb2 : (i.bytes : Int) * (m : Int) ≤ 281474976710656 := by
    rw [hb, ← Int.natCast_mul]
    generalize bytes * m = q at b2
    omega
  refine ⟨madeCells z.cells (m * 1), ?_, fun W => ?_⟩
  · rw [size_madeCells, Nat.mul_one]
  · have h := run_make (P := P) W t e i z ht hi hz kl kc (m : Int) (m : Int) (by omega) (by omega) hb2 (by omega)
    simpa [hs] using h
end Go.Proofs.YtdnlelmajepleaaDoor
