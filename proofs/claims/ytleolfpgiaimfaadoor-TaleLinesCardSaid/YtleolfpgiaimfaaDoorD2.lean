/- Plain: an event's line, and what a line tells. Nothing of the program. -/
import Derived.Test.YtleolfpgiaimfaaDoorD1
import Derived.Lib.AtoiAllCases
namespace Go.Proofs.YtleolfpgiaimfaaDoor
set_option linter.unusedVariables false
set_option linter.unusedSimpArgs false

/-- an event -/
structure Ev where
  kind : Int
  who : Int
  dst : Int
  n : Int
  m : Int
  thread : List UInt8
  body : List UInt8
  sec : Bool
  stays : Bool
  turn : UInt8
  fresh : List UInt8
  rk : Int
  rn : Int
  rm : Int
  rt : List UInt8

/-- what a number's word tells -/
def atoiZ (s : List UInt8) : Int × Bool := match Lib.atoiAll s with | .ok v => (v, true) | .syntax => (0, false) | .range => (Lib.atoiSat s, false)
/-- a truth's word -/
def tru (b : Bool) : List UInt8 := if b then [49] else [48]
/-- bytes laid over bytes -/
def over (f b : List UInt8) : List UInt8 := b.take f.length ++ f.drop b.length

/-- the fields of an event that lines tell -/
inductive Fk where
  | who | dst | n | m | thread | body | sec | stays | turn | fresh | rk | rn | rm | rt
  deriving DecidableEq
def Fk.word (E : Ev) : Fk → List UInt8
  | .who => Lib.itoa E.who
  | .dst => Lib.itoa E.dst
  | .n => Lib.itoa E.n
  | .m => Lib.itoa E.m
  | .thread => hexL E.thread
  | .body => hexL E.body
  | .sec => tru E.sec
  | .stays => tru E.stays
  | .turn => Lib.itoa (E.turn.toNat : Int)
  | .fresh => hexL E.fresh
  | .rk => Lib.itoa E.rk
  | .rn => Lib.itoa E.rn
  | .rm => Lib.itoa E.rm
  | .rt => hexL E.rt
def Fk.read (E : Ev) (s : List UInt8) : Fk → Ev × Bool
  | .who => ({ E with who := (atoiZ s).1 }, (atoiZ s).2)
  | .dst => ({ E with dst := (atoiZ s).1 }, (atoiZ s).2)
  | .n => ({ E with n := (atoiZ s).1 }, (atoiZ s).2)
  | .m => ({ E with m := (atoiZ s).1 }, (atoiZ s).2)
  | .thread => ({ E with thread := (unhexL s).1 }, (unhexL s).2)
  | .body => ({ E with body := (unhexL s).1 }, (unhexL s).2)
  | .sec => ({ E with sec := decide (s = [49]) }, true)
  | .stays => ({ E with stays := decide (s = [49]) }, true)
  | .turn => ({ E with turn := UInt8.ofNat ((atoiZ s).1 % 256).toNat }, (atoiZ s).2)
  | .fresh => ({ E with fresh := over E.fresh (unhexL s).1 }, (unhexL s).2)
  | .rk => ({ E with rk := (atoiZ s).1 }, (atoiZ s).2)
  | .rn => ({ E with rn := (atoiZ s).1 }, (atoiZ s).2)
  | .rm => ({ E with rm := (atoiZ s).1 }, (atoiZ s).2)
  | .rt => ({ E with rt := (unhexL s).1 }, (unhexL s).2)
/-- the forms: a kind's word, and its fields -/
def formL (k : Int) : Option (List UInt8 × List Fk) :=
  if k = 1 then some ([115, 101, 110, 100], [.who, .dst, .thread, .body, .sec, .fresh])
  else if k = 2 then some ([112, 111, 115, 116], [.who])
  else if k = 3 then some ([99, 97, 114, 114, 121], [.n, .stays])
  else if k = 4 then some ([100, 114, 111, 112], [.n])
  else if k = 5 then some ([114, 101, 119, 114, 105, 116, 101], [.n, .rk, .rn, .rm, .rt])
  else if k = 6 then some ([99, 111, 114, 114, 117, 112, 116], [.n, .m, .turn])
  else if k = 7 then some ([102, 101, 116, 99, 104], [.who, .n, .fresh])
  else if k = 8 then some ([99, 114, 97, 115, 104], [.who, .body])
  else if k = 9 then some ([114, 101, 115, 101, 116], [.who, .thread])
  else none
/-- an event as a line -/
def lineL (E : Ev) : List UInt8 := match formL E.kind with | none => [63] | some (w, fs) => joinW (w :: fs.map (·.word E))
/-- words read into an event, one behind the other -/
def readFs : List Fk → List (List UInt8) → Ev → Bool → Ev × Bool
  | x :: fs, s :: ss, E, ok => readFs fs ss (x.read E s).1 ((x.read E s).2 && ok)
  | _, _, E, ok => (E, ok)
def zeroEv (k : Int) : Ev := { kind := k, who := 0, dst := 0, n := 0, m := 0, thread := [], body := [], sec := false, stays := false, turn := 0, fresh := List.replicate 32 0, rk := 0, rn := 0, rm := 0, rt := [] }
/-- does a kind's form fit the words? -/
def fits (k : Int) (ws : List (List UInt8)) : Option (List Fk) := match formL k with | none => none | some (w, fs) => if ws[0]? = some w ∧ fs.length + 1 = ws.length then some fs else none
/-- what a text tells, as an event of a kind -/
def readOne (k : Int) (s : List UInt8) : Option Ev :=
  match fits k (splitP 32 s) with
  | none => none
  | some fs => if (readFs fs (splitP 32 s).tail (zeroEv k) true).2 = true ∧ lineL (readFs fs (splitP 32 s).tail (zeroEv k) true).1 = s then some (readFs fs (splitP 32 s).tail (zeroEv k) true).1 else none
/-- an event with nothing that its line doesn't tell -/
def toldL (E : Ev) : Ev := match formL E.kind with
  | none => zeroEv E.kind
  | some (_, fs) => { zeroEv E.kind with
      who := if .who ∈ fs then E.who else 0
      dst := if .dst ∈ fs then E.dst else 0
      n := if .n ∈ fs then E.n else 0
      m := if .m ∈ fs then E.m else 0
      thread := if .thread ∈ fs then E.thread else []
      body := if .body ∈ fs then E.body else []
      sec := if .sec ∈ fs then E.sec else false
      stays := if .stays ∈ fs then E.stays else false
      turn := if .turn ∈ fs then E.turn else 0
      fresh := if .fresh ∈ fs then E.fresh else List.replicate 32 0
      rk := if .rk ∈ fs then E.rk else 0
      rn := if .rn ∈ fs then E.rn else 0
      rm := if .rm ∈ fs then E.rm else 0
      rt := if .rt ∈ fs then E.rt else [] }

/-- an int -/
def isInt (z : Int) : Prop := -9223372036854775808 ≤ z ∧ z ≤ 9223372036854775807
/-- an event as memory may have it -/
structure Ev.Ok (E : Ev) : Prop where
  kind : isInt E.kind
  who : isInt E.who
  dst : isInt E.dst
  n : isInt E.n
  m : isInt E.m
  fresh : E.fresh.length = 32
  rk : isInt E.rk
  rn : isInt E.rn
  rm : isInt E.rm

theorem isInt_zero : isInt 0 := ⟨by omega, by omega⟩
theorem zeroEv_ok {k : Int} (h : isInt k) : (zeroEv k).Ok := ⟨h, isInt_zero, isInt_zero, isInt_zero, isInt_zero, by simp [zeroEv], isInt_zero, isInt_zero, isInt_zero⟩
theorem atoiZ_int (s : List UInt8) : isInt (atoiZ s).1 := by
  unfold atoiZ
  cases h : Lib.atoiAll s with
  | ok v => exact Lib.atoiAll_bounds h
  | «syntax» => exact isInt_zero
  | range =>
    simp only [Lib.atoiSat]
    split
    · exact ⟨by omega, by omega⟩
    · exact ⟨by omega, by omega⟩
theorem over_len (f b : List UInt8) : (over f b).length = f.length := by
  unfold over
  rw [List.length_append, List.length_take, List.length_drop]
  omega
theorem over_self (f : List UInt8) (b : List UInt8) (h : b.length = f.length) : over f b = b := by
  unfold over
  rw [← h, List.take_length, h, List.drop_length, List.append_nil]
theorem read_ok {E : Ev} (h : E.Ok) (x : Fk) (s : List UInt8) : (x.read E s).1.Ok := by
  have hz := atoiZ_int s
  have ho := over_len E.fresh (unhexL s).1
  have hf := h.fresh
  cases x <;> refine ⟨?_, ?_, ?_, ?_, ?_, ?_, ?_, ?_, ?_⟩ <;> first | exact h.kind | exact h.who | exact h.dst | exact h.n | exact h.m | exact h.rk | exact h.rn | exact h.rm | exact h.fresh | exact hz | exact ho.trans hf
theorem readFs_ok : ∀ (fs : List Fk) (ss : List (List UInt8)) (E : Ev) (ok : Bool), E.Ok → (readFs fs ss E ok).1.Ok
  | [], _, _, _, h => by unfold readFs; exact h
  | _ :: _, [], _, _, h => by unfold readFs; exact h
  | x :: fs, s :: ss, E, ok, h => by
    rw [readFs]
    exact readFs_ok fs ss _ _ (read_ok h x s)
theorem readFs_kind : ∀ (fs : List Fk) (ss : List (List UInt8)) (E : Ev) (ok : Bool), (readFs fs ss E ok).1.kind = E.kind
  | [], _, _, _ => by unfold readFs; rfl
  | _ :: _, [], _, _ => by unfold readFs; rfl
  | x :: fs, s :: ss, E, ok => by
    rw [readFs, readFs_kind fs ss]
    cases x <;> rfl

theorem word_noBlank (E : Ev) (x : Fk) : (32 : UInt8) ∉ x.word E := by
  cases x <;> simp only [Fk.word] <;> first | exact itoa_noBlank _ | exact hexL_noBlank _ | skip
  · unfold tru
    split <;> decide
  · unfold tru
    split <;> decide

/-- the kinds that have a form -/
theorem formL_some {k : Int} {p : List UInt8 × List Fk} (h : formL k = some p) : k = 1 ∨ k = 2 ∨ k = 3 ∨ k = 4 ∨ k = 5 ∨ k = 6 ∨ k = 7 ∨ k = 8 ∨ k = 9 := by
  unfold formL at h
  repeat' split at h
  all_goals first | omega | cases h
theorem form_noBlank {k : Int} {w : List UInt8} {fs : List Fk} (h : formL k = some (w, fs)) : (32 : UInt8) ∉ w ∧ w ≠ [] ∧ w ≠ [63] := by
  rcases formL_some h with rfl | rfl | rfl | rfl | rfl | rfl | rfl | rfl | rfl <;> cases h <;> decide
/-- one word, one kind -/
theorem form_one {k k' : Int} {w : List UInt8} {fs fs' : List Fk} (h : formL k = some (w, fs)) (h' : formL k' = some (w, fs')) : k = k' := by
  rcases formL_some h with rfl | rfl | rfl | rfl | rfl | rfl | rfl | rfl | rfl <;> cases h <;> (rcases formL_some h' with rfl | rfl | rfl | rfl | rfl | rfl | rfl | rfl | rfl <;> first | rfl | (exfalso; revert h'; simp [formL]))

theorem atoiZ_itoa {n : Int} (h : isInt n) : atoiZ (Lib.itoa n) = (n, true) := by
  unfold atoiZ
  rw [atoi_itoa h.1 h.2]
theorem tru_one (b : Bool) : decide (tru b = [49]) = b := by cases b <;> rfl
theorem turn_back (t : UInt8) : UInt8.ofNat ((t.toNat : Int) % 256).toNat = t := by
  have := t.toNat_lt
  rw [show ((t.toNat : Int) % 256).toNat = t.toNat by omega]
  simp
theorem isInt_byte (t : UInt8) : isInt (t.toNat : Int) := by
  have := t.toNat_lt
  exact ⟨by omega, by omega⟩

/-- a line's words, read: what it tells -/
theorem readFs_line {E : Ev} (h : E.Ok) {w : List UInt8} {fs : List Fk} (hf : formL E.kind = some (w, fs)) : readFs fs (fs.map (·.word E)) (zeroEv E.kind) true = (toldL E, true) := by
  have e1 := atoiZ_itoa h.who
  have e2 := atoiZ_itoa h.dst
  have e3 := atoiZ_itoa h.n
  have e4 := atoiZ_itoa h.m
  have e5 := atoiZ_itoa h.rk
  have e6 := atoiZ_itoa h.rn
  have e7 := atoiZ_itoa h.rm
  have e8 := atoiZ_itoa (isInt_byte E.turn)
  have e9 : over (List.replicate 32 0) E.fresh = E.fresh := over_self _ _ (by rw [h.fresh]; simp)
  unfold toldL
  rw [hf]
  rcases formL_some hf with hk | hk | hk | hk | hk | hk | hk | hk | hk <;> (rw [hk] at hf ⊢; cases hf; simp [-List.reduceReplicate, readFs, Fk.read, Fk.word, zeroEv, e1, e2, e3, e4, e5, e6, e7, e8, e9, unhex_hex, tru_one, turn_back])
theorem told_kind (E : Ev) : (toldL E).kind = E.kind := by
  unfold toldL
  split <;> rfl
theorem told_line (E : Ev) : lineL (toldL E) = lineL E := by
  unfold lineL
  rw [told_kind]
  cases hf : formL E.kind with
  | none => rfl
  | some p =>
    obtain ⟨w, fs⟩ := p
    simp only
    congr 2
    refine List.map_congr_left fun x hx => ?_
    unfold toldL
    rw [hf]
    cases x <;> simp [Fk.word, hx]
/-- a line tells what it was made of -/
theorem readOne_line {E : Ev} (h : E.Ok) {w : List UInt8} {fs : List Fk} (hf : formL E.kind = some (w, fs)) : readOne E.kind (lineL E) = some (toldL E) := by
  have hs : splitP 32 (lineL E) = w :: fs.map (·.word E) := by
    unfold lineL
    rw [hf]
    refine split_join _ (by simp) ?_
    intro x hx
    rcases List.mem_cons.1 hx with rfl | hx
    · exact (form_noBlank hf).1
    · obtain ⟨y, _, rfl⟩ := List.mem_map.1 hx
      exact word_noBlank E y
  have hft : fits E.kind (splitP 32 (lineL E)) = some fs := by
    unfold fits
    rw [hf, hs]
    simp
  unfold readOne
  rw [hft]
  simp only [hs, List.tail_cons, readFs_line h hf, told_line, and_self, if_true]
theorem readOne_form {k : Int} {s : List UInt8} {E : Ev} (h : readOne k s = some E) : ∃ w fs, formL k = some (w, fs) ∧ (splitP 32 s)[0]? = some w ∧ fs.length + 1 = (splitP 32 s).length ∧ (readFs fs (splitP 32 s).tail (zeroEv k) true).1 = E ∧ lineL E = s := by
  unfold readOne fits at h
  cases hf : formL k with
  | none => rw [hf] at h; cases h
  | some p =>
    obtain ⟨w, fs⟩ := p
    rw [hf] at h
    simp only at h
    by_cases hc : (splitP 32 s)[0]? = some w ∧ fs.length + 1 = (splitP 32 s).length
    · rw [if_pos hc] at h
      simp only at h
      split at h
      · rename_i h2
        cases h
        exact ⟨w, fs, rfl, hc.1, hc.2, rfl, h2.2⟩
      · cases h
    · rw [if_neg hc] at h
      cases h
theorem readOne_kind {k : Int} {s : List UInt8} {E : Ev} (h : readOne k s = some E) : E.kind = k := by
  obtain ⟨w, fs, _, _, _, rfl, _⟩ := readOne_form h
  exact readFs_kind _ _ _ _
theorem readOne_one {k k' : Int} {s : List UInt8} {E E' : Ev} (h : readOne k s = some E) (h' : readOne k' s = some E') : k = k' ∧ E = E' := by
  obtain ⟨w, fs, hf, h0, _⟩ := readOne_form h
  obtain ⟨w', fs', hf', h0', _⟩ := readOne_form h'
  have : w = w' := by rw [h0] at h0'; exact Option.some.inj h0'
  subst this
  have hk := form_one hf hf'
  subst hk
  rw [h] at h'
  exact ⟨rfl, Option.some.inj h'⟩
/-- what is read has nothing else in it -/
theorem readOne_told {k : Int} {s : List UInt8} {E : Ev} (h : readOne k s = some E) : toldL E = E := by
  obtain ⟨w, fs, hf, _, hlen, rfl, _⟩ := readOne_form h
  generalize hss : (splitP 32 s).tail = ss
  have hl : fs.length = ss.length := by rw [← hss, List.length_tail]; omega
  clear hss hlen h
  unfold toldL
  rw [readFs_kind, show (zeroEv k).kind = k from rfl, hf]
  rcases formL_some hf with rfl | rfl | rfl | rfl | rfl | rfl | rfl | rfl | rfl
  all_goals
    cases hf
    simp only [List.length_cons, List.length_nil] at hl
  · obtain ⟨a, b, c, d, e, f, rfl⟩ : ∃ a b c d e f, ss = [a, b, c, d, e, f] := by
      match ss, hl with
      | [a, b, c, d, e, f], _ => exact ⟨a, b, c, d, e, f, rfl⟩
    simp [readFs, Fk.read, zeroEv]
  · obtain ⟨a, rfl⟩ : ∃ a, ss = [a] := by
      match ss, hl with
      | [a], _ => exact ⟨a, rfl⟩
    simp [readFs, Fk.read, zeroEv]
  · obtain ⟨a, b, rfl⟩ : ∃ a b, ss = [a, b] := by
      match ss, hl with
      | [a, b], _ => exact ⟨a, b, rfl⟩
    simp [readFs, Fk.read, zeroEv]
  · obtain ⟨a, rfl⟩ : ∃ a, ss = [a] := by
      match ss, hl with
      | [a], _ => exact ⟨a, rfl⟩
    simp [readFs, Fk.read, zeroEv]
  · obtain ⟨a, b, c, d, e, rfl⟩ : ∃ a b c d e, ss = [a, b, c, d, e] := by
      match ss, hl with
      | [a, b, c, d, e], _ => exact ⟨a, b, c, d, e, rfl⟩
    simp [readFs, Fk.read, zeroEv]
  · obtain ⟨a, b, c, rfl⟩ : ∃ a b c, ss = [a, b, c] := by
      match ss, hl with
      | [a, b, c], _ => exact ⟨a, b, c, rfl⟩
    simp [readFs, Fk.read, zeroEv]
  · obtain ⟨a, b, c, rfl⟩ : ∃ a b c, ss = [a, b, c] := by
      match ss, hl with
      | [a, b, c], _ => exact ⟨a, b, c, rfl⟩
    simp [readFs, Fk.read, zeroEv]
  · obtain ⟨a, b, rfl⟩ : ∃ a b, ss = [a, b] := by
      match ss, hl with
      | [a, b], _ => exact ⟨a, b, rfl⟩
    simp [readFs, Fk.read, zeroEv]
  · obtain ⟨a, b, rfl⟩ : ∃ a b, ss = [a, b] := by
      match ss, hl with
      | [a, b], _ => exact ⟨a, b, rfl⟩
    simp [readFs, Fk.read, zeroEv]
/-- a kind without a form tells nothing, and its line is none's -/
theorem readOne_mark (k : Int) : readOne k [63] = none := by
  cases h : readOne k [63] with
  | none => rfl
  | some E =>
    obtain ⟨w, fs, hf, h0, _⟩ := readOne_form h
    have h1 : w = [63] := by
      have : some w = some [63] := h0.symm.trans (by decide)
      exact Option.some.inj this
    exact absurd h1 (form_noBlank hf).2.2
theorem readOne_no {k : Int} (h : formL k = none) (s : List UInt8) : readOne k s = none := by
  unfold readOne fits
  rw [h]
/-- a line that is read is no mark -/
theorem line_ne {E : Ev} {w : List UInt8} {fs : List Fk} (h : formL E.kind = some (w, fs)) : lineL E ≠ [63] := by
  unfold lineL
  rw [h]
  intro e
  have hn := form_noBlank h
  simp only [joinW] at e
  cases w with
  | nil => exact hn.2.1 rfl
  | cons c r =>
    rw [List.cons_append, List.cons.injEq] at e
    have : r = [] := (List.append_eq_nil_iff.1 e.2).1
    subst this
    exact hn.2.2 (by rw [e.1])

end Go.Proofs.YtleolfpgiaimfaaDoor
