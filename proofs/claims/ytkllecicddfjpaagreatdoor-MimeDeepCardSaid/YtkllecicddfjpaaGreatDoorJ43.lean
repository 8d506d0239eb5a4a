/- pack's address and part; mime's Write. · mime's Write; the mail of an envelope, plain; the program's mail of an envelope's part. · letter.Read, told whole; a mail that was written is read as itself. -/
import Derived.Test.YtkllecicddfjpaaGreatDoorJ41
import Derived.Test.YtkllecicddfjpaaGreatDoorJ42
import Derived.Test.YtkllecicddfjpaaGreatDoorJ12
namespace Go.Proofs.YtkllecicddfjpaaGreatDoor
set_option linter.unusedVariables false
set_option linter.unusedSimpArgs false
open Go.RowKit

theorem addrP_err' {l : List UInt8} {k : Nat} (h : Tk.addrP l = .error k) : k = 3 ∨ k = 5 := by
  unfold Tk.addrP at h
  cases hb : Tk.bareP l with
  | error e =>
    rw [hb] at h
    cases h
    exact Tk.bareP_err _ _ _ (Nat.le_refl _) hb
  | ok b =>
    rw [hb] at h
    simp only at h
    split at h
    · cases h; exact .inl rfl
    · unfold Tk.addrAt at h
      split at h
      · cases h; exact .inl rfl
      · split at h
        · cases h
        · cases h; exact .inl rfl
set_option maxHeartbeats 1000000 in
theorem address_any (l : List UInt8) (w : World) (hM : Tk.Mx w) (hl : l.length ≤ 1000000) :
    Calls Tryz.prog 51 #[.string (bs l)] w fun e w' => e = .returned (.bool (adB l)) ∧ Below w.heap.size w w' := by
  have ha := Tk.addr_any l w hM hl
  cases hp : Tk.addrP l with
  | error k =>
    rw [hp] at ha
    have hk : ((k : Int) == 0) = false := by
      rw [beq_eq_false_iff_ne]
      have := addrP_err' hp
      omega
    have HA := Lib.hid (show adB l = false by unfold adB; rw [hp])
    have ha' : Calls Tryz.prog 86 #[.string (bs l)] w fun e w' => e = .returned (.tuple #[.string (bs []), .int .i64 (k : Int)]) ∧ Below w.heap.size w w' := ha
    clear ha hp
    go_enter Tryz.func51, Tryz.ntmps51
    go_wp2_with fail
    refine ha'.mono ?_
    rintro e w1 ⟨rfl, hb1⟩
    go_wp2_with fail
    go_ret
    exact ⟨ret_bool HA.out.symm, hb1⟩
  | ok a =>
    rw [hp] at ha
    obtain ⟨z, hz⟩ : ∃ z, (a == l) = z := ⟨_, rfl⟩
    have HA := Lib.hid (show adB l = z by unfold adB; rw [hp]; exact hz)
    have ha' : Calls Tryz.prog 86 #[.string (bs l)] w fun e w' => e = .returned (.tuple #[.string (bs a), .int .i64 0]) ∧ Below w.heap.size w w' := ha
    clear ha hp
    go_enter Tryz.func51, Tryz.ntmps51
    go_wp2_with fail
    refine ha'.mono ?_
    rintro e w1 ⟨rfl, hb1⟩
    go_wp2_with fail
    go_ret
    exact ⟨ret_bool HA.out.symm, hb1⟩

abbrev textN : List UInt8 := [116, 101, 120, 116, 47, 112, 108, 97, 105, 110]
abbrev sealN : List UInt8 := [109, 117, 108, 116, 105, 112, 97, 114, 116, 47, 101, 110, 99, 114, 121, 112, 116, 101, 100]
abbrev oursN : List UInt8 := [97, 112, 112, 108, 105, 99, 97, 116, 105, 111, 110, 47, 120, 45, 100, 101, 115, 112, 97, 116, 99, 104]
abbrev octN : List UInt8 := [97, 112, 112, 108, 105, 99, 97, 116, 105, 111, 110, 47, 111, 99, 116, 101, 116, 45, 115, 116, 114, 101, 97, 109]
abbrev verB : List UInt8 := [86, 101, 114, 115, 105, 111, 110, 58, 32, 49]
abbrev bordN : List UInt8 := [100, 101, 115, 112, 97, 116, 99, 104, 45, 112, 97, 114, 116]
abbrev protN : List UInt8 := [112, 114, 111, 116, 111, 99, 111, 108]
/-- the parameters of a sealed envelope's part -/
abbrev prms : List (List UInt8 × List UInt8) := [(bdN, bordN), (protN, oursN)]
/-- its two parts -/
abbrev pv1 (r : Nat) : Pv := ⟨oursN, none, 0, 0, 0, some ⟨r, 0, none⟩, 10, 10, none, 0, 0⟩
abbrev pv2 (B : Option Addr) (n c : Nat) : Pv := ⟨octN, none, 0, 0, 1, B, n, c, none, 0, 0⟩
/-- the part of an envelope -/
def PartOut (x : En) (B : Option Addr) (cb : Nat) (w w' : World) (e : Ending) : Prop :=
  (x.plain = true ∧ e = .returned (.agg #[.string (bs textN), .slice none 0 0, .int .i64 1, .slice B x.cip.length cb, .slice none 0 0])) ∨
  (x.plain = false ∧ ∃ p q r : Nat, e = .returned (.agg #[.string (bs sealN), .slice (some ⟨p, 0, none⟩) 2 2, .int .i64 0, .slice none 0 0, .slice (some ⟨q, 0, none⟩) 2 2]) ∧
    Rv w' (some ⟨p, 0, none⟩) (Tk.pcells prms) ∧ Rv w' (some ⟨q, 0, none⟩) (pvs [pv1 r, pv2 B x.cip.length cb]) ∧ Rb w' (some ⟨r, 0, none⟩) verB)

set_option maxRecDepth 100000 in
set_option maxHeartbeats 2000000 in
theorem part_any (x : En) (A : Option Addr) (ca : Nat) (B : Option Addr) (cb : Nat) (w : World) :
    Calls Tryz.prog 53 #[env x A ca B cb] w fun e w' => PartOut x B cb w w' e ∧ Below w.heap.size w w' := by
  obtain ⟨fr, too, id, th, pl, bun, cip⟩ := x
  unfold env
  simp only
  cases pl with
  | true =>
    go_enter Tryz.func53, Tryz.ntmps53
    go_wp2_with fail
    have hB : Below w.heap.size w ((w.alloc (.cells #[.string (bs fr), .string (bs too), .string (bs id), .string (bs th), .bool true, .slice A bun.length ca, .slice B cip.length cb] 24)).alloc (.cells #[.string ⟨#[116, 101, 120, 116, 47, 112, 108, 97, 105, 110]⟩, .slice none 0 0, .int .i64 1, .slice B cip.length cb, .slice none 0 0] 34)) := ((Below.refl _ _).alloc (Nat.le_refl _) _).alloc (by simp) _
    have r := Row.new (w.alloc (.cells #[.string (bs fr), .string (bs too), .string (bs id), .string (bs th), .bool true, .slice A bun.length ca, .slice B cip.length cb] 24)) #[.string ⟨#[116, 101, 120, 116, 47, 112, 108, 97, 105, 110]⟩, .slice none 0 0, .int .i64 1, .slice B cip.length cb, .slice none 0 0] 34
    rw [World.size_alloc] at r
    have e0 := r.cell (j := 0) rfl
    have e1 := r.cell (j := 1) rfl
    have e2 := r.cell (j := 2) rfl
    have e3 := r.cell (j := 3) rfl
    have e4 := r.cell (j := 4) rfl
    exact bodyPost_ret (v := .agg #[.string (bs textN), .slice none 0 0, .int .i64 1, .slice B cip.length cb, .slice none 0 0]) (by simp [results, Tryz.results53, go_sem, e0, e1, e2, e3, e4]; rfl) rfl ⟨.inl ⟨rfl, rfl⟩, hB⟩
  | false =>
    have hcv := Joins.run_convert_bytes_const_at (P := Tryz.prog) (((w.alloc (.cells #[.string (bs fr), .string (bs too), .string (bs id), .string (bs th), .bool false, .slice A bun.length ca, .slice B cip.length cb] 24)).alloc (.cells #[.string ⟨#[]⟩, .slice none 0 0, .int .i64 0, .slice none 0 0, .slice none 0 0] 34)).alloc (.cells #[.string ⟨#[98, 111, 117, 110, 100, 97, 114, 121]⟩, .string ⟨#[100, 101, 115, 112, 97, 116, 99, 104, 45, 112, 97, 114, 116]⟩, .string ⟨#[112, 114, 111, 116, 111, 99, 111, 108]⟩, .string ⟨#[97, 112, 112, 108, 105, 99, 97, 116, 105, 111, 110, 47, 120, 45, 100, 101, 115, 112, 97, 116, 99, 104]⟩] 36)) 22 5 #[.int .u8 86, .int .u8 101, .int .u8 114, .int .u8 115, .int .u8 105, .int .u8 111, .int .u8 110, .int .u8 58, .int .u8 32, .int .u8 49] 10 10 (w.heap.size + 1 + 1 + 1) (by simp) Tryz.underlying22 Tryz.underlying5
    go_enter Tryz.func53, Tryz.ntmps53
    go_wp2_with fail
    have b1 : Below w.heap.size w (w.alloc (.cells #[.string (bs fr), .string (bs too), .string (bs id), .string (bs th), .bool false, .slice A bun.length ca, .slice B cip.length cb] 24)) := (Below.refl _ _).alloc (Nat.le_refl _) _
    obtain ⟨W1, hW1⟩ : ∃ W, (w.alloc (.cells #[.string (bs fr), .string (bs too), .string (bs id), .string (bs th), .bool false, .slice A bun.length ca, .slice B cip.length cb] 24)) = W := ⟨_, rfl⟩
    have s1 : W1.heap.size = w.heap.size + 1 := by rw [← hW1]; simp
    rw [hW1] at b1 ⊢
    have r2 := Row.new W1 #[.string ⟨#[109, 117, 108, 116, 105, 112, 97, 114, 116, 47, 101, 110, 99, 114, 121, 112, 116, 101, 100]⟩, .slice (some ⟨w.heap.size + 1 + 1, 0, none⟩) 2 2, .int .i64 0, .slice none 0 0, .slice (some ⟨w.heap.size + 1 + 1 + 1 + 1, 0, none⟩) 2 2] 34
    have b2 : Below W1.heap.size W1 (W1.alloc (.cells #[.string ⟨#[109, 117, 108, 116, 105, 112, 97, 114, 116, 47, 101, 110, 99, 114, 121, 112, 116, 101, 100]⟩, .slice (some ⟨w.heap.size + 1 + 1, 0, none⟩) 2 2, .int .i64 0, .slice none 0 0, .slice (some ⟨w.heap.size + 1 + 1 + 1 + 1, 0, none⟩) 2 2] 34)) := (Below.refl _ _).alloc (Nat.le_refl _) _
    obtain ⟨W2, hW2⟩ : ∃ W, W1.alloc (.cells #[.string ⟨#[109, 117, 108, 116, 105, 112, 97, 114, 116, 47, 101, 110, 99, 114, 121, 112, 116, 101, 100]⟩, .slice (some ⟨w.heap.size + 1 + 1, 0, none⟩) 2 2, .int .i64 0, .slice none 0 0, .slice (some ⟨w.heap.size + 1 + 1 + 1 + 1, 0, none⟩) 2 2] 34) = W := ⟨_, rfl⟩
    have s2 : W2.heap.size = w.heap.size + 1 + 1 := by rw [← hW2]; simp [s1]
    rw [hW2] at r2 b2 ⊢
    have r3 : Rv (W2.alloc (.cells #[.string ⟨#[98, 111, 117, 110, 100, 97, 114, 121]⟩, .string ⟨#[100, 101, 115, 112, 97, 116, 99, 104, 45, 112, 97, 114, 116]⟩, .string ⟨#[112, 114, 111, 116, 111, 99, 111, 108]⟩, .string ⟨#[97, 112, 112, 108, 105, 99, 97, 116, 105, 111, 110, 47, 120, 45, 100, 101, 115, 112, 97, 116, 99, 104]⟩] 36)) (some ⟨W2.heap.size, 0, none⟩) (Tk.pcells prms) := Rv_new W2 _ _ _ rfl
    have b3 : Below W2.heap.size W2 (W2.alloc (.cells #[.string ⟨#[98, 111, 117, 110, 100, 97, 114, 121]⟩, .string ⟨#[100, 101, 115, 112, 97, 116, 99, 104, 45, 112, 97, 114, 116]⟩, .string ⟨#[112, 114, 111, 116, 111, 99, 111, 108]⟩, .string ⟨#[97, 112, 112, 108, 105, 99, 97, 116, 105, 111, 110, 47, 120, 45, 100, 101, 115, 112, 97, 116, 99, 104]⟩] 36)) := (Below.refl _ _).alloc (Nat.le_refl _) _
    obtain ⟨W3, hW3⟩ : ∃ W, W2.alloc (.cells #[.string ⟨#[98, 111, 117, 110, 100, 97, 114, 121]⟩, .string ⟨#[100, 101, 115, 112, 97, 116, 99, 104, 45, 112, 97, 114, 116]⟩, .string ⟨#[112, 114, 111, 116, 111, 99, 111, 108]⟩, .string ⟨#[97, 112, 112, 108, 105, 99, 97, 116, 105, 111, 110, 47, 120, 45, 100, 101, 115, 112, 97, 116, 99, 104]⟩] 36) = W := ⟨_, rfl⟩
    have s3 : W3.heap.size = w.heap.size + 1 + 1 + 1 := by rw [← hW3]; simp [s2]
    rw [hW3] at r3 b3 ⊢
    have r4 : Rb (W3.alloc (.cells #[.int .u8 86, .int .u8 101, .int .u8 114, .int .u8 115, .int .u8 105, .int .u8 111, .int .u8 110, .int .u8 58, .int .u8 32, .int .u8 49] 5 (10, 11))) (some ⟨W3.heap.size, 0, none⟩) verB := Rb_new W3 verB _ _ rfl 10 (10, 11)
    have b4 : Below W3.heap.size W3 (W3.alloc (.cells #[.int .u8 86, .int .u8 101, .int .u8 114, .int .u8 115, .int .u8 105, .int .u8 111, .int .u8 110, .int .u8 58, .int .u8 32, .int .u8 49] 5 (10, 11))) := (Below.refl _ _).alloc (Nat.le_refl _) _
    obtain ⟨W4, hW4⟩ : ∃ W, W3.alloc (.cells #[.int .u8 86, .int .u8 101, .int .u8 114, .int .u8 115, .int .u8 105, .int .u8 111, .int .u8 110, .int .u8 58, .int .u8 32, .int .u8 49] 5 (10, 11)) = W := ⟨_, rfl⟩
    have s4 : W4.heap.size = w.heap.size + 1 + 1 + 1 + 1 := by rw [← hW4]; simp [s3]
    rw [hW4] at r4 b4 ⊢
    have r5 : Rv (W4.alloc (.cells #[.string ⟨#[97, 112, 112, 108, 105, 99, 97, 116, 105, 111, 110, 47, 120, 45, 100, 101, 115, 112, 97, 116, 99, 104]⟩, .slice none 0 0, .int .i64 0, .slice (some ⟨w.heap.size + 1 + 1 + 1, 0, none⟩) 10 10, .slice none 0 0, .string ⟨#[97, 112, 112, 108, 105, 99, 97, 116, 105, 111, 110, 47, 111, 99, 116, 101, 116, 45, 115, 116, 114, 101, 97, 109]⟩, .slice none 0 0, .int .i64 1, .slice B cip.length cb, .slice none 0 0] 34)) (some ⟨W4.heap.size, 0, none⟩) (pvs [pv1 (w.heap.size + 1 + 1 + 1), pv2 B cip.length cb]) := Rv_new W4 _ _ _ rfl
    have b5 : Below W4.heap.size W4 (W4.alloc (.cells #[.string ⟨#[97, 112, 112, 108, 105, 99, 97, 116, 105, 111, 110, 47, 120, 45, 100, 101, 115, 112, 97, 116, 99, 104]⟩, .slice none 0 0, .int .i64 0, .slice (some ⟨w.heap.size + 1 + 1 + 1, 0, none⟩) 10 10, .slice none 0 0, .string ⟨#[97, 112, 112, 108, 105, 99, 97, 116, 105, 111, 110, 47, 111, 99, 116, 101, 116, 45, 115, 116, 114, 101, 97, 109]⟩, .slice none 0 0, .int .i64 1, .slice B cip.length cb, .slice none 0 0] 34)) := (Below.refl _ _).alloc (Nat.le_refl _) _
    obtain ⟨W5, hW5⟩ : ∃ W, W4.alloc (.cells #[.string ⟨#[97, 112, 112, 108, 105, 99, 97, 116, 105, 111, 110, 47, 120, 45, 100, 101, 115, 112, 97, 116, 99, 104]⟩, .slice none 0 0, .int .i64 0, .slice (some ⟨w.heap.size + 1 + 1 + 1, 0, none⟩) 10 10, .slice none 0 0, .string ⟨#[97, 112, 112, 108, 105, 99, 97, 116, 105, 111, 110, 47, 111, 99, 116, 101, 116, 45, 115, 116, 114, 101, 97, 109]⟩, .slice none 0 0, .int .i64 1, .slice B cip.length cb, .slice none 0 0] 34) = W := ⟨_, rfl⟩
    rw [hW5] at r5 b5 ⊢
    have r := ((r2.below b3).below b4).below b5
    rw [s1] at r
    have h3 := (r3.below b4).below b5
    have h4 := r4.below b5
    rw [s2] at h3
    rw [s3] at h4
    rw [s4] at r5
    have hB : Below w.heap.size w W5 := ((((b1.trans (b2.mono (by omega))).trans (b3.mono (by omega))).trans (b4.mono (by omega))).trans (b5.mono (by omega)))
    clear hW1 hW2 hW3 hW4 hW5
    have e0 := r.cell (j := 0) rfl
    have e1 := r.cell (j := 1) rfl
    have e2 := r.cell (j := 2) rfl
    have e3 := r.cell (j := 3) rfl
    have e4 := r.cell (j := 4) rfl
    exact bodyPost_ret (v := .agg #[.string (bs sealN), .slice (some ⟨w.heap.size + 1 + 1, 0, none⟩) 2 2, .int .i64 0, .slice none 0 0, .slice (some ⟨w.heap.size + 1 + 1 + 1 + 1, 0, none⟩) 2 2]) (by simp [results, Tryz.results53, go_sem, e0, e1, e2, e3, e4]; rfl) rfl ⟨.inr ⟨rfl, _, _, w.heap.size + 1 + 1 + 1, rfl, h3, r5, h4⟩, hB⟩
end Go.Proofs.YtkllecicddfjpaaGreatDoor

namespace Go.Proofs.YtkllecicddfjpaaGreatDoor
set_option linter.unusedVariables false
set_option linter.unusedSimpArgs false
open Go.RowKit

/-- what reads so lies in no block whose cells are others -/
theorem Rv_not {w : World} {g : Nat} {t : TypeId} {cs xs : List Value} {A : Option Addr} (hr : Row w g t cs) (h : Rv w A xs) (hc : ∀ v ∈ cs, ∀ x ∈ xs, v ≠ x) (h0 : 0 < xs.length) : ∀ b o, A = some ⟨b, o, none⟩ → b ≠ g := by
  rintro b o rfl rfl
  obtain ⟨b', o', e, hcl⟩ := h h0
  cases e
  have h1 := hcl 0 xs[0] (List.getElem?_eq_getElem h0)
  rw [Nat.add_zero] at h1
  have h2 : cs[o]? = some xs[0] := by
    by_cases ho : o < cs.length
    · have h3 := hr.cell (j := o) (List.getElem?_eq_getElem ho)
      rw [h3] at h1
      rw [List.getElem?_eq_getElem ho]
      exact h1
    · have h3 : w.heap[b]? = some (.cells cs.toArray t) := hr
      simp only [World.cell?, h3] at h1
      simp at h1
      exact h1
  exact hc _ (List.mem_of_getElem? h2) _ (List.getElem_mem h0) rfl
theorem Rv_setFar {w : World} {g : Nat} {t : TypeId} {cs xs : List Value} {A : Option Addr} (hr : Row w g t cs) (h : Rv w A xs) (hc : ∀ v ∈ cs, ∀ x ∈ xs, v ≠ x) (j : Nat) (u : Value) : Rv (w.setCell ⟨g, j, none⟩ u) A xs := fun hp => by
  obtain ⟨b, o, rfl, hcl⟩ := h hp
  have hne := Rv_not hr h hc hp b o rfl
  exact ⟨b, o, rfl, fun k v hk => (World.cell?_of_block (w := w) (Below.heap_setCell w ⟨g, j, none⟩ u b hne)).trans (hcl k v hk)⟩
/-- a value that is a slice -/
def isSl (v : Value) : Prop := ∃ A n c, v = .slice A n c
theorem sl_fields {cs : List Value} (h : ∀ v ∈ cs, isSl v) (fs : List (List UInt8 × List UInt8)) : ∀ v ∈ cs, ∀ x ∈ Fd.fcells fs, v ≠ x := by
  intro v hv x hx e
  obtain ⟨A, n, c, rfl⟩ := h v hv
  unfold Fd.fcells at hx
  rw [List.mem_flatMap] at hx
  obtain ⟨p, _, hx⟩ := hx
  simp only [List.mem_cons, List.mem_nil_iff, or_false, Fd.strv] at hx
  rcases hx with hx | hx <;> rw [hx] at e <;> cases e
theorem sl_bytes {cs : List Value} (h : ∀ v ∈ cs, isSl v) (l : List UInt8) : ∀ v ∈ cs, ∀ x ∈ l.map bv, v ≠ x := by
  intro v hv x hx e
  obtain ⟨A, n, c, rfl⟩ := h v hv
  rw [List.mem_map] at hx
  obtain ⟨y, _, hx⟩ := hx
  rw [← hx] at e
  cases e

set_option maxRecDepth 100000 in
set_option maxHeartbeats 2000000 in
theorem mwrite_any (v0 v1 v2 v3 v4 : Value) (o : Except Nat Mail) (w : World)
    (H : ∀ W, Below w.heap.size w W → Calls Tryz.prog 31 #[.agg #[v0, v1, v2, v3, v4], .int .i64 0] W fun e W' => WOut o W' e ∧ Below W.heap.size W W') :
    Calls Tryz.prog 14 #[.agg #[v0, v1, v2, v3, v4]] w fun e w' => WOut o w' e ∧ Below w.heap.size w w' := by
  have hB00 : Below w.heap.size w (w.alloc (.cells #[v0, v1, v2, v3, v4] 34)) := (Below.refl _ _).alloc (Nat.le_refl _) _
  have hB0 : Below w.heap.size w ((w.alloc (.cells #[v0, v1, v2, v3, v4] 34)).alloc (.cells #[.slice none 0 0, .slice none 0 0] 39)) := hB00.alloc hB00.size _
  have rl := Row.new (w.alloc (.cells #[v0, v1, v2, v3, v4] 34)) #[.slice none 0 0, .slice none 0 0] 39
  rw [World.size_alloc] at rl
  have hc := H _ hB0
  have hz0 : w.heap.size + 2 ≤ ((w.alloc (.cells #[v0, v1, v2, v3, v4] 34)).alloc (.cells #[.slice none 0 0, .slice none 0 0] 39)).heap.size := by simp
  clear H hB00
  go_enter Tryz.func14, Tryz.ntmps14
  go_wp2_with fail
  generalize ((w.alloc (.cells #[v0, v1, v2, v3, v4] 34)).alloc (.cells #[.slice none 0 0, .slice none 0 0] 39)) = W0 at *
  refine hc.mono ?_
  rintro e w1 ⟨hwo, hb1⟩
  have hB1 := hB0.trans (hb1.mono hB0.size)
  have R := rl.below hb1
  have a0 := R.cell (j := 0) rfl
  have a1 := R.cell (j := 1) rfl
  have f0 := R.frozen 0
  have f1 := R.frozen 1
  have hlo : w.heap.size + 1 < W0.heap.size := by omega
  cases o with
  | error k =>
    simp only [WOut] at hwo
    subst hwo
    go_wp2_with fail
    have rF := (R.set 0 (.slice none 0 0)).set 1 (.slice none 0 0)
    have hBF := (hB1.setCell (p := ⟨w.heap.size + 1, 0, none⟩) (by simp) (.slice none 0 0)).setCell (p := ⟨w.heap.size + 1, 1, none⟩) (by simp) (.slice none 0 0)
    have e0 := rF.cell (j := 0) rfl
    have e1 := rF.cell (j := 1) rfl
    exact bodyPost_ret (v := .tuple #[.agg #[.slice none 0 0, .slice none 0 0], .int .i64 (k : Int)]) (by simp [results, Tryz.results14, go_sem, e0, e1]) rfl ⟨rfl, hBF⟩
  | ok m =>
    obtain ⟨LA, lc, LB, lc2, rfl, hRf, hRb, h2c, h2m, hplB⟩ := hwo
    obtain ⟨fs, bd⟩ := m
    simp only at hRf hRb h2c ⊢
    obtain ⟨nf, hnf⟩ : ∃ x, fs.length = x := ⟨_, rfl⟩
    obtain ⟨nb, hnb⟩ : ∃ x, bd.length = x := ⟨_, rfl⟩
    have HNF := Lib.hid hnf
    have HNB := Lib.hid hnb
    simp only [hnf, hnb] at h2c ⊢
    clear hnf hnb
    go_wp2_with fail
    have s0 : ∀ v ∈ ([.slice none 0 0, .slice none 0 0] : List Value), isSl v := by
      intro v hv
      simp only [List.mem_cons, List.mem_nil_iff, or_false] at hv
      rcases hv with rfl | rfl <;> exact ⟨_, _, _, rfl⟩
    have s1 : ∀ v ∈ (([.slice none 0 0, .slice none 0 0] : List Value).set 0 (.slice LA nf lc)), isSl v := by
      intro v hv
      simp only [List.set_cons_zero, List.mem_cons, List.mem_nil_iff, or_false] at hv
      rcases hv with rfl | rfl <;> exact ⟨_, _, _, rfl⟩
    have R1 := R.set 0 (.slice LA nf lc)
    have hRf1 : Fd.Rf _ LA fs := Rv_setFar R1 (Rv_setFar R hRf (sl_fields s0 fs) 0 (.slice LA nf lc)) (sl_fields s1 fs) 1 (.slice LB nb lc2)
    have hRb1 : Rb _ LB bd := Rv_setFar R1 (Rv_setFar R hRb (sl_bytes s0 bd) 0 (.slice LA nf lc)) (sl_bytes s1 bd) 1 (.slice LB nb lc2)
    have rF := R1.set 1 (.slice LB nb lc2)
    have hBF := (hB1.setCell (p := ⟨w.heap.size + 1, 0, none⟩) (by simp) (.slice LA nf lc)).setCell (p := ⟨w.heap.size + 1, 1, none⟩) (by simp) (.slice LB nb lc2)
    have e0 := rF.cell (j := 0) rfl
    have e1 := rF.cell (j := 1) rfl
    exact bodyPost_ret (v := .tuple #[.agg #[.slice LA nf lc, .slice LB nb lc2], .int .i64 0]) (by simp [results, Tryz.results14, go_sem, e0, e1]) rfl ⟨⟨LA, lc, LB, lc2, by simp only [HNF.out, HNB.out], hRf1, hRb1, by simp only [HNB.out]; exact h2c, h2m, hplB⟩, hBF⟩

/-- an envelope's part as a mail -/
def partW (x : En) : Except Nat Mail := if x.plain then leafW textN [] 1 x.cip else multiW sealN prms [leafW oursN [] 0 verB, leafW octN [] 1 x.cip] 0
theorem leafW_ok {kind : List UInt8} {ms : List (List UInt8 × List UInt8)} {code : Int} {l : List UInt8} {m : Mail} (h : leafW kind ms code l = .ok m) : Fd.writeP m.1 m.2 = .ok (mb m) ∧ m.2 = encB code l := by
  unfold leafW at h
  split at h
  · obtain ⟨rfl, h2⟩ := chkM_ok h
    exact ⟨h2, rfl⟩
  · cases h
theorem writeP_len {fs : List (List UInt8 × List UInt8)} {bd b : List UInt8} (h : Fd.writeP fs bd = .ok b) : b.length ≤ 65536 + bd.length := by
  unfold Fd.writeP at h
  split at h
  · split at h
    · cases h
    · rename_i h2
      cases h
      rw [List.length_append]
      omega
  · cases h
theorem leafW_len {kind : List UInt8} {ms : List (List UInt8 × List UInt8)} {code : Int} {l : List UInt8} {m : Mail} (h : leafW kind ms code l = .ok m) (hl : l.length ≤ 3000) : Fd.writeP m.1 m.2 = .ok (mb m) ∧ (mb m).length ≤ 90000 := by
  obtain ⟨h1, h2⟩ := leafW_ok h
  refine ⟨h1, ?_⟩
  have h3 := writeP_len h1
  have h4 := encB_bound code l
  rw [h2] at h3
  omega
theorem sealed_ok (x : En) (hx : x.cip.length ≤ 3000) : (∀ k, Except.error k ∈ [leafW oursN [] 0 verB, leafW octN [] 1 x.cip] → 1 ≤ k) ∧ ∀ m, .ok m ∈ [leafW oursN [] 0 verB, leafW octN [] 1 x.cip] → Fd.writeP m.1 m.2 = .ok (mb m) ∧ (mb m).length ≤ 90000 := by
  constructor
  · intro k hk
    simp only [List.mem_cons, List.mem_nil_iff, or_false] at hk
    rcases hk with hk | hk
    · exact leafW_err hk.symm
    · exact leafW_err hk.symm
  · intro m hm
    simp only [List.mem_cons, List.mem_nil_iff, or_false] at hm
    rcases hm with hm | hm
    · exact leafW_len hm.symm (by decide)
    · exact leafW_len hm.symm hx
set_option maxRecDepth 100000 in
theorem wpart_any {x : En} {B : Option Addr} {cb : Nat} {w0 w : World} {e : Ending} (h : PartOut x B cb w0 w e) (hG : Gm w) (hx : x.cip.length ≤ 3000) (hB : Rb w B x.cip) (hcb : x.cip.length ≤ cb) :
    ∃ v0 v1 v2 v3 v4, e = .returned (.agg #[v0, v1, v2, v3, v4]) ∧ Calls Tryz.prog 14 #[.agg #[v0, v1, v2, v3, v4]] w fun e w' => WOut (partW x) w' e ∧ Below w.heap.size w w' := by
  rcases h with ⟨hp, rfl⟩ | ⟨hp, p, q, r, rfl, hP, hQ, hR⟩
  · refine ⟨_, _, _, _, _, rfl, mwrite_any _ _ _ _ _ _ w fun W hW => ?_⟩
    have h := wleaf_any textN [] none 0 0 1 B x.cip x.cip.length cb none 0 0 W (hG.below hW) (.inr rfl) (by decide) (by decide) rfl (by omega) (by simp) (Rv.nil _ _) (by simp) rfl (hB.below hW) hcb (fun h => by cases h) (by omega)
    unfold partW
    rw [if_pos hp]
    exact h
  · refine ⟨_, _, _, _, _, rfl, mwrite_any _ _ _ _ _ _ w fun W hW => ?_⟩
    obtain ⟨k1, k2⟩ := sealed_ok x hx
    have h := wmulti_any sealN prms (some ⟨p, 0, none⟩) 2 2 none 0 (some ⟨q, 0, none⟩) 2 2 0 [pv1 r, pv2 B x.cip.length cb] [leafW oursN [] 0 verB, leafW octN [] 1 x.cip] W (hG.below hW) (by decide) (by decide) rfl (by omega) (by decide) (hP.below hW) (by decide) (by decide) rfl rfl (by omega) (hQ.below hW) (by omega)
      (by
        intro j pp o h1 h2 W' hW'
        have hWW := hW.trans (hW'.mono hW.size)
        rcases (by omega : j = 0 ∨ j = 1 ∨ 2 ≤ j) with hj | hj | hj
        · subst hj
          simp at h1 h2
          subst h1 h2
          exact wleaf_any oursN [] none 0 0 0 (some ⟨r, 0, none⟩) verB 10 10 none 0 1 W' (hG.below hWW) (.inl rfl) (by decide) (by decide) rfl (by omega) (by simp) (Rv.nil _ _) (by simp) rfl (hR.below hWW) (by omega) (fun _ => .inr ⟨r, 0, rfl⟩) (by omega)
        · subst hj
          simp at h1 h2
          subst h1 h2
          exact wleaf_any octN [] none 0 0 1 B x.cip x.cip.length cb none 0 1 W' (hG.below hWW) (.inr rfl) (by decide) (by decide) rfl (by omega) (by simp) (Rv.nil _ _) (by simp) rfl (hB.below hWW) hcb (fun h => by cases h) (by omega)
        · have := lt_of_get h1
          simp at this
          omega) k1 k2
    unfold partW
    rw [if_neg (by rw [hp]; decide)]
    exact h
end Go.Proofs.YtkllecicddfjpaaGreatDoor

namespace Go.Proofs.YtkllecicddfjpaaGreatDoor
set_option linter.unusedVariables false
set_option linter.unusedSimpArgs false
open Go.RowKit

theorem headT_all : ∀ (fs : List (List UInt8 × List UInt8)), Fd.rightF fs = true → Fd.HeadT fs (Fd.foldAll fs)
  | [], _ => Fd.HeadT.nil
  | (n, v) :: r, h => by
    unfold Fd.rightF at h
    simp only [List.all_cons, Bool.and_eq_true] at h
    have h1 := Fd.fold_head h.1.1 h.1.2
    have h2 := headT_all r (by unfold Fd.rightF; exact h.2)
    have e : Fd.foldAll ((n, v) :: r) = Fd.foldF n v ++ Fd.foldAll r := rfl
    rw [e]
    exact h1.append h2
/-- what was written is read back -/
theorem read_mb {m : Mail} (h : Fd.writeP m.1 m.2 = .ok (mb m)) : Fd.readGo [] (mb m) = .ok m := by
  have h0 := h
  unfold Fd.writeP at h
  split at h
  · rename_i hr
    split at h
    · cases h
    · rename_i hn
      have e : mb m = Fd.foldAll m.1 ++ Fd.eol true ++ m.2 := by
        have := Except.ok.inj h
        rw [← this]
        rfl
      rw [e, Fd.readGo_head (headT_all m.1 hr) [] true m.2 (by simp; omega)]
      rfl
  · cases h
theorem readGo_code : ∀ (n : Nat) (fs : List (List UInt8 × List UInt8)) (rest : List UInt8) (k : Nat), rest.length ≤ n → Fd.readGo fs rest = .error k → k = 3 ∨ k = 4 := by
  intro n
  induction n with
  | zero =>
    intro fs rest k hl h
    have h0 : rest = [] := List.eq_nil_of_length_eq_zero (by omega)
    subst h0
    rw [Fd.readGo_none (by rfl)] at h
    cases h
    exact .inl rfl
  | succ n ih =>
    intro fs rest k hl h
    cases hc : cutAt 10 rest with
    | none =>
      rw [Fd.readGo_none hc] at h
      cases h
      exact .inl rfl
    | some x =>
      obtain ⟨a, b⟩ := x
      by_cases ha : deCr a = []
      · rw [Fd.readGo_end hc ha] at h
        cases h
      · cases hf : Fd.fieldP fs.length (deCr a) b with
        | error e =>
          rw [Fd.readGo_err hc ha hf] at h
          cases h
          exact Fd.fieldP_code hf
        | ok y =>
          obtain ⟨f, b'⟩ := y
          rw [Fd.readGo_ok hc ha hf] at h
          have h1 := Fd.cutAt_lt hc
          have h2 := Fd.fieldP_rest hf
          exact ih _ _ _ (by omega) h

set_option maxRecDepth 100000 in
set_option maxHeartbeats 2000000 in
theorem lread_any (A : Option Addr) (l : List UInt8) (n c : Nat) (w : World) (hn : l.length = n) (hA : Rb w A l) (hnc : n ≤ c) (hpl : Pl A c) (hb : n ≤ 65536) :
    Calls Tryz.prog 20 #[.slice A n c] w fun e w' => WOut (Fd.readGo [] l) w' e ∧ Below w.heap.size w w' := by
  have HN := Lib.hid hn
  have hB0 : Below w.heap.size w (w.alloc (.cells #[.slice none 0 0, .slice none 0 0] 39)) := (Below.refl _ _).alloc (Nat.le_refl _) _
  have rl := Row.new w #[.slice none 0 0, .slice none 0 0] 39
  have hz0 : w.heap.size + 1 ≤ (w.alloc (.cells #[.slice none 0 0, .slice none 0 0] 39)).heap.size := by simp
  have hrd := Fd.read_any A l n c (w.alloc (.cells #[.slice none 0 0, .slice none 0 0] 39)) hn (hA.below hB0) hnc hpl hb
  have t1 : ¬ (2097152 < (n : Int)) := by omega
  clear hn
  go_enter Tryz.func20, Tryz.ntmps20
  go_wp2_with fail
  generalize w.alloc (.cells #[.slice none 0 0, .slice none 0 0] 39) = W0 at *
  refine hrd.mono ?_
  rintro e w1 ⟨hro, hb1⟩
  have hB1 := hB0.trans (hb1.mono hB0.size)
  have R := rl.below hb1
  have a0 := R.cell (j := 0) rfl
  have a1 := R.cell (j := 1) rfl
  have f0 := R.frozen 0
  have f1 := R.frozen 1
  clear rl hb1 hrd
  cases hr : Fd.readGo [] l with
  | error k =>
    rw [hr] at hro
    simp only at hro
    subst hro
    have HR := Lib.hid hr
    clear hr
    go_wp2_with fail
    have rF := (((R.set 0 (.slice none 0 0)).set 1 (.slice none 0 0)).set 0 (.slice none 0 0)).set 1 (.slice none 0 0)
    have hBF := (((hB1.setCell (p := ⟨w.heap.size, 0, none⟩) (Nat.le_refl _) (.slice none 0 0)).setCell (p := ⟨w.heap.size, 1, none⟩) (Nat.le_refl _) (.slice none 0 0)).setCell (p := ⟨w.heap.size, 0, none⟩) (Nat.le_refl _) (.slice none 0 0)).setCell (p := ⟨w.heap.size, 1, none⟩) (Nat.le_refl _) (.slice none 0 0)
    have e0 := rF.cell (j := 0) rfl
    have e1 := rF.cell (j := 1) rfl
    exact bodyPost_ret (v := .tuple #[.agg #[.slice none 0 0, .slice none 0 0], .int .i64 (k : Int)]) (by simp [results, Tryz.results20, go_sem, e0, e1]) rfl ⟨wout_err HR.out rfl, hBF⟩
  | ok m =>
    obtain ⟨fs, bd⟩ := m
    rw [hr] at hro
    obtain ⟨fv, v2, rfl, hF, hD⟩ := hro
    obtain ⟨nf, hnf⟩ : ∃ x, fs.length = x := ⟨_, rfl⟩
    obtain ⟨nb, hnb⟩ : ∃ x, bd.length = x := ⟨_, rfl⟩
    have HNF := Lib.hid hnf
    have HNB := Lib.hid hnb
    rw [hnf] at hF
    rw [hnb] at hD
    obtain ⟨FA, fc, rfl, _, _, _, _⟩ := own_form hF
    obtain ⟨DA, dc, rfl, _, _, _, _⟩ := own_form hD
    have HR := Lib.hid hr
    clear hr hnf hnb
    go_wp2_with fail
    have rF := (((R.set 0 (.slice FA nf fc)).set 1 (.slice DA nb dc)).set 0 (.slice FA nf fc)).set 1 (.slice DA nb dc)
    have hBF := (((hB1.setCell (p := ⟨w.heap.size, 0, none⟩) (Nat.le_refl _) (.slice FA nf fc)).setCell (p := ⟨w.heap.size, 1, none⟩) (Nat.le_refl _) (.slice DA nb dc)).setCell (p := ⟨w.heap.size, 0, none⟩) (Nat.le_refl _) (.slice FA nf fc)).setCell (p := ⟨w.heap.size, 1, none⟩) (Nat.le_refl _) (.slice DA nb dc)
    have hFF := ownsRow_setCell_below (ownsRow_setCell_below (ownsRow_setCell_below (ownsRow_setCell_below hF (a := ⟨w.heap.size, 0, none⟩) (by simp; omega) (.slice FA nf fc)) (a := ⟨w.heap.size, 1, none⟩) (by simp; omega) (.slice DA nb dc)) (a := ⟨w.heap.size, 0, none⟩) (by simp; omega) (.slice FA nf fc)) (a := ⟨w.heap.size, 1, none⟩) (by simp; omega) (.slice DA nb dc)
    have hDF := ownsRow_setCell_below (ownsRow_setCell_below (ownsRow_setCell_below (ownsRow_setCell_below hD (a := ⟨w.heap.size, 0, none⟩) (by simp; omega) (.slice FA nf fc)) (a := ⟨w.heap.size, 1, none⟩) (by simp; omega) (.slice DA nb dc)) (a := ⟨w.heap.size, 0, none⟩) (by simp; omega) (.slice FA nf fc)) (a := ⟨w.heap.size, 1, none⟩) (by simp; omega) (.slice DA nb dc)
    have e0 := rF.cell (j := 0) rfl
    have e1 := rF.cell (j := 1) rfl
    refine bodyPost_ret (v := .tuple #[.agg #[.slice FA nf fc, .slice DA nb dc], .int .i64 0]) (by simp [results, Tryz.results20, go_sem, e0, e1]) rfl ⟨?_, hBF⟩
    rw [HR.out]
    obtain ⟨g1, g2, g3⟩ := own_rv hDF
    exact ⟨FA, fc, DA, dc, by simp only [HNF.out, HNB.out], (own_rv hFF).1, g1, by simp only [HNB.out]; exact g2, g3, Pl_own hDF⟩
end Go.Proofs.YtkllecicddfjpaaGreatDoor
