/- The talk's Post: command. -/
import Derived.Test.YtddjabjloplhiaaGreatDoorY4
namespace Go.Proofs.YtddjabjloplhiaaGreatDoor
set_option linter.unusedVariables false
set_option linter.unusedSimpArgs false
open Go.RowKit

/-- where a talk stands, and what it has of the mail -/
structure Ps where
  st : Nat
  frm : List UInt8
  tos : List (List UInt8)
def okayB : List UInt8 := [50, 53, 48, 32, 111, 107]
def byeB : List UInt8 := [50, 50, 49, 32, 98, 121, 101]
def manyB : List UInt8 := [52, 53, 50, 32, 109, 97, 110, 121]
def whatB : List UInt8 := [53, 48, 48, 32, 119, 104, 97, 116]
def formB : List UInt8 := [53, 48, 49, 32, 102, 111, 114, 109]
def lateB : List UInt8 := [53, 48, 51, 32, 111, 114, 100, 101, 114]
def dataB : List UInt8 := [51, 53, 52, 32, 103, 111]
def mailW : List UInt8 := [77, 65, 73, 76, 32, 70, 82, 79, 77, 58]
def rcptW : List UInt8 := [82, 67, 80, 84, 32, 84, 79, 58]
def heloW : List UInt8 := [72, 69, 76, 79]
def quitW : List UInt8 := [81, 85, 73, 84]
def rsetW : List UInt8 := [82, 83, 69, 84]
def dataW : List UInt8 := [68, 65, 84, 65]
/-- a line that is none of the words with something behind -/
def cmd2 (s : Ps) (line : List UInt8) : List UInt8 × Ps := match aft line quitW with
  | some r => if r = [] then (byeB, ⟨5, [], []⟩) else (formB, s)
  | none => match aft line rsetW with
    | some r => if r = [] then (okayB, ⟨min s.st 1, [], []⟩) else (formB, s)
    | none => match aft line dataW with
      | some r => if r = [] then (if s.st = 3 then (dataB, ⟨4, s.frm, s.tos⟩) else (lateB, s)) else (formB, s)
      | none => (whatB, s)
/-- a command: the answer, and the state behind it -/
def cmd (s : Ps) (line : List UInt8) : List UInt8 × Ps := if 512 < line.length then (whatB, s) else match aft line mailW with
  | some r => if adrOk r then (if s.st = 1 then (okayB, ⟨2, adr r, s.tos⟩) else (lateB, s)) else (formB, s)
  | none => match aft line rcptW with
    | some r => if adrOk r then (if s.st = 2 ∨ s.st = 3 then (if s.tos.length = 10 then (manyB, s) else (okayB, ⟨3, s.frm, s.tos ++ [adr r]⟩)) else (lateB, s)) else (formB, s)
    | none => match aft line heloW with
      | some r => if Lib.hasPrefix r [32] then (okayB, ⟨1, [], []⟩) else (formB, s)
      | none => cmd2 s line

theorem aft_len {l ws r : List UInt8} (h : aft l ws = some r) : r.length ≤ l.length := by
  unfold aft at h
  split at h
  · cases h
    simp
  · cases h
theorem after_some {l ws r : List UInt8} (h : aft l ws = some r) (w : World) (hl : l.length ≤ 1000000) (hws : ws.length ≤ 1000000) :
    Calls Tryz.prog 38 #[.string (bs l), .string (bs ws)] w fun e w' => e = .returned (.tuple #[.string (bs r), .bool true]) ∧ Below w.heap.size w w' := by
  have := after_any l ws w (by omega) (by omega)
  unfold AftOut at this
  rw [h] at this
  exact this
theorem after_none {l ws : List UInt8} (h : aft l ws = none) (w : World) (hl : l.length ≤ 1000000) (hws : ws.length ≤ 1000000) :
    Calls Tryz.prog 38 #[.string (bs l), .string (bs ws)] w fun e w' => e = .returned (.tuple #[.string (bs []), .bool false]) ∧ Below w.heap.size w w' := by
  have := after_any l ws w (by omega) (by omega)
  unfold AftOut at this
  rw [h] at this
  exact this

/-- what command leaves -/
def CmdOut (p base : Nat) (r : List UInt8 × Ps) (lv tv kv : Value) (w : World) (e : Ending) (w' : World) : Prop :=
  e = .returned (.string (bs r.1)) ∧ ∃ tv', Row w' p 52 [.int .i64 r.2.st, if r.2.st = 5 then .slice none 0 0 else lv, .string (bs r.2.frm), tv', .slice none 0 0, kv] ∧
    OwnM w' base 9 1 tv' r.2.tos.length (r.2.tos.map sv) ∧ (tv'.ownBlock = none ∨ tv'.ownBlock = tv.ownBlock ∨ ∃ k, tv'.ownBlock = some k ∧ w.heap.size ≤ k)

theorem cmdOut_same {p base : Nat} {s : Ps} {a : List UInt8} {lv tv kv : Value} {w w' : World} (h5 : s.st ≠ 5) (hr : Row w' p 52 [.int .i64 s.st, lv, .string (bs s.frm), tv, .slice none 0 0, kv])
    (ho : OwnM w' base 9 1 tv s.tos.length (s.tos.map sv)) : CmdOut p base (a, s) lv tv kv w (.returned (.string (bs a))) w' := by
  refine ⟨rfl, tv, ?_, ho, .inr (.inl rfl)⟩
  rw [if_neg h5]
  exact hr
theorem cmdOut_new {p base : Nat} {st : Nat} {a : List UInt8} {lv lv' tv kv : Value} {w w' : World} (hr : Row w' p 52 [.int .i64 st, lv', .string (bs []), .slice none 0 0, .slice none 0 0, kv])
    (hl : lv' = if st = 5 then .slice none 0 0 else lv) : CmdOut p base (a, ⟨st, [], []⟩) lv tv kv w (.returned (.string (bs a))) w' := by
  subst hl
  exact ⟨rfl, .slice none 0 0, hr, OwnM.nil _ _ _ _, .inl rfl⟩

theorem run_store_snd {P : Program} (w : World) (x u v : Value) (e : TypeId) (hv : v.oneCell' = true) :
    (store ⟨w.heap.size, 1, none⟩ v).run P (w.alloc (.cells #[x, u] e)) = .ok () (w.alloc (.cells #[x, v] e)) := by
  have hc : (w.alloc (.cells #[x, u] e)).cell? ⟨w.heap.size, 1, none⟩ = some u := (Row.new w #[x, u] e).cell (j := 1) rfl
  have hf : (w.alloc (.cells #[x, u] e)).frozen? ⟨w.heap.size, 1, none⟩ = false := (Row.new w #[x, u] e).frozen 1
  rw [run_store P _ _ v _ hv, hc]
  simp [hf, World.setCell_alloc_at]

set_option maxRecDepth 100000 in
set_option maxHeartbeats 4000000 in
theorem command_any (p base : Nat) (s : Ps) (line : List UInt8) (lv tv kv : Value) (w : World) (hw : Mx w) (hl : line.length ≤ 1000000) (h : Row w p 52 [.int .i64 s.st, lv, .string (bs s.frm), tv, .slice none 0 0, kv])
    (hown : OwnM w base 9 1 tv s.tos.length (s.tos.map sv)) (hpb : tv.ownBlock ≠ some p) (hbase : base ≤ w.heap.size) (htl : s.tos.length ≤ 1000) (h5 : s.st ≠ 5) :
    Calls Tryz.prog 24 #[.pointer (some ⟨p, 0, none⟩), .string (bs line)] w fun e w' => CmdOut p base (cmd s line) lv tv kv w e w' ∧ Ext (fun k => k = p ∨ tv.ownBlock = some k) w w' := by
  have H := Lib.hid h
  have HO := Lib.hid hown
  have HPB := Lib.hid hpb
  clear h hown hpb
  by_cases h512 : 512 < line.length
  · have HC : Hid (cmd s line = (whatB, s)) := Lib.hid (by unfold cmd; rw [if_pos h512])
    rw [HC.out]
    go_enter Tryz.func24, Tryz.ntmps24
    go_wp2_with fail
    go_ret
    exact ⟨cmdOut_same h5 H.out HO.out, Ext.refl _ _⟩
  have hc1 : cmd s line = match aft line mailW with
    | some r => if adrOk r then (if s.st = 1 then (okayB, ⟨2, adr r, s.tos⟩) else (lateB, s)) else (formB, s)
    | none => match aft line rcptW with
      | some r => if adrOk r then (if s.st = 2 ∨ s.st = 3 then (if s.tos.length = 10 then (manyB, s) else (okayB, ⟨3, s.frm, s.tos ++ [adr r]⟩)) else (lateB, s)) else (formB, s)
      | none => match aft line heloW with
        | some r => if Lib.hasPrefix r [32] then (okayB, ⟨1, [], []⟩) else (formB, s)
        | none => cmd2 s line := by unfold cmd; rw [if_neg h512]
  have H5 := Lib.hid h5
  cases hm : aft line mailW with
  | some r =>
    rw [hm] at hc1
    have hrl := aft_len hm
    have ha : ∀ W, Calls Tryz.prog 38 #[.string (bs line), .string ⟨#[77, 65, 73, 76, 32, 70, 82, 79, 77, 58]⟩] W fun e w' => e = .returned (.tuple #[.string (bs r), .bool true]) ∧ Below W.heap.size W w' := fun W => after_some hm W hl (by decide)
    have HC := Lib.hid hc1
    have hf := fun W hW hRow => from_any p r s.st lv (.string (bs s.frm)) tv (.slice none 0 0) kv W hW (by omega) hRow
    clear hm hc1 h5
    go_enter Tryz.func24, Tryz.ntmps24
    go_wp2_with fail
    refine (ha _).mono ?_
    rintro e w1 ⟨rfl, hb1⟩
    clear ha
    go_wp2_with fail
    refine (hf _ (hw.below hb1) (H.out.below hb1)).mono ?_
    rintro e w2 ⟨ho, hx⟩
    have hO2 := hx.own (HO.out.below hb1) (fun k hk e => HPB.out (e ▸ hk))
    have hx2 : Ext (fun k => k = p ∨ tv.ownBlock = some k) w w2 := (Ext.belowL hb1 hx).mono fun b e => .inl e
    clear hf
    rcases ho with ⟨q, rfl, hr⟩ | ⟨q, h1, rfl, hr⟩ | ⟨q, h1, rfl, hr⟩
    · have HR := Lib.hid hr
      have hc := HC.out
      rw [q] at hc
      have HC2 : Hid (cmd s line = (formB, s)) := Lib.hid (by rw [hc]; rfl)
      clear hc hr
      go_wp2_with fail
      go_ret
      rw [HC2.out]
      exact ⟨cmdOut_same H5.out HR.out hO2, hx2⟩
    · have HR := Lib.hid hr
      have hc := HC.out
      rw [q] at hc
      have HC2 : Hid (cmd s line = (lateB, s)) := Lib.hid (by rw [hc]; simp [h1])
      clear hc hr
      go_wp2_with fail
      go_ret
      rw [HC2.out]
      exact ⟨cmdOut_same H5.out HR.out hO2, hx2⟩
    · have HR := Lib.hid hr
      have hc := HC.out
      rw [q] at hc
      have HC2 : Hid (cmd s line = (okayB, ⟨2, adr r, s.tos⟩)) := Lib.hid (by rw [hc]; simp [h1])
      clear hc hr h1
      go_wp2_with fail
      go_ret
      rw [HC2.out]
      exact ⟨⟨rfl, tv, HR.out, hO2, .inr (.inl rfl)⟩, hx2⟩
  | none =>
    rw [hm] at hc1
    have ha0 : ∀ W, Calls Tryz.prog 38 #[.string (bs line), .string ⟨#[77, 65, 73, 76, 32, 70, 82, 79, 77, 58]⟩] W fun e w' => e = .returned (.tuple #[.string (bs []), .bool false]) ∧ Below W.heap.size W w' := fun W => after_none hm W hl (by decide)
    clear hm h5
    cases hm : aft line rcptW with
    | some r =>
      rw [hm] at hc1
      have hrl := aft_len hm
      have ha : ∀ W, Calls Tryz.prog 38 #[.string (bs line), .string ⟨#[82, 67, 80, 84, 32, 84, 79, 58]⟩] W fun e w' => e = .returned (.tuple #[.string (bs r), .bool true]) ∧ Below W.heap.size W w' := fun W => after_some hm W hl (by decide)
      have HC := Lib.hid hc1
      have hf := fun W hW hRow hOwn hB => to_any p base r s.st lv (.string (bs s.frm)) tv (.slice none 0 0) kv s.tos W hW (by omega) hRow hOwn HPB.out hB htl
      clear hm hc1
      go_enter Tryz.func24, Tryz.ntmps24
      go_wp2_with fail
      refine (ha0 _).mono ?_
      rintro e w0 ⟨rfl, hb0⟩
      clear ha0
      go_wp2_with fail
      refine (ha _).mono ?_
      rintro e w1 ⟨rfl, hb1'⟩
      have hb1 := hb0.trans (hb1'.mono hb0.size)
      clear ha hb0 hb1'
      go_wp2_with fail
      refine (hf _ (hw.below hb1) (H.out.below hb1) (HO.out.below hb1) (by have := hb1.size; omega)).mono ?_
      rintro e w2 ⟨ho, hx⟩
      have hx2 : Ext (fun k => k = p ∨ tv.ownBlock = some k) w w2 := Ext.belowL hb1 hx
      have hsz1 := hb1.size
      clear hf
      unfold ToOut at ho
      rcases ho with ⟨q, rfl, hr, hO2⟩ | ⟨q, h2, h3, rfl, hr, hO2⟩ | ⟨q, h2, h3, rfl, hr, hO2⟩ | ⟨q, h2, h3, rfl, tv', hr, hO2, hbk⟩
      · have HR := Lib.hid hr
        have hc := HC.out
        rw [q] at hc
        have HC2 : Hid (cmd s line = (formB, s)) := Lib.hid (by rw [hc]; rfl)
        clear hc hr
        go_wp2_with fail
        go_ret
        rw [HC2.out]
        exact ⟨cmdOut_same H5.out HR.out hO2, hx2⟩
      · have HR := Lib.hid hr
        have hc := HC.out
        rw [q] at hc
        have HC2 : Hid (cmd s line = (lateB, s)) := Lib.hid (by rw [hc]; simp [h2, h3])
        clear hc hr h2 h3
        go_wp2_with fail
        go_ret
        rw [HC2.out]
        exact ⟨cmdOut_same H5.out HR.out hO2, hx2⟩
      · have HR := Lib.hid hr
        have hc := HC.out
        rw [q] at hc
        have HC2 : Hid (cmd s line = (manyB, s)) := Lib.hid (by rw [hc]; simp [h2, h3])
        clear hc hr h2 h3
        go_wp2_with fail
        go_ret
        rw [HC2.out]
        exact ⟨cmdOut_same H5.out HR.out hO2, hx2⟩
      · have HR := Lib.hid hr
        have HB := Lib.hid hbk
        have hc := HC.out
        rw [q] at hc
        have HC2 : Hid (cmd s line = (okayB, ⟨3, s.frm, s.tos ++ [adr r]⟩)) := Lib.hid (by rw [hc]; simp [h2, h3])
        clear hc hr h2 h3 hbk
        go_wp2_with fail
        go_ret
        rw [HC2.out]
        refine ⟨⟨rfl, tv', HR.out, hO2, ?_⟩, hx2⟩
        rcases HB.out with h | ⟨k, h, hk⟩
        · exact .inr (.inl h)
        · exact .inr (.inr ⟨k, h, by omega⟩)
    | none =>
      rw [hm] at hc1
      have hb0 : ∀ W, Calls Tryz.prog 38 #[.string (bs line), .string ⟨#[82, 67, 80, 84, 32, 84, 79, 58]⟩] W fun e w' => e = .returned (.tuple #[.string (bs []), .bool false]) ∧ Below W.heap.size W w' := fun W => after_none hm W hl (by decide)
      clear hm
      cases hm : aft line heloW with
      | some r =>
        rw [hm] at hc1
        have hrl := aft_len hm
        have ha : ∀ W, Calls Tryz.prog 38 #[.string (bs line), .string ⟨#[72, 69, 76, 79]⟩] W fun e w' => e = .returned (.tuple #[.string (bs r), .bool true]) ∧ Below W.heap.size W w' := fun W => after_some hm W hl (by decide)
        have hp : ∀ W, Calls Tryz.prog 41 #[.string (bs r), .string ⟨#[32]⟩] W fun e w' => e = .returned (.bool (Lib.hasPrefix r [32])) ∧ w' = W := fun W => by
          have h := Tryz.strings_HasPrefix (bs r) ⟨#[32]⟩ W
          rw [bs_toList] at h
          exact h
        have hf := fun W hRow => restart_any p 1 (.int .i64 s.st) lv (.string (bs s.frm)) tv (.slice none 0 0) kv W hRow
        obtain ⟨z, hz⟩ : ∃ z, Lib.hasPrefix r [32] = z := ⟨_, rfl⟩
        rw [hz] at hp
        have hc2 : cmd s line = if z then (okayB, ⟨1, [], []⟩) else (formB, s) := by rw [hc1, ← hz]
        have HC := Lib.hid hc2
        clear hm hc1 hc2 hz
        go_enter Tryz.func24, Tryz.ntmps24
        go_wp2_with fail
        refine (ha0 _).mono ?_
        rintro e w0 ⟨rfl, hb1⟩
        clear ha0
        go_wp2_with fail
        refine (hb0 _).mono ?_
        rintro e w1 ⟨rfl, hb2'⟩
        have hb2 := hb1.trans (hb2'.mono hb1.size)
        clear hb0 hb1 hb2'
        go_wp2_with fail
        refine (ha _).mono ?_
        rintro e w2 ⟨rfl, hb3'⟩
        have hb3 := hb2.trans (hb3'.mono hb2.size)
        clear ha hb2 hb3'
        go_wp2_with fail
        refine (hp _).mono ?_
        rintro e w3 ⟨rfl, rfl⟩
        clear hp
        cases z with
        | false =>
          go_wp2_with fail
          go_ret
          rw [HC.out]
          exact ⟨cmdOut_same H5.out (H.out.below hb3) (HO.out.below hb3), Ext.of_below _ hb3⟩
        | true =>
          go_wp2_with fail
          refine (hf _ (H.out.below hb3)).mono ?_
          rintro e w4 ⟨rfl, hr, hx⟩
          have HR := Lib.hid hr
          have hx2 : Ext (fun k => k = p ∨ tv.ownBlock = some k) w w4 := (Ext.belowL hb3 hx).mono fun b e => .inl e
          clear hf hr
          go_wp2_with fail
          go_ret
          rw [HC.out]
          exact ⟨cmdOut_new HR.out rfl, hx2⟩
      | none =>
        rw [hm] at hc1
        have hd0 : ∀ W, Calls Tryz.prog 38 #[.string (bs line), .string ⟨#[72, 69, 76, 79]⟩] W fun e w' => e = .returned (.tuple #[.string (bs []), .bool false]) ∧ Below W.heap.size W w' := fun W => after_none hm W hl (by decide)
        have HC : Hid (cmd s line = cmd2 s line) := Lib.hid hc1
        clear hm hc1
        rw [HC.out]
        clear HC
        go_enter Tryz.func24, Tryz.ntmps24
        go_wp2_with fail
        refine (ha0 _).mono ?_
        rintro e w0 ⟨rfl, hb1⟩
        clear ha0
        go_wp2_with fail
        refine (hb0 _).mono ?_
        rintro e w1 ⟨rfl, hb2'⟩
        have hb2 := hb1.trans (hb2'.mono hb1.size)
        clear hb0 hb1 hb2'
        go_wp2_with fail
        refine (hd0 _).mono ?_
        rintro e w2 ⟨rfl, hb3'⟩
        have hb3 := hb2.trans (hb3'.mono hb2.size)
        clear hd0 hb2 hb3'
        go_wp2_with fail
        have hal : Below w2.heap.size w2 (w2.alloc (.cells #[.string ⟨#[81, 85, 73, 84]⟩, .func (.func 43) #[.pointer (some ⟨p, 0, none⟩)] #[], .string ⟨#[82, 83, 69, 84]⟩, .func (.func 44) #[.pointer (some ⟨p, 0, none⟩)] #[], .string ⟨#[68, 65, 84, 65]⟩, .func (.func 45) #[.pointer (some ⟨p, 0, none⟩)] #[]] 72)) := (Below.refl _ w2).alloc (Nat.le_refl _) _
        have hrow := Row.new w2 #[.string ⟨#[81, 85, 73, 84]⟩, .func (.func 43) #[.pointer (some ⟨p, 0, none⟩)] #[], .string ⟨#[82, 83, 69, 84]⟩, .func (.func 44) #[.pointer (some ⟨p, 0, none⟩)] #[], .string ⟨#[68, 65, 84, 65]⟩, .func (.func 45) #[.pointer (some ⟨p, 0, none⟩)] #[]] 72
        obtain ⟨wA, hwA⟩ : ∃ wA, w2.alloc (.cells #[.string ⟨#[81, 85, 73, 84]⟩, .func (.func 43) #[.pointer (some ⟨p, 0, none⟩)] #[], .string ⟨#[82, 83, 69, 84]⟩, .func (.func 44) #[.pointer (some ⟨p, 0, none⟩)] #[], .string ⟨#[68, 65, 84, 65]⟩, .func (.func 45) #[.pointer (some ⟨p, 0, none⟩)] #[]] 72) = wA := ⟨_, rfl⟩
        rw [hwA] at hal hrow ⊢
        obtain ⟨g, hg⟩ : ∃ g, w2.heap.size = g := ⟨_, rfl⟩
        have hBA : Below w.heap.size w wA := hb3.trans (hal.mono hb3.size)
        rw [hg] at hrow ⊢
        have HROW := Lib.hid hrow
        clear hal hrow hwA hg hb3
        have hm1 : ∀ x, (512 < line.length) = x → True := fun _ _ => trivial
        go_loopw [12, 13, 14, 58] (fun _ _ _ i wr => (i = .int .i64 0 ∨ (i = .int .i64 1 ∧ Hid (aft line quitW = none)) ∨ (i = .int .i64 2 ∧ Hid (aft line quitW = none ∧ aft line rsetW = none)) ∨ (i = .int .i64 3 ∧ Hid (aft line quitW = none ∧ aft line rsetW = none ∧ aft line dataW = none))) ∧ Below w.heap.size w wr ∧ Below wA.heap.size wA wr) (fun _ _ _ i _ => 3 - (intOf i).toNat)
        case atStart => exact ⟨.inl rfl, hBA, Below.refl _ _⟩
        case round =>
          obtain ⟨hi, hB, hBo⟩ := hrel
          have hR := HROW.out.below hBo
          have c0 := hR.cell (j := 0) rfl
          have c1 := hR.cell (j := 1) rfl
          have c2 := hR.cell (j := 2) rfl
          have c3 := hR.cell (j := 3) rfl
          have c4 := hR.cell (j := 4) rfl
          have c5 := hR.cell (j := 5) rfl
          have hs := hB.size
          have hso := hBo.size
          clear hR hm1 hBA
          rcases hi with rfl | ⟨rfl, hq⟩ | ⟨rfl, hq⟩ | ⟨rfl, hq⟩
          · have hin := fun W => after_any line quitW W (by omega) (by decide)
            unfold AftOut at hin
            obtain ⟨oo, ha⟩ : ∃ oo, aft line quitW = oo := ⟨_, rfl⟩
            cases oo with
            | some r =>
              rw [ha] at hin
              have hin' : ∀ W, Calls Tryz.prog 38 #[.string (bs line), .string ⟨#[81, 85, 73, 84]⟩] W fun e w' => e = .returned (.tuple #[.string (bs r), .bool true]) ∧ Below W.heap.size W w' := hin
              have hcc : cmd2 s line = if r = [] then (byeB, ⟨5, [], []⟩) else (formB, s) := by unfold cmd2; rw [ha]
              have HCC := Lib.hid hcc
              have hf := fun W hRow => quit_any p (.int .i64 s.st) lv (.string (bs s.frm)) tv (.slice none 0 0) kv W hRow
              clear ha hin hcc
              have hbS : Below wr.heap.size wr (wr.alloc (.cells #[.string ⟨#[81, 85, 73, 84]⟩, .func (.func 43) #[.pointer (some ⟨p, 0, none⟩)] #[]] 72)) := (Below.refl _ wr).alloc (Nat.le_refl _) _
              have d0 : (wr.alloc (.cells #[.string ⟨#[81, 85, 73, 84]⟩, .func (.func 43) #[.pointer (some ⟨p, 0, none⟩)] #[]] 72)).cell? ⟨wr.heap.size, 1, none⟩ = some (.func (.func 43) #[.pointer (some ⟨p, 0, none⟩)] #[]) := by simp
              have hsf := run_store_snd (P := Tryz.prog) wr (.string ⟨#[81, 85, 73, 84]⟩) .nilFunc (.func (.func 43) #[.pointer (some ⟨p, 0, none⟩)] #[]) 72 rfl
              have dl : wr.heap.size < (wr.alloc (.cells #[.string ⟨#[81, 85, 73, 84]⟩, .func (.func 43) #[.pointer (some ⟨p, 0, none⟩)] #[]] 72)).heap.size := by simp
              go_wp2_with fail
              refine (hin' _).mono ?_
              rintro e w5 ⟨rfl, hb5⟩
              have d1 := (hb5.cell (p := ⟨wr.heap.size, 1, none⟩) dl).trans d0
              have hb5' : Below wr.heap.size wr w5 := hbS.trans (hb5.mono hbS.size)
              have hB5 : Below w.heap.size w w5 := hB.trans (hb5'.mono hs)
              clear hin' hb5 d0 dl hbS c0 c1 c2 c3 c4 c5
              by_cases hr0 : r = []
              · subst hr0
                have HC2 : Hid (cmd2 s line = (byeB, ⟨5, [], []⟩)) := Lib.hid (by rw [HCC.out]; rfl)
                go_wp2_with fail
                refine (hf _ (H.out.below hB5)).mono ?_
                rintro e w6 ⟨rfl, hr, hx⟩
                have HR := Lib.hid hr
                have hx4' := hx
                have hx4 : Ext (fun k => k = p ∨ tv.ownBlock = some k) w w6 := (Ext.belowL hB5 hx).mono fun b e => .inl e
                clear hf hr hx
                go_wp2_with fail
                go_ret
                rw [HC2.out]
                exact ⟨cmdOut_new HR.out rfl, hx4⟩
              · have HC2 : Hid (cmd2 s line = (formB, s)) := Lib.hid (by rw [HCC.out, if_neg hr0])
                have hre : r.isEmpty = false := by simpa using hr0
                have hre2 : (r == []) = false := by simpa using hr0
                have hre3 : (r != []) = true := by simpa using hr0
                go_wp2_with fail
                go_ret
                rw [HC2.out]
                exact ⟨cmdOut_same H5.out (H.out.below hB5) (HO.out.below hB5), Ext.of_below _ hB5⟩
            | none =>
              rw [ha] at hin
              have hin' : ∀ W, Calls Tryz.prog 38 #[.string (bs line), .string ⟨#[81, 85, 73, 84]⟩] W fun e w' => e = .returned (.tuple #[.string (bs []), .bool false]) ∧ Below W.heap.size W w' := hin
              have HREL := Lib.hid ha
              have hsf := run_store_snd (P := Tryz.prog) wr (.string ⟨#[81, 85, 73, 84]⟩) .nilFunc (.func (.func 43) #[.pointer (some ⟨p, 0, none⟩)] #[]) 72 rfl
              have hbS : Below wr.heap.size wr (wr.alloc (.cells #[.string ⟨#[81, 85, 73, 84]⟩, .func (.func 43) #[.pointer (some ⟨p, 0, none⟩)] #[]] 72)) := (Below.refl _ wr).alloc (Nat.le_refl _) _
              clear ha hin
              go_wp2_with fail
              refine (hin' _).mono ?_
              rintro e w5 ⟨rfl, hb5⟩
              have hb5' : Below wr.heap.size wr w5 := hbS.trans (hb5.mono hbS.size)
              clear hin' c0 c1 c2 c3 c4 c5 hb5 hbS
              go_wp2_with fail
              go_roundw
              case rel =>
                have ha := HREL.out
                exact ⟨.inr (.inl ⟨rfl, Lib.hid ha⟩), hB.trans (hb5'.mono hs), hBo.trans (hb5'.mono hso)⟩
              case measure => simp [intOf]
          · have hin := fun W => after_any line rsetW W (by omega) (by decide)
            unfold AftOut at hin
            obtain ⟨oo, ha⟩ : ∃ oo, aft line rsetW = oo := ⟨_, rfl⟩
            cases oo with
            | some r =>
              rw [ha] at hin
              have hin' : ∀ W, Calls Tryz.prog 38 #[.string (bs line), .string ⟨#[82, 83, 69, 84]⟩] W fun e w' => e = .returned (.tuple #[.string (bs r), .bool true]) ∧ Below W.heap.size W w' := hin
              have hcc : cmd2 s line = if r = [] then (okayB, ⟨min s.st 1, [], []⟩) else (formB, s) := by unfold cmd2; rw [hq.out]; rw [ha]
              have HCC := Lib.hid hcc
              have hf := fun W hRow => reset_any p s.st lv (.string (bs s.frm)) tv (.slice none 0 0) kv W hRow
              clear ha hin hcc
              have hbS : Below wr.heap.size wr (wr.alloc (.cells #[.string ⟨#[82, 83, 69, 84]⟩, .func (.func 44) #[.pointer (some ⟨p, 0, none⟩)] #[]] 72)) := (Below.refl _ wr).alloc (Nat.le_refl _) _
              have d0 : (wr.alloc (.cells #[.string ⟨#[82, 83, 69, 84]⟩, .func (.func 44) #[.pointer (some ⟨p, 0, none⟩)] #[]] 72)).cell? ⟨wr.heap.size, 1, none⟩ = some (.func (.func 44) #[.pointer (some ⟨p, 0, none⟩)] #[]) := by simp
              have hsf := run_store_snd (P := Tryz.prog) wr (.string ⟨#[82, 83, 69, 84]⟩) .nilFunc (.func (.func 44) #[.pointer (some ⟨p, 0, none⟩)] #[]) 72 rfl
              have dl : wr.heap.size < (wr.alloc (.cells #[.string ⟨#[82, 83, 69, 84]⟩, .func (.func 44) #[.pointer (some ⟨p, 0, none⟩)] #[]] 72)).heap.size := by simp
              go_wp2_with fail
              refine (hin' _).mono ?_
              rintro e w5 ⟨rfl, hb5⟩
              have d1 := (hb5.cell (p := ⟨wr.heap.size, 1, none⟩) dl).trans d0
              have hb5' : Below wr.heap.size wr w5 := hbS.trans (hb5.mono hbS.size)
              have hB5 : Below w.heap.size w w5 := hB.trans (hb5'.mono hs)
              clear hin' hb5 d0 dl hbS c0 c1 c2 c3 c4 c5
              by_cases hr0 : r = []
              · subst hr0
                have HC2 : Hid (cmd2 s line = (okayB, ⟨min s.st 1, [], []⟩)) := Lib.hid (by rw [HCC.out]; rfl)
                go_wp2_with fail
                refine (hf _ (H.out.below hB5)).mono ?_
                rintro e w6 ⟨rfl, hr, hx⟩
                have HR := Lib.hid hr
                have hx4' := hx
                have hx4 : Ext (fun k => k = p ∨ tv.ownBlock = some k) w w6 := (Ext.belowL hB5 hx).mono fun b e => .inl e
                clear hf hr hx
                go_wp2_with fail
                go_ret
                rw [HC2.out]
                exact ⟨cmdOut_new HR.out (by rw [if_neg (by omega)]), hx4⟩
              · have HC2 : Hid (cmd2 s line = (formB, s)) := Lib.hid (by rw [HCC.out, if_neg hr0])
                have hre : r.isEmpty = false := by simpa using hr0
                have hre2 : (r == []) = false := by simpa using hr0
                have hre3 : (r != []) = true := by simpa using hr0
                go_wp2_with fail
                go_ret
                rw [HC2.out]
                exact ⟨cmdOut_same H5.out (H.out.below hB5) (HO.out.below hB5), Ext.of_below _ hB5⟩
            | none =>
              rw [ha] at hin
              have hin' : ∀ W, Calls Tryz.prog 38 #[.string (bs line), .string ⟨#[82, 83, 69, 84]⟩] W fun e w' => e = .returned (.tuple #[.string (bs []), .bool false]) ∧ Below W.heap.size W w' := hin
              have HREL := Lib.hid ha
              have hsf := run_store_snd (P := Tryz.prog) wr (.string ⟨#[82, 83, 69, 84]⟩) .nilFunc (.func (.func 44) #[.pointer (some ⟨p, 0, none⟩)] #[]) 72 rfl
              have hbS : Below wr.heap.size wr (wr.alloc (.cells #[.string ⟨#[82, 83, 69, 84]⟩, .func (.func 44) #[.pointer (some ⟨p, 0, none⟩)] #[]] 72)) := (Below.refl _ wr).alloc (Nat.le_refl _) _
              clear ha hin
              go_wp2_with fail
              refine (hin' _).mono ?_
              rintro e w5 ⟨rfl, hb5⟩
              have hb5' : Below wr.heap.size wr w5 := hbS.trans (hb5.mono hbS.size)
              clear hin' c0 c1 c2 c3 c4 c5 hb5 hbS
              go_wp2_with fail
              go_roundw
              case rel =>
                have ha := HREL.out
                exact ⟨.inr (.inr (.inl ⟨rfl, Lib.hid ⟨hq.out, ha⟩⟩)), hB.trans (hb5'.mono hs), hBo.trans (hb5'.mono hso)⟩
              case measure => simp [intOf]
          · have hin := fun W => after_any line dataW W (by omega) (by decide)
            unfold AftOut at hin
            obtain ⟨oo, ha⟩ : ∃ oo, aft line dataW = oo := ⟨_, rfl⟩
            cases oo with
            | some r =>
              rw [ha] at hin
              have hin' : ∀ W, Calls Tryz.prog 38 #[.string (bs line), .string ⟨#[68, 65, 84, 65]⟩] W fun e w' => e = .returned (.tuple #[.string (bs r), .bool true]) ∧ Below W.heap.size W w' := hin
              have hcc : cmd2 s line = if r = [] then (if s.st = 3 then (dataB, ⟨4, s.frm, s.tos⟩) else (lateB, s)) else (formB, s) := by unfold cmd2; rw [hq.out.1]; simp only; rw [hq.out.2]; rw [ha]
              have HCC := Lib.hid hcc
              have hf := fun W hRow => data_any p s.st lv (.string (bs s.frm)) tv (.slice none 0 0) kv W hRow
              clear ha hin hcc
              have hbS : Below wr.heap.size wr (wr.alloc (.cells #[.string ⟨#[68, 65, 84, 65]⟩, .func (.func 45) #[.pointer (some ⟨p, 0, none⟩)] #[]] 72)) := (Below.refl _ wr).alloc (Nat.le_refl _) _
              have d0 : (wr.alloc (.cells #[.string ⟨#[68, 65, 84, 65]⟩, .func (.func 45) #[.pointer (some ⟨p, 0, none⟩)] #[]] 72)).cell? ⟨wr.heap.size, 1, none⟩ = some (.func (.func 45) #[.pointer (some ⟨p, 0, none⟩)] #[]) := by simp
              have hsf := run_store_snd (P := Tryz.prog) wr (.string ⟨#[68, 65, 84, 65]⟩) .nilFunc (.func (.func 45) #[.pointer (some ⟨p, 0, none⟩)] #[]) 72 rfl
              have dl : wr.heap.size < (wr.alloc (.cells #[.string ⟨#[68, 65, 84, 65]⟩, .func (.func 45) #[.pointer (some ⟨p, 0, none⟩)] #[]] 72)).heap.size := by simp
              go_wp2_with fail
              refine (hin' _).mono ?_
              rintro e w5 ⟨rfl, hb5⟩
              have d1 := (hb5.cell (p := ⟨wr.heap.size, 1, none⟩) dl).trans d0
              have hb5' : Below wr.heap.size wr w5 := hbS.trans (hb5.mono hbS.size)
              have hB5 : Below w.heap.size w w5 := hB.trans (hb5'.mono hs)
              clear hin' hb5 d0 dl hbS c0 c1 c2 c3 c4 c5
              by_cases hr0 : r = []
              · subst hr0
                have HC2 : Hid (cmd2 s line = (if s.st = 3 then (dataB, ⟨4, s.frm, s.tos⟩) else (lateB, s))) := Lib.hid (by rw [HCC.out]; rfl)
                obtain ⟨ans, hans⟩ : ∃ a, (if s.st = 3 then [51, 53, 52, 32, 103, 111] else [53, 48, 51, 32, 111, 114, 100, 101, 114] : List UInt8) = a := ⟨_, rfl⟩
                obtain ⟨st', hst⟩ : ∃ a, (if s.st = 3 then 4 else s.st : Nat) = a := ⟨_, rfl⟩
                rw [hans, hst] at hf
                have HANS := Lib.hid hans
                have HST := Lib.hid hst
                clear hans hst
                go_wp2_with fail
                refine (hf _ (H.out.below hB5)).mono ?_
                rintro e w6 ⟨rfl, hr, hx⟩
                have HR := Lib.hid hr
                have hx4' := hx
                have hx4 : Ext (fun k => k = p ∨ tv.ownBlock = some k) w w6 := (Ext.belowL hB5 hx).mono fun b e => .inl e
                clear hf hr hx
                go_wp2_with fail
                go_ret
                rw [HC2.out]
                have hO4 := hx4'.own (HO.out.below hB5) (fun k hk e => HPB.out (e ▸ hk))
                have hans := HANS.out
                have hst := HST.out
                have hr2 := HR.out
                by_cases h3 : s.st = 3
                · rw [if_pos h3] at hans hst ⊢
                  subst hans
                  subst hst
                  exact ⟨⟨rfl, tv, hr2, hO4, .inr (.inl rfl)⟩, hx4⟩
                · rw [if_neg h3] at hans hst ⊢
                  subst hans
                  subst hst
                  exact ⟨cmdOut_same H5.out hr2 hO4, hx4⟩
              · have HC2 : Hid (cmd2 s line = (formB, s)) := Lib.hid (by rw [HCC.out, if_neg hr0])
                have hre : r.isEmpty = false := by simpa using hr0
                have hre2 : (r == []) = false := by simpa using hr0
                have hre3 : (r != []) = true := by simpa using hr0
                go_wp2_with fail
                go_ret
                rw [HC2.out]
                exact ⟨cmdOut_same H5.out (H.out.below hB5) (HO.out.below hB5), Ext.of_below _ hB5⟩
            | none =>
              rw [ha] at hin
              have hin' : ∀ W, Calls Tryz.prog 38 #[.string (bs line), .string ⟨#[68, 65, 84, 65]⟩] W fun e w' => e = .returned (.tuple #[.string (bs []), .bool false]) ∧ Below W.heap.size W w' := hin
              have HREL := Lib.hid ha
              have hsf := run_store_snd (P := Tryz.prog) wr (.string ⟨#[68, 65, 84, 65]⟩) .nilFunc (.func (.func 45) #[.pointer (some ⟨p, 0, none⟩)] #[]) 72 rfl
              have hbS : Below wr.heap.size wr (wr.alloc (.cells #[.string ⟨#[68, 65, 84, 65]⟩, .func (.func 45) #[.pointer (some ⟨p, 0, none⟩)] #[]] 72)) := (Below.refl _ wr).alloc (Nat.le_refl _) _
              clear ha hin
              go_wp2_with fail
              refine (hin' _).mono ?_
              rintro e w5 ⟨rfl, hb5⟩
              have hb5' : Below wr.heap.size wr w5 := hbS.trans (hb5.mono hbS.size)
              clear hin' c0 c1 c2 c3 c4 c5 hb5 hbS
              go_wp2_with fail
              go_roundw
              case rel =>
                have ha := HREL.out
                exact ⟨.inr (.inr (.inr ⟨rfl, Lib.hid ⟨hq.out.1, hq.out.2, ha⟩⟩)), hB.trans (hb5'.mono hs), hBo.trans (hb5'.mono hso)⟩
              case measure => simp [intOf]
          · have HC2 : Hid (cmd2 s line = (whatB, s)) := Lib.hid (by unfold cmd2; rw [hq.out.1]; simp only; rw [hq.out.2.1]; simp only; rw [hq.out.2.2])
            clear c0 c1 c2 c3 c4 c5
            go_wp2_with fail
            go_ret
            rw [HC2.out]
            exact ⟨cmdOut_same H5.out (H.out.below hB) (HO.out.below hB), Ext.of_below _ hB⟩
end Go.Proofs.YtddjabjloplhiaaGreatDoor
