/- bytes.Cut at CR LF, with the place of what is behind; the program's Unstuff. -/
import Derived.Test.YtddjabjloplhiaaGreatDoorZ1
import Derived.Test.YtddjabjloplhiaaGreatDoorSl
namespace Go.Proofs.YtddjabjloplhiaaGreatDoor
set_option linter.unusedVariables false
set_option linter.unusedSimpArgs false
open Go.RowKit

def slLen : Value → Nat | .slice _ n _ => n | _ => 0
theorem list_cases (l : List UInt8) : l = [] ∨ ∃ x r, l = x :: r := by
  cases l with
  | nil => exact .inl rfl
  | cons x r => exact .inr ⟨x, r, rfl⟩
/-- an address that lies below k -/
def InB (A : Option Addr) (k : Nat) : Prop := ∀ a, A = some a → a.block < k
theorem Rv.keepB {w w' : World} {A : Option Addr} {xs : List Value} {k : Nat} (h : Rv w A xs) (hi : InB A k) (hb : ∀ j, j < k → w'.heap[j]? = w.heap[j]?) : Rv w' A xs := fun hp => by
  obtain ⟨b, o, e, hc⟩ := h hp
  refine ⟨b, o, e, fun j v hj => ?_⟩
  have hlt : b < k := hi _ e
  have := hc j v hj
  unfold World.cell? at this ⊢
  rw [hb b hlt]
  exact this
theorem Rb.keepB {w w' : World} {A : Option Addr} {l : List UInt8} {k : Nat} (h : Rb w A l) (hi : InB A k) (hb : ∀ j, j < k → w'.heap[j]? = w.heap[j]?) : Rb w' A l := Rv.keepB h hi hb
theorem Rb.inB {w : World} {A : Option Addr} {l : List UInt8} (h : Rb w A l) (hl : l ≠ []) : InB A w.heap.size := by
  intro a ha
  obtain ⟨b, o, x, e, _, hc⟩ := h.one (k := 0) (by rcases l with _ | _; exact absurd rfl hl; simp)
  rw [ha] at e
  cases e
  exact cell_lt hc

/-- what bytes.Cut hands back, and where it lies -/
def CutEOut2 (A : Option Addr) (n c : Nat) (l : List UInt8) (e : Ending) (w' : World) : Prop :=
  match cutE l with
  | some (a, b) => ∃ B d, e = .returned (.tuple #[.slice A a.length c, .slice B b.length d, .bool true]) ∧ Rb w' A a ∧ Rb w' B b ∧ b.length ≤ d ∧ Pl B d ∧ a.length ≤ c ∧ (∀ k, InB A k → InB B k)
  | none => e = .returned (.tuple #[.slice A n c, .slice none 0 0, .bool false])
theorem cutE2_any (A B2 : Option Addr) (l : List UInt8) (n c d : Nat) (w : World) (hw : Mx w) (hn : l.length = n) (hA : Rb w A l) (hnc : n ≤ c) (hpl : Pl A c) (hs : Rb w B2 [13, 10]) (hb : n ≤ 4000000000) :
    Calls Tryz.prog 22 #[.slice A n c, .slice B2 2 d] w fun e w' => CutEOut2 A n c l e w' ∧ Dn w w' := by
  subst hn
  obtain ⟨m, hm⟩ := hw
  have h := Tryz.bytes_Cut_all A B2 l.length c 2 d (nums l) (nums [13, 10]) m w (nums_len l) rfl (fun x hx => by
    obtain ⟨u, _, rfl⟩ := List.mem_map.1 hx
    have := u.toNat_lt
    omega) (by decide) (bytesIn_of hA) (bytesIn_of hs) (fun e => by
    rcases hpl with ⟨_, h⟩ | ⟨b, o, h⟩
    · exact h
    · rw [h] at e; cases e) hnc (by omega) (by omega) hm
  rw [bytesOf_nums, bytesOf_nums] at h
  refine h.mono ?_
  rintro e w' ⟨rfl, hq⟩
  refine ⟨?_, hq⟩
  obtain ⟨q, rfl⟩ := hq
  unfold CutEOut2
  cases hcut : cutE l with
  | none =>
    rw [cutE_none hcut]
    rfl
  | some p =>
    obtain ⟨a, b⟩ := p
    obtain ⟨hl, hi⟩ := cutE_some hcut
    rw [hi]
    have hll : l.length = a.length + b.length + 2 := by rw [hl]; simp; omega
    have hA' : Rb (w.drewN q) A l := hA.drewN q
    obtain ⟨b0, o0, rfl, _⟩ := hA (by simp; omega)
    have ha : Rb (w.drewN q) (some ⟨b0, o0, none⟩) a := by
      have := hA'.take a.length
      rwa [hl, List.take_left'] at this
      rfl
    have hbr : Rb (w.drewN q) (some ⟨b0, o0 + (a.length + 2), none⟩) b := by
      have := hA'.drop (a.length + 2)
      rwa [hl, show a ++ 13 :: 10 :: b = (a ++ [13, 10]) ++ b by simp, List.drop_left' (by simp)] at this
    unfold Lib.cutV
    rw [if_pos (by omega)]
    unfold Lib.fromV
    simp only [Int.toNat_natCast]
    by_cases hc : c = a.length + 2
    · rw [if_pos hc]
      have hb0 : b = [] := List.eq_nil_of_length_eq_zero (by omega)
      subst hb0
      refine ⟨_, c - (a.length + 2), ?_, ha, Rb.nil _ _, by simp, .inr ⟨b0, o0, rfl⟩, by omega, fun k hk => hk⟩
      congr 5
      simp at hll ⊢
      omega
    · rw [if_neg hc]
      refine ⟨_, c - (a.length + 2), ?_, ha, hbr, by omega, .inr ⟨_, _, rfl⟩, by omega, fun k hk x hx => by cases hx; exact (hk ⟨b0, o0, none⟩ rfl : b0 < k)⟩
      have e1 : l.length - (a.length + 2) = b.length := by omega
      rw [e1, Option.map_some, Go.WideShapes.add_plain]

theorem own_neq {w : World} {b e n : Nat} {v : Value} {xs : List Value} (h : w.ownsRow b e 1 v n xs) : ∀ k, v.ownBlock = some k → b ≤ k ∧ k < w.heap.size := (OwnM.of h).lt
theorem head46 {l : List UInt8} {x : UInt8} {r : List UInt8} (h : l = x :: r) (hx : x = 46) : undot l = r := by
  subst h
  subst hx
  rfl
theorem head46_no {l : List UInt8} {x : UInt8} {r : List UInt8} (h : l = x :: r) (hx : x ≠ 46) : undot l = l := by
  subst h
  unfold undot
  rw [if_neg (by simpa using hx)]

/-- what Unstuff hands back -/
def UnstOut (l : List UInt8) (w : World) (e : Ending) (w' : World) : Prop :=
  match unst l with
  | none => e = .returned (.tuple #[.slice none 0 0, .slice none 0 0, .int .i64 7])
  | some (m, r) => ∃ v1 v2, e = .returned (.tuple #[v1, v2, .int .i64 0]) ∧ w'.ownsRow w.heap.size 5 1 v1 m.length (m.map bv) ∧ w'.ownsRow w.heap.size 5 1 v2 r.length (r.map bv) ∧ (∀ k, v1.ownBlock = some k → v2.ownBlock ≠ some k)
theorem unstOut_none {l : List UInt8} {w w' : World} {e : Ending} (h : unst l = none) (he : e = .returned (.tuple #[.slice none 0 0, .slice none 0 0, .int .i64 7])) : UnstOut l w e w' := by
  unfold UnstOut
  rw [h]
  exact he
theorem unstOut_some {l m r : List UInt8} {v1 v2 : Value} {w w' : World} {e : Ending} (h : unst l = some (m, r)) (he : e = .returned (.tuple #[v1, v2, .int .i64 0])) (h1 : w'.ownsRow w.heap.size 5 1 v1 m.length (m.map bv)) (h2 : w'.ownsRow w.heap.size 5 1 v2 r.length (r.map bv)) (h3 : ∀ k, v1.ownBlock = some k → v2.ownBlock ≠ some k) : UnstOut l w e w' := by
  unfold UnstOut
  rw [h]
  exact ⟨v1, v2, he, h1, h2, h3⟩
/-- so much is told, this is left -/
def UnAt (l m b : List UInt8) : Prop := unst l = (unst b).map fun p => (m ++ p.1, p.2)
theorem UnAt.start (l : List UInt8) : UnAt l [] l := by
  unfold UnAt
  cases unst l <;> simp
theorem UnAt.next {l m b line behind : List UInt8} (h : UnAt l m b) (hc : cutE b = some (line, behind)) (hl : line ≠ [46]) : UnAt l (m ++ undot line ++ [13, 10]) behind := by
  unfold UnAt at *
  rw [h, unst_some hc, if_neg hl]
  cases unst behind <;> simp
theorem UnAt.stop {l m b line behind : List UInt8} (h : UnAt l m b) (hc : cutE b = some (line, behind)) (hl : line = [46]) : unst l = some (m, behind) := by
  unfold UnAt at *
  rw [h, unst_some hc, if_pos hl]
  simp
theorem UnAt.none {l m b : List UInt8} (h : UnAt l m b) (hc : cutE b = none) : unst l = none := by
  unfold UnAt at *
  rw [h, unst_none hc]
  rfl

theorem rv_one {w : World} {A : Option Addr} {x : UInt8} {r : List UInt8} (h : Rb w A (x :: r)) : ∃ b o, A = some ⟨b, o, none⟩ ∧ w.cell? ⟨b, o, none⟩ = some (.int .u8 (x.toNat : Int)) := by
  obtain ⟨b, o, e, hc⟩ := h (by simp)
  exact ⟨b, o, e, hc 0 (bv x) (by simp)⟩

set_option maxRecDepth 100000 in
set_option maxHeartbeats 2000000 in
theorem unstuff_any (A : Option Addr) (l : List UInt8) (n c : Nat) (w : World) (hw : Mx w) (hn : l.length = n) (hA : Rb w A l) (hnc : n ≤ c) (hpl : Pl A c) (hb : n ≤ 1000000) :
    Calls Tryz.prog 20 #[.slice A n c] w fun e w' => UnstOut l w e w' ∧ Below w.heap.size w w' := by
  subst hn
  have kc := fun (w : World) (C : Array Value) (n c : Nat) => Lib.run_convert_bytes_const (P := Tryz.prog) w 22 5 C n c Tryz.underlying22 Tryz.underlying5
  have hI0 : l ≠ [] → InB A w.heap.size := fun h => hA.inB h
  go_enter Tryz.func20, Tryz.ntmps20
  go_wp2_with fail
  go_loopw [0, 2] (fun bl v wr => ∃ (b m : List UInt8) (B : Option Addr) (d k : Nat), bl = .slice B b.length d ∧ Rb wr B b ∧ (b ≠ [] → InB B w.heap.size) ∧ b.length ≤ d ∧ Pl B d ∧ k + b.length ≤ l.length ∧ Hid (UnAt l m b) ∧ wr.ownsRow w.heap.size 5 1 v k (m.map bv) ∧ Below w.heap.size w wr) (fun bl _ _ => slLen bl)
  case atStart => exact ⟨l, [], A, c, 0, rfl, hA, hI0, hnc, hpl, by omega, Lib.hid (UnAt.start l), World.ownsRow_nil _ _ _ _, Below.refl _ _⟩
  case round =>
    obtain ⟨b, m, B, d, k, rfl, hB, hI, hbd, hpB, hkb, hU, hown, hBl⟩ := hrel
    have hs1 := hBl.size
    have hk2 : m.length = k := by have : (m.map bv).length = k * 1 := hown.1; simpa using this
    clear hI0 hA
    by_cases hb0 : b = []
    · subst hb0
      have HST := Lib.hid (hU.out.none rfl)
      clear hU
      go_wp2_with fail
      go_ret3
      exact ⟨unstOut_none HST.out rfl, hBl⟩
    have hIB := hI hb0
    have hlb : 0 < b.length := by rcases b with _ | _; exact absurd rfl hb0; simp
    have hbl0 : (0 : Int) < (b.length : Int) := by omega
    have hal : Below w.heap.size w (wr.alloc (.cells #[.int .u8 13, .int .u8 10] 5 (2, 3))) := hBl.alloc hs1 _
    have hal2 : Below wr.heap.size wr (wr.alloc (.cells #[.int .u8 13, .int .u8 10] 5 (2, 3))) := (Below.refl _ _).alloc (Nat.le_refl _) _
    have hcutc := cutE2_any B (some ⟨wr.heap.size, 0, none⟩) b b.length d 2 (wr.alloc (.cells #[.int .u8 13, .int .u8 10] 5 (2, 3))) (hw.below hal) rfl (hB.below hal2) hbd hpB (show Rb _ _ [13, 10] from Rb_new wr [13, 10] _ _ rfl 2 (2, 3)) (by omega)
    have hown1 := hown.alloc (.cells #[.int .u8 13, .int .u8 10] 5 (2, 3))
    unfold CutEOut2 at hcutc
    cases hc : cutE b with
    | none =>
      have HST := Lib.hid (hU.out.none hc)
      rw [hc] at hcutc
      clear hU hc
      go_wp2_with fail
      refine hcutc.mono ?_
      rintro e w3 ⟨rfl, hd⟩
      clear hcutc
      go_wp2_with fail
      go_ret3
      exact ⟨unstOut_none HST.out rfl, hal.trans (hd.below _)⟩
    | some p =>
      obtain ⟨line, behind⟩ := p
      rw [hc] at hcutc
      have hcl := cutE_len hc
      have HC := Lib.hid hc
      clear hc
      go_wp2_with fail
      refine hcutc.mono ?_
      rintro e w3 ⟨⟨B2, d2, rfl, hRa, hRb, hbd2, hpl2, hac, hin⟩, hd⟩
      have hB3 : Below w.heap.size w w3 := hal.trans (hd.below _)
      have hown3 := own_below hown1 (hd.below _)
      have hs3 := hB3.size
      have hIB2 := hin _ hIB
      have hw3 := hw.below hB3
      clear hcutc hd hown1 hown hal hal2
      by_cases h46 : line = [46]
      · subst h46
        have HST := Lib.hid (hU.out.stop HC.out rfl)
        obtain ⟨b9, o9, rfl, c46⟩ := rv_one hRa
        have hclone := clone_any B2 behind behind.length d2 w3 rfl hRb hbd2 hpl2 (by omega)
        clear hU
        go_wp2_with fail
        refine hclone.mono ?_
        rintro e w4 ⟨⟨v4, rfl, hv4⟩, hb4⟩
        have hown4 := own_below hown3 hb4
        clear hclone
        go_wp2_with fail
        go_ret3
        refine ⟨unstOut_some HST.out rfl (by rw [hk2]; exact hown4) (own_base hv4 hs3) (fun k1 h1 h2 => ?_), hB3.trans (hb4.mono hs3)⟩
        have := (own_neq hown3 k1 h1).2
        have := (own_neq hv4 k1 h2).1
        omega
      have HU := Lib.hid (hU.out.next HC.out h46)
      have hul := undot_len line
      clear hU
      rcases list_cases line with hlz | ⟨x, r, hlz⟩
      · subst hlz
        have hun : undot ([] : List UInt8) = [] := rfl
        rw [hun] at HU
        simp only [List.append_nil] at HU
        go_wp2_with (first
          | (at_builtin; refine wpList_app rfl _ _ _ _ rfl TU8 hown3 rfl (Src_rb Tryz.underlying22 rfl hRa) rfl (by simp; omega) hs3 ?_; intro v4 w4 hown4 hgr4 hat4; have hB4 := below_app hB3 hown3 hgr4 hs3 (Nat.le_refl _); have hs4 := hB4.size)
          | (at_builtin; refine wpList_app rfl _ _ _ _ rfl TU8 hown4 rfl (Src_str Tryz.underlying9 [13, 10]) rfl (by simp; omega) hs4 ?_; intro v5 w5 hown5 hgr5 hat5; have hB5 := below_app hB4 hown4 hgr5 hs4 (Nat.le_refl _)))
        go_roundw
        case rel =>
          refine ⟨behind, m ++ [13, 10], B2, d2, k + 2, rfl, hRb.keepB hIB2 (fun j hj => (hB5.block j hj).trans (hB3.block j hj).symm), fun _ => hIB2, hbd2, hpl2, by simp at hcl; omega, HU, ?_, hB5⟩
          simpa [List.map_append, Nat.add_assoc] using hown5
        case measure => simp [slLen]; omega
      · have hlen1 : r.length + 1 ≤ line.length := by rw [hlz]; simp
        have hlen2 : line.length ≤ r.length + 1 := by rw [hlz]; simp
        have hRx := hRa
        rw [hlz] at hRx
        obtain ⟨b9, o9, rfl, cx⟩ := rv_one hRx
        have hRa' := hRa
        have t46 : ((x.toNat : Int) == 46) = (x == 46) := u8_test x 46 rfl
        by_cases hx : x = 46
        · have hb46 : ((x.toNat : Int) == 46) = true := by rw [t46, hx]; rfl
          have hr1 : 1 ≤ r.length := by
            rcases r with _ | _
            · exact absurd (by rw [hlz, hx]) h46
            · simp
          have hne1 : ((line.length : Int) == 1) = false := by rw [beq_eq_false_iff_ne]; omega
          have hgt : (0 : Int) < (line.length : Int) := by omega
          have hun := head46 hlz hx
          rw [hun] at HU
          obtain ⟨A', hsl, hrd, _, hA2, _⟩ := slice_from (P := Tryz.prog) (t := 22) (e := 5) (s := 1) Tryz.underlying22 (fun w => Tryz.sizeOf5 w) (some ⟨b9, o9, none⟩) line.length d 1 (by omega) (by omega)
          have hRr : Rb w3 A' r := by
            have := hrd w3 (line.map bv) (by simp) hRa'
            rw [hlz] at this
            show Rv w3 A' (r.map bv)
            simpa using this
          have hsl1 : ∀ W, (Instr.slice 22 (.slice (some ⟨b9, o9, none⟩) line.length d) (some (.int .i64 1)) none none).run Tryz.prog W = .ok (.slice A' (line.length - 1) (d - 1)) W := hsl .i64
          clear hsl hrd hA2
          have hrl : r.length = line.length - 1 := by omega
          have HRL := Lib.hid hrl
          clear hrl hlz hRx hRa h46 hb0 t46 hun
          go_wp2_with (first
            | (at_builtin; refine wpList_app rfl _ _ _ _ rfl TU8 hown3 rfl (Src_rb Tryz.underlying22 HRL.out hRr) rfl (by simp; omega) hs3 ?_; intro v4 w4 hown4 hgr4 hat4; have hB4 := below_app hB3 hown3 hgr4 hs3 (Nat.le_refl _); have hs4 := hB4.size)
            | (at_builtin; refine wpList_app rfl _ _ _ _ rfl TU8 hown4 rfl (Src_str Tryz.underlying9 [13, 10]) rfl (by simp; omega) hs4 ?_; intro v5 w5 hown5 hgr5 hat5; have hB5 := below_app hB4 hown4 hgr5 hs4 (Nat.le_refl _)))
          go_roundw
          case rel =>
            refine ⟨behind, m ++ r ++ [13, 10], B2, d2, k + (line.length - 1) + 2, rfl, hRb.keepB hIB2 (fun j hj => (hB5.block j hj).trans (hB3.block j hj).symm), fun _ => hIB2, hbd2, hpl2, by omega, HU, ?_, hB5⟩
            simpa [List.map_append, Nat.add_assoc] using hown5
          case measure => simp [slLen]; omega
        · have hb46 : ((x.toNat : Int) == 46) = false := by rw [t46]; simp [hx]
          have hgt : (0 : Int) < (line.length : Int) := by omega
          have hun := head46_no hlz hx
          rw [hun] at HU
          clear hlz hRx hRa h46 hb0 hun t46
          have k1 : ((line.length : Int) == 1) = true ∨ ((line.length : Int) == 1) = false := by cases ((line.length : Int) == 1) <;> simp
          rcases k1 with k1 | k1
          all_goals
            go_wp2_with (first
              | (at_builtin; refine wpList_app rfl _ _ _ _ rfl TU8 hown3 rfl (Src_rb Tryz.underlying22 rfl hRa') rfl (by simp; omega) hs3 ?_; intro v4 w4 hown4 hgr4 hat4; have hB4 := below_app hB3 hown3 hgr4 hs3 (Nat.le_refl _); have hs4 := hB4.size)
              | (at_builtin; refine wpList_app rfl _ _ _ _ rfl TU8 hown4 rfl (Src_str Tryz.underlying9 [13, 10]) rfl (by simp; omega) hs4 ?_; intro v5 w5 hown5 hgr5 hat5; have hB5 := below_app hB4 hown4 hgr5 hs4 (Nat.le_refl _)))
            go_roundw
            case rel =>
              refine ⟨behind, m ++ line ++ [13, 10], B2, d2, k + line.length + 2, rfl, hRb.keepB hIB2 (fun j hj => (hB5.block j hj).trans (hB3.block j hj).symm), fun _ => hIB2, hbd2, hpl2, by omega, HU, ?_, hB5⟩
              simpa [List.map_append, Nat.add_assoc] using hown5
            case measure => simp [slLen]; omega
end Go.Proofs.YtddjabjloplhiaaGreatDoor
