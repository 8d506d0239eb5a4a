/- Bytes as digits, and digits' bytes; a truth's digit: what the program's hex, unhex and truth give. -/
import Derived.Test.YtleolfpgiaimfaaDoorEX
import Derived.Test.YtleolfpgiaimfaaDoorD2
import Derived.Test.YtleolfpgiaimfaaDoorShelf
namespace Go.Proofs.YtleolfpgiaimfaaDoor
set_option linter.unusedVariables false
set_option linter.unusedSimpArgs false
open Go.RowKit Go.Shelf

theorem tale_truth_any (b : Bool) (w : World) : Calls Tryd.prog 55 #[.bool b] w fun e w' => e = .returned (.string (bs (tru b))) ∧ w' = w := by
  cases b <;>
  · go_enter Tryd.func55, Tryd.ntmps55
    go_wp2_with fail
    go_ret
    exact ⟨rfl, rfl⟩

def dgs : List UInt8 := [48, 49, 50, 51, 52, 53, 54, 55, 56, 57, 97, 98, 99, 100, 101, 102]
theorem dgs_get : ∀ d, d < 16 → dgs[d]? = some (hxd d) := by decide

theorem dgs_at (d T : Nat) (hT : T = d) (h : d < 16) : (⟨#[48, 49, 50, 51, 52, 53, 54, 55, 56, 57, 97, 98, 99, 100, 101, 102]⟩ : ByteArray)[T]'(show T < 16 by omega) = hxd d := by
  subst hT
  have h1 := dgs_get T h
  have h2 : T < dgs.length := h
  rw [List.getElem?_eq_getElem h2] at h1
  exact Option.some.inj h1
theorem hexP_snoc (l : List UInt8) (x : UInt8) : hexP (l ++ [x]) = hexP l ++ [hxd (x.toNat / 16), hxd (x.toNat % 16)] := by simp [hexP]
theorem u8_shr4 (x : UInt8) : (x.toNat : Int) / 2 ^ 4 = ((x.toNat / 16 : Nat) : Int) := by omega
theorem and15_fin : ∀ n : Fin 256, bits .and .u8 ((n : Nat) : Int) 15 = (((n : Nat) % 16 : Nat) : Int) := by decide +kernel
theorem u8_and15 (x : UInt8) : bits .and .u8 (x.toNat : Int) 15 = ((x.toNat % 16 : Nat) : Int) := and15_fin ⟨x.toNat, x.toNat_lt⟩

set_option maxRecDepth 100000 in
set_option maxHeartbeats 1000000 in
theorem hex_any (A : Option Addr) (b : List UInt8) (n c : Nat) (w : World) (hn : b.length = n) (hA : Rb w A b) (hb : n ≤ 1000000) :
    Calls Tryd.prog 25 #[.slice A n c] w fun e w' => e = .returned (.string (bs (hexL b))) ∧ Below w.heap.size w w' := by
  have HN := Lib.hid hn
  rcases Nat.eq_zero_or_pos n with h0 | h0
  · subst h0
    have hb0 : b = [] := List.eq_nil_of_length_eq_zero hn
    subst hb0
    clear hn
    go_enter Tryd.func25, Tryd.ntmps25
    go_wp2_with fail
    go_ret
    exact ⟨rfl, Below.refl _ _⟩
  · have hz : ((n : Int) == 0) = false := by rw [beq_eq_false_iff_ne]; omega
    clear hn
    have hown0 := World.ownsRow_nil w w.heap.size 5 1
    go_enter Tryd.func25, Tryd.ntmps25
    go_wp2_with fail
    go_loopw [3, 11] (fun v i wr => ∃ k : Nat, i = .int .i64 k ∧ k ≤ n ∧ wr.ownsRow w.heap.size 5 1 v (2 * k) ((hexP (b.take k)).map bv) ∧ Below w.heap.size w wr) (fun _ i _ => n - (intOf i).toNat)
    case atStart => exact ⟨0, rfl, by omega, by simpa [hexP] using hown0, Below.refl _ _⟩
    case round =>
      obtain ⟨k, rfl, hk, hown, hB⟩ := hrel
      have hownk := hown
      obtain ⟨Ao, co, rfl, hco, hcm, hRo, hlo⟩ := own_form hown
      by_cases hlt : k < n
      · obtain ⟨bl, o, x, rfl, hx, hc⟩ := (hA.below hB).one (k := k) (by rw [HN.out]; exact hlt)
        have hl1 : 0 ≤ (x.toNat : Int) / 16 := by omega
        have hl2 : (x.toNat : Int) / 16 < 16 := by have := x.toNat_lt; omega
        have e15 := u8_and15 x
        have hl3 : 0 ≤ bits .and .u8 (x.toNat : Int) 15 := by omega
        have hl4 : bits .and .u8 (x.toNat : Int) 15 < 16 := by omega
        obtain ⟨d1, hd1⟩ : ∃ d1 : UInt8, (⟨#[48, 49, 50, 51, 52, 53, 54, 55, 56, 57, 97, 98, 99, 100, 101, 102]⟩ : ByteArray)[((x.toNat : Int) / 16).toNat]'(show ((x.toNat : Int) / 16).toNat < 16 by omega) = d1 := ⟨_, rfl⟩
        obtain ⟨d2, hd2⟩ : ∃ d2 : UInt8, (⟨#[48, 49, 50, 51, 52, 53, 54, 55, 56, 57, 97, 98, 99, 100, 101, 102]⟩ : ByteArray)[(bits .and .u8 (x.toNat : Int) 15).toNat]'(show (bits .and .u8 (x.toNat : Int) 15).toNat < 16 by clear e15; omega) = d2 := ⟨_, rfl⟩
        have HTK : Hid (hexP (b.take (k + 1)) = hexP (b.take k) ++ [d1, d2]) := Lib.hid (by
          rw [take_succ_of hx.out, hexP_snoc, ← hd1, ← hd2, dgs_at (x.toNat / 16) _ (by omega) (by have := x.toNat_lt; omega), dgs_at (x.toNat % 16) _ (by omega) (by omega)])
        clear hx hown0 e15
        have hoA : (wr.drew.alloc (.cells #[bv d1, bv d2] 5)).ownsRow w.heap.size 5 1 (.slice Ao (2 * k) co) (2 * k) ((hexP (b.take k)).map bv) := World.ownsRow.alloc (w := wr.drew) hownk _
        have hsA : Src Tryd.prog 1 22 (.slice (some ⟨wr.heap.size, 0, none⟩) 2 2) 2 [bv d1, bv d2] (wr.drew.alloc (.cells #[bv d1, bv d2] 5)) := Src_rv (news := [bv d1, bv d2]) Tryd.underlying22 rfl (Rv_new wr.drew _ _ _ rfl) (by simp [Value.oneCell', bv]) (by omega)
        have hbA : (2 * k + 2) * 1 ≤ 140737488355328 := by omega
        have hzA : w.heap.size ≤ (wr.drew.alloc (.cells #[bv d1, bv d2] 5)).heap.size := by have := hB.size; simp; omega
        have hBA : Below w.heap.size w (wr.drew.alloc (.cells #[bv d1, bv d2] 5)) := hB.drew.alloc (by have := hB.size; simp; omega) _
        go_upto_region 7 with fail
        go_region_law (refine step_app rfl (.tmp 15) (.tmp 22) _ _ rfl TU8 hoA (by simp [Act.eval, Act.put]) hsA (by simp [Act.eval, Act.put]) hbA hzA ?_; intro v2 w2 own2 gr2 at2; have B2 := below_app hBA hoA gr2 hzA (Nat.le_refl _))
        all_goals
          go_wp2_with fail
          go_roundw
          case rel => exact ⟨k + 1, by go_num, by omega, by rw [HTK.out, List.map_append]; exact own2, B2⟩
          case measure => simp [intOf]; omega
      · obtain rfl : k = n := by omega
        have hall : b.take k = b := take_all b (by rw [HN.out]; omega)
        rw [hall] at hRo
        have hcv := conv_str (P := Tryd.prog) (src := 22) (dst := 9) (e := 5) Tryd.underlying22 Tryd.underlying5 Tryd.underlying9 (n := 2 * k) (c := co) (show Rb wr Ao (hexP b) from hRo) (by rw [hexP_len, HN.out])
        have HX : Hid (hexL b = hexP b) := Lib.hid (by
          unfold hexL
          rw [if_neg]
          intro e
          have := HN.out
          rw [e] at this
          simp at this
          omega)
        clear hall hown hownk hRo hlo hown0 hlt
        go_wp2_with fail
        go_ret
        exact ⟨ret_str (by rw [HX.out]), hB⟩

/-- a digit's place, or -1 -/
def unxZ (c : UInt8) : Int := match unx c with | some d => (d : Int) | none => -1
theorem ib_fin : ∀ n : Fin 256, Lib.indexByte dgs (((n : Nat) : Int).toNat.toUInt8) = unxZ (UInt8.ofNat n) := by decide +kernel
theorem ib_dgs (c : UInt8) : Lib.indexByte dgs ((c.toNat : Int).toNat.toUInt8) = unxZ c := by
  have := ib_fin ⟨c.toNat, c.toNat_lt⟩
  simpa using this
theorem unx_lt {c : UInt8} {d : Nat} (h : unx c = some d) : d < 16 := by
  unfold unx at h
  split at h
  · cases h; omega
  · split at h
    · cases h; omega
    · cases h
theorem ibd_any (c : UInt8) (w : World) : Calls Tryd.prog 50 #[.string ⟨#[48, 49, 50, 51, 52, 53, 54, 55, 56, 57, 97, 98, 99, 100, 101, 102]⟩, .int .u8 (c.toNat : Int)] w fun e w' => e = .returned (.int .i64 (unxZ c)) ∧ w' = w := by
  have h := Tryd.strings_IndexByte ⟨#[48, 49, 50, 51, 52, 53, 54, 55, 56, 57, 97, 98, 99, 100, 101, 102]⟩ (c.toNat : Int) w
  rw [show (⟨#[48, 49, 50, 51, 52, 53, 54, 55, 56, 57, 97, 98, 99, 100, 101, 102]⟩ : ByteArray).data.toList = dgs from rfl, ib_dgs] at h
  exact h
theorem join_fin : ∀ x y : Fin 16, bits .or .i64 (((x : Nat) : Int) * 16) ((y : Nat) : Int) % 256 = ((UInt8.ofNat (16 * (x : Nat) + (y : Nat))).toNat : Int) := by decide +kernel
theorem join_byte {x y : Nat} (hx : x < 16) (hy : y < 16) : bits .or .i64 ((x : Int) * 16) (y : Int) % 256 = ((UInt8.ofNat (16 * x + y)).toNat : Int) := join_fin ⟨x, hx⟩ ⟨y, hy⟩
/-- what comes of the rest -/
theorem unxP_cut {l : List UInt8} {k : Nat} {a b : UInt8} (ha : l[2 * k]? = some a) (hb : l[2 * k + 1]? = some b) : l.drop (2 * k) = a :: b :: l.drop (2 * (k + 1)) := by
  rw [List.drop_eq_getElem_cons (lt_of_get ha), List.drop_eq_getElem_cons (lt_of_get hb)]
  rw [List.getElem?_eq_getElem (lt_of_get ha)] at ha
  rw [List.getElem?_eq_getElem (lt_of_get hb)] at hb
  rw [Option.some.inj ha, Option.some.inj hb, show 2 * k + 1 + 1 = 2 * (k + 1) by omega]
theorem unxP_end {l : List UInt8} (h : l.length < 2) : unxP l = some [] := by
  match l, h with
  | [], _ => rfl
  | [x], _ => rfl

theorem own_ge {w : World} {base e n : Nat} {v : Value} {xs : List Value} (h : w.ownsRow base e 1 v n xs) : ∀ b, v.ownBlock = some b → base ≤ b := by
  intro b hb
  rcases h.2 with ⟨rfl, _⟩ | ⟨g, cap, cur, rfl, hg, _⟩
  · cases hb
  · simp [Value.ownBlock] at hb
    omega
/-- what unhex hands back -/
def UnhexOut (l : List UInt8) (w : World) (e : Ending) (w' : World) : Prop := ∃ (A : Option Addr) (c : Nat), e = .returned (.tuple #[.slice A (unhexL l).1.length c, .bool (unhexL l).2]) ∧ (unhexL l).1.length ≤ c ∧ Rb w' A (unhexL l).1 ∧ (∀ b, (Value.slice A (unhexL l).1.length c).ownBlock = some b → w.heap.size ≤ b) ∧ Below w.heap.size w w'

set_option maxRecDepth 100000 in
set_option maxHeartbeats 1000000 in
theorem unhex_any (l : List UInt8) (w : World) (hb : l.length ≤ 1000000) : Calls Tryd.prog 27 #[.string (bs l)] w (UnhexOut l w) := by
  obtain ⟨n, hn⟩ : ∃ n, l.length = n := ⟨_, rfl⟩
  have HN := Lib.hid hn
  by_cases h45 : l = [45]
  · subst h45
    have hbb : (bs [45] == (⟨#[45]⟩ : ByteArray)) = true := by decide
    clear hn
    go_enter Tryd.func27, Tryd.ntmps27
    go_wp2_with fail
    go_ret2
    exact ⟨none, 0, rfl, Nat.le_refl _, Rb.nil _ _, (fun b h => by cases h), Below.refl _ _⟩
  · have hbb : (l == [45]) = false := by simpa using h45
    have hown0 := World.ownsRow_nil w w.heap.size 5 1
    have hsz : (bs l).size = n := by rw [bs_size, hn]
    rw [hn] at hb
    clear hn
    go_enter Tryd.func27, Tryd.ntmps27
    go_wp2_with fail
    go_loopw [2, 4] (fun v i wr => ∃ (k : Nat) (pre : List UInt8), i = .int .i64 (2 * (k : Int)) ∧ 2 * k ≤ n ∧ pre.length = k ∧ Hid (unxP l = (unxP (l.drop (2 * k))).map (pre ++ ·)) ∧ wr.ownsRow w.heap.size 5 1 v k (pre.map bv) ∧ Below w.heap.size w wr) (fun _ i _ => n - (intOf i).toNat)
    case atStart => exact ⟨0, [], rfl, by omega, rfl, Lib.hid (by simp), by simpa using hown0, Below.refl _ _⟩
    case round =>
      obtain ⟨k, pre, rfl, hk, hpl, HU, hown, hB⟩ := hrel
      have hownk := hown
      obtain ⟨Ao, co, rfl, hco, hcm, hRo, hlo⟩ := own_form hown
      by_cases hlt : 2 * k + 1 < n
      · obtain ⟨a, ha⟩ : ∃ a, l[2 * k]? = some a := ⟨_, List.getElem?_eq_getElem (by rw [HN.out]; omega)⟩
        obtain ⟨b, hb'⟩ : ∃ b, l[2 * k + 1]? = some b := ⟨_, List.getElem?_eq_getElem (by rw [HN.out]; omega)⟩
        have hi : ∀ W, (Instr.index 9 (.string (bs l)) (.int .i64 (2 * (k : Int)))).run Tryd.prog W = .ok (.int .u8 (a.toNat : Int)) W := str_index (P := Tryd.prog) Tryd.underlying9 ha .i64
        have hj : ∀ W, (Instr.index 9 (.string (bs l)) (.int .i64 (2 * (k : Int) + 1))).run Tryd.prog W = .ok (.int .u8 (b.toNat : Int)) W := str_index (P := Tryd.prog) Tryd.underlying9 hb' .i64
        have hcut := unxP_cut ha hb'
        have hz1 : unxZ a = (match unx a with | some d => (d : Int) | none => -1) := rfl
        have hz2 : unxZ b = (match unx b with | some d => (d : Int) | none => -1) := rfl
        have HU2 : Hid (unxP l = (unxP (a :: b :: l.drop (2 * (k + 1)))).map (pre ++ ·)) := Lib.hid (by rw [HU.out, hcut])
        have hc1 := ibd_any a
        have hc2 := ibd_any b
        have hw1 : IntKind.i64.wrap (2 * (k : Int) + 1) = 2 * (k : Int) + 1 := IntWalk.i64_in _ (by omega)
        clear ha hb' hcut HU hown hown0
        cases hxa : unx a with
        | none =>
          have HO : Hid (unhexL l = ([], false)) := Lib.hid (by
            unfold unhexL
            rw [if_neg h45, HU2.out, unxP, hxa]
            simp)
          obtain ⟨z, hz⟩ : ∃ z, unxZ b = z := ⟨_, rfl⟩
          rw [hxa] at hz1
          rw [hz1] at hc1
          rw [hz] at hc2
          clear hz1 hz2 hz hxa HU2
          go_upto_region 6 with fail
          go_quiet ((first
            | (go_at_call 50; exact Calls.quiet_of_same (hc1 _))
            | (go_at_call 50; exact Calls.quiet_of_same (hc2 _))))
          have hBq : Below w.heap.size w (wr.drewN nq) := hB.trans ((Dn.of wr nq).below _)
          go_wp2_with fail
          all_goals (go_ret2; exact ⟨none, 0, by rw [HO.out]; rfl, by rw [HO.out]; exact Nat.le_refl _, by rw [HO.out]; exact Rb.nil _ _, (fun b h => by cases h), hBq⟩)
        | some x =>
          cases hxb : unx b with
          | none =>
            have HO : Hid (unhexL l = ([], false)) := Lib.hid (by
              unfold unhexL
              rw [if_neg h45, HU2.out, unxP, hxa, hxb]
              simp)
            obtain ⟨z, hz⟩ : ∃ z, unxZ a = z := ⟨_, rfl⟩
            rw [hxb] at hz2
            rw [hz2] at hc2
            rw [hz] at hc1
            clear hz1 hz2 hz hxb HU2
            go_upto_region 6 with fail
            go_quiet ((first
              | (go_at_call 50; exact Calls.quiet_of_same (hc1 _))
              | (go_at_call 50; exact Calls.quiet_of_same (hc2 _))))
            have hBq : Below w.heap.size w (wr.drewN nq) := hB.trans ((Dn.of wr nq).below _)
            go_wp2_with fail
            all_goals (go_ret2; exact ⟨none, 0, by rw [HO.out]; rfl, by rw [HO.out]; exact Nat.le_refl _, by rw [HO.out]; exact Rb.nil _ _, (fun b h => by cases h), hBq⟩)
          | some y =>
            have hx16 := unx_lt hxa
            have hy16 := unx_lt hxb
            rw [hxa] at hz1
            rw [hxb] at hz2
            simp only at hz1 hz2
            rw [hz1] at hc1
            rw [hz2] at hc2
            have HP : Hid (unxP l = (unxP (l.drop (2 * (k + 1)))).map ((pre ++ [UInt8.ofNat (16 * x + y)]) ++ ·)) := Lib.hid (by
              rw [HU2.out, unxP, hxa, hxb]
              cases unxP (l.drop (2 * (k + 1))) <;> simp)
            have he := join_byte hx16 hy16
            obtain ⟨g, hg⟩ : ∃ g, UInt8.ofNat (16 * x + y) = g := ⟨_, rfl⟩
            rw [hg] at he HP
            have hx0 : (decide ((x : Int) < 0)) = false := decide_eq_false (by omega)
            have hy0 : (decide ((y : Int) < 0)) = false := decide_eq_false (by omega)
            clear hz1 hz2 hxa hxb HU2 hg
            go_upto_region 6 with fail
            go_quiet ((first
              | (go_at_call 50; exact Calls.quiet_of_same (hc1 _))
              | (go_at_call 50; exact Calls.quiet_of_same (hc2 _))))
            have hoq : (wr.drewN nq).ownsRow w.heap.size 5 1 (.slice Ao k co) k (pre.map bv) := hownk
            have hBq : Below w.heap.size w (wr.drewN nq) := hB.trans ((Dn.of wr nq).below _)
            obtain ⟨wq, hwq⟩ : ∃ wq, wr.drewN nq = wq := ⟨_, rfl⟩
            rw [hwq] at hoq hBq ⊢
            have hsq := hBq.size
            clear hownk hwq
            go_wp2_with (at_builtin; refine wpList_app rfl _ _ _ _ rfl TU8 (hoq.alloc (.cells #[bv g] 5)) rfl (Src_rv (news := [bv g]) Tryd.underlying22 rfl (Rv_new wq _ _ _ rfl) (by simp [Value.oneCell', bv]) (by omega)) rfl (by omega) (by simp; omega) ?_; intro v8 w8 hown8 hgr8 hat8; have hB8 := below_app (hBq.alloc hsq (.cells #[bv g] 5)) (hoq.alloc _) hgr8 (by simp; omega) (Nat.le_refl _); have hs8 := hB8.size)
            go_roundw
            case rel => exact ⟨k + 1, pre ++ [g], by go_num, by omega, by simp [hpl], HP, by rw [List.map_append]; exact hown8, hB8⟩
            case measure => simp [intOf]; omega
      · have HO : Hid (unhexL l = (pre, decide (n % 2 = 0 ∧ 0 < n))) := Lib.hid (by
          unfold unhexL
          rw [if_neg h45, HU.out, unxP_end (by rw [List.length_drop, HN.out]; omega), HN.out]
          simp)
        clear HU hown hown0
        have hev : ((n : Int) % 2 == 0) = decide (n % 2 = 0) := by rw [Bool.eq_iff_iff]; simp; omega
        cases hd : decide (n % 2 = 0) with
        | true =>
          rw [hd] at hev
          cases hd0 : decide ((0 : Int) < n) with
          | true =>
            have HO2 : Hid (unhexL l = (pre, true)) := Lib.hid (by rw [HO.out, Prod.mk.injEq]; have h1 : n % 2 = 0 := of_decide_eq_true hd; have h2 := hd0; simp at h2; refine ⟨rfl, ?_⟩; simp; omega)
            clear hd HO
            go_wp2_with fail
            go_ret2
            have hz0 := hd0
            simp at hz0
            exact ⟨Ao, co, by rw [HO2.out]; simp [hpl]; omega, by rw [HO2.out]; simp [hpl]; exact hco, by rw [HO2.out]; exact hRo, fun b hb => by rw [HO2.out] at hb; exact own_ge hownk b (by simpa [hpl] using hb), hB⟩
          | false =>
            have HO2 : Hid (unhexL l = (pre, false)) := Lib.hid (by rw [HO.out, Prod.mk.injEq]; have h1 : n % 2 = 0 := of_decide_eq_true hd; have h2 := hd0; simp at h2; refine ⟨rfl, ?_⟩; simp; omega)
            clear hd HO
            go_wp2_with fail
            go_ret2
            have hz0 := hd0
            simp at hz0
            exact ⟨Ao, co, by rw [HO2.out]; simp [hpl]; omega, by rw [HO2.out]; simp [hpl]; exact hco, by rw [HO2.out]; exact hRo, fun b hb => by rw [HO2.out] at hb; exact own_ge hownk b (by simpa [hpl] using hb), hB⟩
        | false =>
          rw [hd] at hev
          have HO2 : Hid (unhexL l = (pre, false)) := Lib.hid (by rw [HO.out, Prod.mk.injEq]; have h1 : ¬ n % 2 = 0 := of_decide_eq_false hd; refine ⟨rfl, decide_eq_false fun h => h1 h.1⟩)
          clear hd HO
          go_wp2_with fail
          go_ret2
          exact ⟨Ao, co, by rw [HO2.out]; simp [hpl], by rw [HO2.out]; simp [hpl]; exact hco, by rw [HO2.out]; exact hRo, fun b hb => by rw [HO2.out] at hb; exact own_ge hownk b (by simpa [hpl] using hb), hB⟩
end Go.Proofs.YtleolfpgiaimfaaDoor
