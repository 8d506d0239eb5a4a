/- bytes.Cut at CR and LF, slices.Clone of bytes; the talk's address. -/
import Derived.Test.YtddjabjloplhiaaGreatDoorY1
import Derived.Test.YtddjabjloplhiaaGreatDoorE1
namespace Go.Proofs.YtddjabjloplhiaaGreatDoor
set_option linter.unusedVariables false
set_option linter.unusedSimpArgs false
open Go.RowKit

/-- an address as a slice of the program's own bears it -/
def Pl (A : Option Addr) (c : Nat) : Prop := (A = none ∧ c = 0) ∨ ∃ b o, A = some ⟨b, o, none⟩

/-- the numbers of bytes -/
def nums (l : List UInt8) : List Int := l.map fun c => (c.toNat : Int)
theorem bytesOf_nums (l : List UInt8) : Lib.bytesOf (nums l) = l := by
  unfold Lib.bytesOf nums
  rw [List.map_map]
  conv => rhs; rw [← List.map_id l]
  apply List.map_congr_left
  intro c _
  simp
theorem nums_len (l : List UInt8) : (nums l).length = l.length := by simp [nums]
theorem nums_getD (l : List UInt8) (i : Nat) (h : i < l.length) : (nums l).getD i 0 = (l[i].toNat : Int) := by
  simp [nums, List.getD, List.getElem?_eq_getElem h]
theorem bytesIn_of {w : World} {A : Option Addr} {l : List UInt8} (h : Rb w A l) : Lib.BytesIn w A l.length (nums l) := fun hp => by
  obtain ⟨b, o, rfl, hc⟩ := h (by simpa using hp)
  refine ⟨b, o, rfl, fun i hi => ?_⟩
  rw [hc i (bv l[i]) (by simp [List.getElem?_eq_getElem hi]), nums_getD l i hi]
  rfl

/-- cut at the first CR and LF -/
def cutE : List UInt8 → Option (List UInt8 × List UInt8)
  | [] => none
  | c :: r => if ([13, 10] : List UInt8).isPrefixOf (c :: r) = true then some ([], r.drop 1) else (cutE r).map fun p => (c :: p.1, p.2)
theorem cutE_some : ∀ {l a b : List UInt8}, cutE l = some (a, b) → l = a ++ 13 :: 10 :: b ∧ Lib.index l [13, 10] = (a.length : Int)
  | [], _, _, h => by simp [cutE] at h
  | c :: r, a, b, h => by
    unfold cutE at h
    by_cases hc : ([13, 10] : List UInt8).isPrefixOf (c :: r) = true
    · rw [if_pos hc] at h
      cases h
      refine ⟨?_, ?_⟩
      · obtain ⟨t, ht⟩ := List.isPrefixOf_iff_prefix.1 hc
        simp only [List.cons_append, List.nil_append, List.cons.injEq] at ht
        obtain ⟨rfl, rfl⟩ := ht
        rfl
      · unfold Lib.index
        rw [if_pos hc]
        rfl
    · rw [if_neg hc, Option.map_eq_some_iff] at h
      obtain ⟨⟨a', b'⟩, h1, h2⟩ := h
      cases h2
      obtain ⟨e, hi⟩ := cutE_some h1
      refine ⟨by rw [e]; rfl, ?_⟩
      unfold Lib.index
      rw [if_neg hc, hi]
      have hne : (((a'.length : Int)) == -1) = false := by rw [beq_eq_false_iff_ne]; omega
      rw [hne]
      simp
theorem cutE_none : ∀ {l : List UInt8}, cutE l = none → Lib.index l [13, 10] = -1
  | [], _ => rfl
  | c :: r, h => by
    unfold cutE at h
    by_cases hc : ([13, 10] : List UInt8).isPrefixOf (c :: r) = true
    · rw [if_pos hc] at h
      cases h
    · rw [if_neg hc, Option.map_eq_none_iff] at h
      unfold Lib.index
      rw [if_neg hc, cutE_none h]
      rfl
/-- what bytes.Cut hands back -/
def CutEOut (A : Option Addr) (n c : Nat) (l : List UInt8) (e : Ending) (w' : World) : Prop :=
  match cutE l with
  | some (a, b) => ∃ B d, e = .returned (.tuple #[.slice A a.length c, .slice B b.length d, .bool true]) ∧ Rb w' A a ∧ Rb w' B b ∧ b.length ≤ d ∧ Pl B d ∧ a.length ≤ c
  | none => e = .returned (.tuple #[.slice A n c, .slice none 0 0, .bool false])
theorem cutE_any (A B2 : Option Addr) (l : List UInt8) (n c d : Nat) (w : World) (hw : Mx w) (hn : l.length = n) (hA : Rb w A l) (hnc : n ≤ c) (hpl : Pl A c) (hs : Rb w B2 [13, 10]) (hb : n ≤ 4000000000) :
    Calls Tryz.prog 22 #[.slice A n c, .slice B2 2 d] w fun e w' => CutEOut A n c l e w' ∧ Dn w w' := by
  subst hn
  obtain ⟨m, hm⟩ := hw
  have h := Tryz.bytes_Cut_all A B2 l.length c 2 d (nums l) (nums [13, 10]) m w (nums_len l) rfl (fun x hx => by
    obtain ⟨u, _, rfl⟩ := List.mem_map.1 hx
    have := u.toNat_lt
    omega) (by decide) (bytesIn_of hA) (bytesIn_of hs) (fun e => by
    rcases hpl with ⟨_, h⟩ | ⟨b, o, h⟩
    · exact h
    · rw [h] at e; cases e) hnc (by omega) (by omega) hm
  rw [bytesOf_nums, bytesOf_nums] at h
  refine h.mono ?_
  rintro e w' ⟨rfl, hq⟩
  refine ⟨?_, hq⟩
  obtain ⟨q, rfl⟩ := hq
  unfold CutEOut
  cases hcut : cutE l with
  | none =>
    rw [cutE_none hcut]
    rfl
  | some p =>
    obtain ⟨a, b⟩ := p
    obtain ⟨hl, hi⟩ := cutE_some hcut
    rw [hi]
    have hll : l.length = a.length + b.length + 2 := by rw [hl]; simp; omega
    have hA' : Rb (w.drewN q) A l := hA.drewN q
    obtain ⟨b0, o0, rfl, _⟩ := hA (by simp; omega)
    have ha : Rb (w.drewN q) (some ⟨b0, o0, none⟩) a := by
      have := hA'.take a.length
      rwa [hl, List.take_left'] at this
      rfl
    have hbr : Rb (w.drewN q) (some ⟨b0, o0 + (a.length + 2), none⟩) b := by
      have := hA'.drop (a.length + 2)
      rwa [hl, show a ++ 13 :: 10 :: b = (a ++ [13, 10]) ++ b by simp, List.drop_left' (by simp)] at this
    unfold Lib.cutV
    rw [if_pos (by omega)]
    unfold Lib.fromV
    simp only [Int.toNat_natCast]
    by_cases hc : c = a.length + 2
    · rw [if_pos hc]
      have hb0 : b = [] := List.eq_nil_of_length_eq_zero (by omega)
      subst hb0
      refine ⟨_, c - (a.length + 2), ?_, ha, Rb.nil _ _, by simp, .inr ⟨b0, o0, rfl⟩, by omega⟩
      congr 5
      simp at hll ⊢
      omega
    · rw [if_neg hc]
      refine ⟨_, c - (a.length + 2), ?_, ha, hbr, by omega, .inr ⟨_, _, rfl⟩, by omega⟩
      have e1 : l.length - (a.length + 2) = b.length := by omega
      rw [e1, Option.map_some, Go.WideShapes.add_plain]

theorem clone_any (A : Option Addr) (l : List UInt8) (n c : Nat) (w : World) (hn : l.length = n) (hA : Rb w A l) (hnc : n ≤ c) (hpl : Pl A c) (hb : n ≤ 1000000000) :
    Calls Tryz.prog 23 #[.slice A n c] w fun e w' => (∃ v, e = .returned v ∧ w'.ownsRow w.heap.size 5 1 v n (l.map bv)) ∧ Below w.heap.size w w' := by
  subst hn
  rcases hpl with ⟨rfl, rfl⟩ | ⟨b, o, rfl⟩
  · have h0 : l = [] := List.eq_nil_of_length_eq_zero (by omega)
    subst h0
    refine (AnyE.slices_Clone_nil Tryz.cloneB 0 0 w).mono ?_
    rintro e w' ⟨rfl, rfl⟩
    exact ⟨⟨_, rfl, World.ownsRow_nil _ _ _ _⟩, Below.refl _ _⟩
  · obtain ⟨i0, h1, h2, h3, h4⟩ := info_parts infoU8
    refine (AnyE.slices_Clone Tryz.cloneB i0 (.int .u8 0) 1 1 h1 h2 h3 h4 rfl (by omega) Tryz.sizeOf5 b o l.length c (l.map bv) w (by simp) (by unfold maxLen; omega) (by omega) (fun j u hj => ?_) (bv_one l)).mono ?_
    · obtain ⟨b', o', e, hc⟩ := hA (by have := lt_of_get hj; omega)
      cases e
      exact hc j u hj
    · rintro e w' ⟨v, rfl, hv, _, hb⟩
      exact ⟨⟨v, rfl, hv⟩, hb⟩

theorem addrP_err {l : List UInt8} {k : Nat} (h : addrP l = .error k) : k = 3 ∨ k = 5 := by
  unfold addrP at h
  cases hb : bareP l with
  | error e =>
    rw [hb] at h
    cases h
    exact bareP_err _ _ _ (Nat.le_refl _) hb
  | ok b =>
    rw [hb] at h
    simp only at h
    split at h
    · cases h
      exact .inl rfl
    · unfold addrAt at h
      split at h
      · cases h
        exact .inl rfl
      · split at h
        · cases h
        · cases h
          exact .inl rfl
/-- what stands between < and > -/
def adr (s : List UInt8) : List UInt8 := Lib.trimSuffix (Lib.trimPrefix s [60]) [62]
def isOk (r : Except Nat (List UInt8)) (l : List UInt8) : Bool := match r with
  | .ok o => o == l
  | .error _ => false
/-- is that an address as it is told? -/
def adrOk (s : List UInt8) : Bool := Lib.hasPrefix s [60] && Lib.hasSuffix (Lib.trimPrefix s [60]) [62] && isOk (addrP (adr s)) (adr s)
theorem adr_len (s : List UInt8) : (adr s).length ≤ s.length := by
  unfold adr Lib.trimSuffix Lib.trimPrefix
  split <;> split <;> simp <;> omega

set_option maxHeartbeats 1000000 in
theorem address_any (s : List UInt8) (w : World) (hw : Mx w) (hl : s.length ≤ 1000000) :
    Calls Tryz.prog 26 #[.string (bs s)] w fun e w' => e = .returned (.tuple #[.string (bs (adr s)), .bool (adrOk s)]) ∧ Below w.heap.size w w' := by
  have h1 := fun W => Tryz.strings_CutPrefix (bs s) ⟨#[60]⟩ W
  obtain ⟨s1, hs1⟩ : ∃ s1, Lib.trimPrefix s [60] = s1 := ⟨_, rfl⟩
  have hl1 : s1.length ≤ s.length := by rw [← hs1]; unfold Lib.trimPrefix; split <;> simp <;> omega
  have h2 := fun W => Tryz.strings_CutSuffix (bs s1) ⟨#[62]⟩ W (by rw [bs_size]; omega)
  rw [bs_toList] at h1 h2
  change ∀ W, Calls Tryz.prog _ _ W fun e w' => e = .returned (.tuple #[.string ⟨(Lib.trimPrefix s [60]).toArray⟩, .bool (Lib.hasPrefix s [60])]) ∧ w' = W at h1
  change ∀ W, Calls Tryz.prog _ _ W fun e w' => e = .returned (.tuple #[.string ⟨(Lib.trimSuffix s1 [62]).toArray⟩, .bool (Lib.hasSuffix s1 [62])]) ∧ w' = W at h2
  have hal := adr_len s
  have ha0 : adr s = Lib.trimSuffix s1 [62] := by rw [← hs1]; rfl
  have hok : adrOk s = (Lib.hasPrefix s [60] && Lib.hasSuffix s1 [62] && isOk (addrP (adr s)) (adr s)) := by rw [← hs1]; rfl
  rw [← ha0] at h2
  rw [hs1] at h1
  have h3 := fun W hW => addr_any (adr s) W hW (by omega)
  obtain ⟨z1, hz1⟩ : ∃ z, Lib.hasPrefix s [60] = z := ⟨_, rfl⟩
  obtain ⟨z2, hz2⟩ : ∃ z, Lib.hasSuffix s1 [62] = z := ⟨_, rfl⟩
  obtain ⟨a, ha⟩ : ∃ a, adr s = a := ⟨_, rfl⟩
  rw [hz1] at h1 hok
  rw [hz2] at h2 hok
  rw [ha] at h2 h3 hok ⊢
  have HOK := Lib.hid hok
  clear hok hz1 hz2 ha ha0 hs1 hal
  have h1' : ∀ W, Calls Tryz.prog 46 #[.string (bs s), .string ⟨#[60]⟩] W fun e w' => e = .returned (.tuple #[.string (bs s1), .bool z1]) ∧ w' = W := h1
  have h2' : ∀ W, Calls Tryz.prog 47 #[.string (bs s1), .string ⟨#[62]⟩] W fun e w' => e = .returned (.tuple #[.string (bs a), .bool z2]) ∧ w' = W := h2
  clear h1 h2
  unfold BareOut at h3
  cases hap : addrP a with
  | error k =>
    rw [hap] at h3
    have hk : ((k : Int) == 0) = false := by
      have := addrP_err hap
      rw [beq_eq_false_iff_ne]
      omega
    have hfin : adrOk s = false := by rw [HOK.out, hap]; simp [isOk]
    have HF := Lib.hid hfin
    clear hap hfin
    go_enter Tryz.func26, Tryz.ntmps26
    go_wp2_with fail
    refine (h1' _).mono ?_
    rintro e w1 ⟨rfl, rfl⟩
    go_wp2_with fail
    refine (h2' _).mono ?_
    rintro e w2 ⟨rfl, rfl⟩
    go_wp2_with fail
    refine (h3 _ hw).mono ?_
    rintro e w3 ⟨rfl, hb3⟩
    rcases z1 with _ | _
    · go_wp2_with fail
      go_ret2
      exact ⟨by rw [HF.out]; rfl, hb3⟩
    · rcases z2 with _ | _
      · go_wp2_with fail
        go_ret2
        exact ⟨by rw [HF.out]; rfl, hb3⟩
      · go_wp2_with fail
        go_ret2
        exact ⟨by rw [HF.out]; rfl, hb3⟩
  | ok o =>
    rw [hap] at h3
    have hfin : adrOk s = (z1 && z2 && (o == a)) := by
      rw [HOK.out, hap]
      rfl
    have HF := Lib.hid hfin
    clear hap hfin
    go_enter Tryz.func26, Tryz.ntmps26
    go_wp2_with fail
    refine (h1' _).mono ?_
    rintro e w1 ⟨rfl, rfl⟩
    go_wp2_with fail
    refine (h2' _).mono ?_
    rintro e w2 ⟨rfl, rfl⟩
    go_wp2_with fail
    refine (h3 _ hw).mono ?_
    rintro e w3 ⟨rfl, hb3⟩
    rcases z1 with _ | _
    · go_wp2_with fail
      go_ret2
      exact ⟨by rw [HF.out]; rfl, hb3⟩
    · rcases z2 with _ | _
      · go_wp2_with fail
        go_ret2
        exact ⟨by rw [HF.out]; rfl, hb3⟩
      · go_wp2_with fail
        go_ret2
        exact ⟨by rw [HF.out]; rfl, hb3⟩
end Go.Proofs.YtddjabjloplhiaaGreatDoor
