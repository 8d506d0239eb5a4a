/- letter's Write; the statements of layer 11: speaks, great. -/
import Derived.Test.YtgohdohkikkeeaaDoorV3
import Derived.Test.YtgohdohkikkeeaaDoorB11
namespace Go.Proofs.YtgohdohkikkeeaaDoor
set_option linter.unusedVariables false
set_option linter.unusedSimpArgs false
open Go.RowKit

/-- a mail's bytes -/
def writeP (fs : List (List UInt8 × List UInt8)) (bd : List UInt8) : Except Nat (List UInt8) :=
  if rightF fs then
    if 200 < fs.length ∨ 65536 < (foldAll fs ++ [13, 10]).length ∨ 2097152 < bd.length + (foldAll fs ++ [13, 10]).length then .error 4 else .ok (foldAll fs ++ [13, 10] ++ bd)
  else .error 3
/-- what Write answers -/
def WriteOut (fs : List (List UInt8 × List UInt8)) (bd : List UInt8) (w : World) (e : Ending) (w' : World) : Prop :=
  (match writeP fs bd with
  | .error x => e = .returned (.tuple #[.slice none 0 0, .int .i64 (x : Int)])
  | .ok l => ∃ v, e = .returned (.tuple #[v, .int .i64 0]) ∧ w'.ownsRow w.heap.size 5 1 v l.length (l.map bv)) ∧ Below w.heap.size w w'
theorem right_no {fs : List (List UInt8 × List UInt8)} {k : Nat} {p : List UInt8 × List UInt8} (hp : fs[k]? = some p) (h : (nmOk p.1 && vlOk p.2) = false) : rightF fs = false := all_hit _ hp h
theorem right_take {fs : List (List UInt8 × List UInt8)} {k : Nat} {p : List UInt8 × List UInt8} (hp : fs[k]? = some p) (h : (nmOk p.1 && vlOk p.2) = true) (hk : rightF (fs.take k) = true) : rightF (fs.take (k + 1)) = true := by
  unfold rightF at *
  rw [all_take _ _ hp, hk, h]
  rfl

set_option maxRecDepth 100000 in
set_option maxHeartbeats 2000000 in
theorem write_any (A A2 : Option Addr) (fs : List (List UInt8 × List UInt8)) (bd : List UInt8) (n c n2 c2 : Nat) (w : World) (hn : fs.length = n) (hn2 : bd.length = n2) (hA : Rf w A fs) (hA2 : Rb w A2 bd)
    (hs : ∀ p ∈ fs, p.1.length ≤ 9223372036854775807 ∧ p.2.length ≤ 9223372036854775807) (hb : n ≤ 1000000) (hb2 : n2 ≤ 9223372036854775807) :
    Calls Tryd.prog 39 #[.agg #[.slice A n c, .slice A2 n2 c2]] w (WriteOut fs bd w) := by
  have HN := Lib.hid hn
  have HN2 := Lib.hid hn2
  have HS := Lib.hid hs
  clear hn hn2 hs
  have hB0 : Below w.heap.size w (w.alloc (.cells #[.slice A n c, .slice A2 n2 c2] 41)) := (Below.refl _ _).alloc (Nat.le_refl _) _
  have c00 : (w.alloc (.cells #[.slice A n c, .slice A2 n2 c2] 41)).cell? ⟨w.heap.size, 0, none⟩ = some (.slice A n c) := by simp
  have c01 : (w.alloc (.cells #[.slice A n c, .slice A2 n2 c2] 41)).cell? ⟨w.heap.size, 1, none⟩ = some (.slice A2 n2 c2) := by simp
  have hW0 : w.heap.size + 1 ≤ (w.alloc (.cells #[.slice A n c, .slice A2 n2 c2] 41)).heap.size := by simp
  go_enter Tryd.func39, Tryd.ntmps39
  go_wp2_with fail
  generalize w.alloc (.cells #[.slice A n c, .slice A2 n2 c2] 41) = W0 at *
  have hs0 := hB0.size
  go_loopw [2, 11] (fun x i wr => ∃ k N : Nat, i = .int .i64 k ∧ k ≤ n ∧ N ≤ 24646 * k ∧ Hid (rightF (fs.take k) = true) ∧ wr.ownsRow W0.heap.size 5 1 x N ((foldAll (fs.take k)).map bv) ∧ Below W0.heap.size W0 wr) (fun _ i _ => n - (intOf i).toNat)
  case atStart => exact ⟨0, 0, rfl, by omega, by omega, Lib.hid rfl, World.ownsRow_nil _ _ _ _, Below.refl _ _⟩
  case round =>
    obtain ⟨k, N, rfl, hk, hN, hrk, hown, hC⟩ := hrel
    have hB := hB0.trans (hC.mono hs0)
    have hsC := hC.size
    by_cases hlt : k < n
    · obtain ⟨b, o, p, rfl, hp, g0, g1⟩ := (hA.below hB).one (k := k) (by rw [HN.out]; exact hlt)
      obtain ⟨l1, l2⟩ := HS.out p (List.mem_of_getElem? hp.out)
      have hfl := foldF_len p.1 p.2
      have hst2 : foldAll (fs.take (k + 1)) = foldAll (fs.take k) ++ foldF p.1 p.2 := by rw [take_succ_of hp.out, foldAll_snoc]
      have HST := Lib.hid hst2
      have hrno := Lib.hid (right_no hp.out)
      have hrok := Lib.hid (fun h => right_take hp.out h hrk.out)
      have hAl : Below W0.heap.size W0 (wr.alloc (.cells #[.string (bs p.1), .string (bs p.2)] 28)) := hC.alloc hsC _
      clear hst2
      go_wp2_with fail
      refine (fold_any p.1 p.2 _ l1 l2).mono ?_
      rintro e w5 ⟨hfo, hb5⟩
      have hC5 := hAl.trans (hb5.mono hAl.size)
      have hs5 := hC5.size
      have hB5 := hB0.trans (hC5.mono hs0)
      rcases hfo with ⟨hnm, hvl, x', rfl, hx'⟩ | ⟨hno, rfl⟩
      · obtain ⟨XA, xc, rfl, hxc, _, hXR, _⟩ := hx'.form
        have hnl := (nmOk_len hnm).2
        have hvll := vlOk_len hvl
        have hown5 := own_below (hown.alloc (.cells #[.string (bs p.1), .string (bs p.2)] 28)) hb5
        have hXRb : Rb w5 XA (foldF p.1 p.2) := hXR
        have HOK := Lib.hid (hrok.out (by rw [hnm, hvl]; rfl))
        clear hrok hrno hrk
        generalize foldF p.1 p.2 = ff at *
        go_wp2_with (at_builtin; refine wpList_app rfl (.tmp 23) (.tmp 24) _ _ rfl TU8 hown5 rfl (Src_rb Tryd.underlying23 rfl hXRb) rfl (by omega) hs5 ?_; intro v6 w6 hown6 hgr6 hat6; have hB6 := below_app hC5 hown5 hgr6 hs5 (Nat.le_refl _))
        go_roundw
        case rel => exact ⟨k + 1, N + ff.length, by go_num, by omega, by omega, HOK, by rw [HST.out, List.map_append]; exact hown6, hB6⟩
        case measure => simp [intOf]; omega
      · have HNO := Lib.hid (hrno.out hno)
        clear hrok hrno hrk
        go_wp2_with fail
        go_ret2
        exact ⟨by unfold writeP; rw [if_neg (by rw [HNO.out]; simp)]; rfl, hB5⟩
    · obtain rfl : k = n := by omega
      have hfa : fs.take k = fs := List.take_of_length_le (by rw [HN.out]; omega)
      rw [hfa] at hown hrk
      have HRK := hrk
      clear hfa
      have hcr0 := (hC.cell (p := ⟨w.heap.size, 0, none⟩) (cell_lt c00)).trans c00
      have hcr1 := (hC.cell (p := ⟨w.heap.size, 1, none⟩) (cell_lt c01)).trans c01
      have hown7 := hown
      have hl : (foldAll fs).length = N := by simpa using hown.1
      have hNN : N ≤ 24646000000 := by omega
      have hwr : writeP fs bd = if 200 < k ∨ 65536 < N + 2 ∨ 2097152 < n2 + (N + 2) then .error 4 else .ok (foldAll fs ++ [13, 10] ++ bd) := by
        unfold writeP
        rw [if_pos HRK.out, List.length_append, hl, HN.out, HN2.out]
        rfl
      have HWR := Lib.hid hwr
      have HL := Lib.hid hl
      clear hown hl hwr
      obtain ⟨M, hM⟩ : ∃ M, N + 2 = M := ⟨_, rfl⟩
      have hMM : M ≤ 24646000002 := by omega
      have HM := Lib.hid hM
      have hw2 : ∀ (v : Value) (w6 : World) (xs : List Value), w6.ownsRow W0.heap.size 5 1 v (N + [13, 10].length) xs → w6.ownsRow W0.heap.size 5 1 v M xs := fun v w6 xs h => by rw [← hM]; exact h
      clear hM
      by_cases h1 : 200 < k
      · have HE := Lib.hid (show writeP fs bd = .error 4 by rw [HWR.out, if_pos (.inl h1)])
        clear HM
        go_wp2_with (at_builtin; refine wpList_app rfl (.tmp 27) (.const (.string ⟨#[13, 10]⟩)) _ _ rfl TU8 hown7 rfl (Src_str Tryd.underlying9 [13, 10]) rfl (by simp; omega) hsC ?_; intro v6 w6 hown60 hgr6 hat6; have hown6 := hw2 _ _ _ hown60; clear hown60; have hC6 := below_app hC hown7 hgr6 hsC (Nat.le_refl _); have d60 := (hC6.cell (p := ⟨w.heap.size, 0, none⟩) (cell_lt c00)).trans c00; have d61 := (hC6.cell (p := ⟨w.heap.size, 1, none⟩) (cell_lt c01)).trans c01)
        go_ret2
        exact ⟨by rw [HE.out]; rfl, hB0.trans (hC6.mono hs0)⟩
      · by_cases h2 : 65536 < M
        · have HE := Lib.hid (show writeP fs bd = .error 4 by rw [HWR.out, if_pos (.inr (.inl (by rw [HM.out]; exact h2)))])
          have h2i : (65536 : Int) < (M : Int) := by omega
          clear h2
          go_wp2_with (at_builtin; refine wpList_app rfl (.tmp 27) (.const (.string ⟨#[13, 10]⟩)) _ _ rfl TU8 hown7 rfl (Src_str Tryd.underlying9 [13, 10]) rfl (by simp; omega) hsC ?_; intro v6 w6 hown60 hgr6 hat6; have hown6 := hw2 _ _ _ hown60; clear hown60; have hC6 := below_app hC hown7 hgr6 hsC (Nat.le_refl _); have d60 := (hC6.cell (p := ⟨w.heap.size, 0, none⟩) (cell_lt c00)).trans c00; have d61 := (hC6.cell (p := ⟨w.heap.size, 1, none⟩) (cell_lt c01)).trans c01; have hown9 := hown6; obtain ⟨Z, z, rfl, _, _, _, _⟩ := own_form hown9)
          go_ret2
          exact ⟨by rw [HE.out]; rfl, hB0.trans (hC6.mono hs0)⟩
        · have h2i : (M : Int) ≤ 65536 := by omega
          by_cases h3 : 2097152 < n2 + M
          · have HE := Lib.hid (show writeP fs bd = .error 4 by rw [HWR.out, if_pos (.inr (.inr (by rw [HM.out]; exact h3)))])
            have h3i : (2097152 : Int) - (M : Int) < (n2 : Int) := by omega
            clear h2 h3
            go_wp2_with (at_builtin; refine wpList_app rfl (.tmp 27) (.const (.string ⟨#[13, 10]⟩)) _ _ rfl TU8 hown7 rfl (Src_str Tryd.underlying9 [13, 10]) rfl (by simp; omega) hsC ?_; intro v6 w6 hown60 hgr6 hat6; have hown6 := hw2 _ _ _ hown60; clear hown60; have hC6 := below_app hC hown7 hgr6 hsC (Nat.le_refl _); have d60 := (hC6.cell (p := ⟨w.heap.size, 0, none⟩) (cell_lt c00)).trans c00; have d61 := (hC6.cell (p := ⟨w.heap.size, 1, none⟩) (cell_lt c01)).trans c01; have hown9 := hown6; obtain ⟨Z, z, rfl, _, _, _, _⟩ := own_form hown9)
            go_ret2
            exact ⟨by rw [HE.out]; rfl, hB0.trans (hC6.mono hs0)⟩
          · have HE := Lib.hid (show writeP fs bd = .ok (foldAll fs ++ [13, 10] ++ bd) by rw [HWR.out, if_neg (by rw [HM.out]; rintro (h | h | h) <;> omega)])
            have h3i : ¬ (2097152 : Int) - (M : Int) < (n2 : Int) := by omega
            have hn2 : n2 ≤ 2097152 := by omega
            clear h2 h3
            go_wp2_with (first
              | (at_builtin; refine wpList_app rfl (.tmp 27) (.const (.string ⟨#[13, 10]⟩)) _ _ rfl TU8 hown7 rfl (Src_str Tryd.underlying9 [13, 10]) rfl (by simp; omega) hsC ?_; intro v6 w6 hown60 hgr6 hat6; have hown6 := hw2 _ _ _ hown60; clear hown60; have hC6 := below_app hC hown7 hgr6 hsC (Nat.le_refl _); have d60 := (hC6.cell (p := ⟨w.heap.size, 0, none⟩) (cell_lt c00)).trans c00; have d61 := (hC6.cell (p := ⟨w.heap.size, 1, none⟩) (cell_lt c01)).trans c01; have hown9 := hown6; have hs6 := hC6.size; obtain ⟨Z, z, rfl, _, _, _, _⟩ := own_form hown6)
              | (at_builtin; refine wpList_app rfl (.tmp 47) (.tmp 49) _ _ rfl TU8 hown9 rfl (Src_rb Tryd.underlying23 HN2.out (hA2.below (hB0.trans (hC6.mono hs0)))) rfl (by simp; omega) hs6 ?_; intro v8 w8 hown8 hgr8 hat8; have hC8 := below_app hC6 hown9 hgr8 hs6 (Nat.le_refl _)))
            go_ret2
            refine ⟨?_, hB0.trans (hC8.mono hs0)⟩
            rw [HE.out]
            refine ⟨_, rfl, ?_⟩
            have e : (foldAll fs ++ [13, 10] ++ bd).length = M + n2 := by rw [← HM.out]; simp only [List.length_append, HL.out, HN2.out]; rfl
            rw [e, List.map_append, List.map_append]
            exact own_base hown8 hs0
theorem writeEx : writeP [([65], [98])] [99] = .ok [65, 58, 32, 98, 13, 10, 13, 10, 99] := by
  have h1 : rightF [([65], [98])] = true := by decide
  have h2 : foldAll [([65], [98])] = [65, 58, 32, 98, 13, 10] := by decide
  unfold writeP
  rw [if_pos h1, h2, if_neg (by decide)]
  rfl

set_option maxRecDepth 100000 in
set_option maxHeartbeats 2000000 in
theorem speaks11_any (w : World) : Calls Tryd.prog 18 #[] w fun e w' => e = .returned (.bool true) ∧ Below w.heap.size w w' := by
  have kc := fun (w : World) (C : Array Value) (n c : Nat) => Lib.run_convert_bytes_const (P := Tryd.prog) w 23 5 C n c Tryd.underlying23 Tryd.underlying5
  have kc1 := kc (w.alloc (.cells #[.string ⟨#[65]⟩, .string ⟨#[98]⟩] 28)) #[.int .u8 99] 1 1
  simp at kc1
  clear kc
  go_enter Tryd.func18, Tryd.ntmps18
  go_wp2_with fail
  have hr0 : Rf ((w.alloc (.cells #[.string ⟨#[65]⟩, .string ⟨#[98]⟩] 28)).alloc (.cells #[.int .u8 99] 5 (1, 2))) (some ⟨w.heap.size, 0, none⟩) [([65], [98])] :=
    Rv.below (Rv_new w #[.string ⟨#[65]⟩, .string ⟨#[98]⟩] (fcells [([65], [98])]) _ rfl) ((Below.refl _ _).alloc (Nat.le_refl _) _)
  have hr1 : Rb ((w.alloc (.cells #[.string ⟨#[65]⟩, .string ⟨#[98]⟩] 28)).alloc (.cells #[.int .u8 99] 5 (1, 2))) (some ⟨w.heap.size + 1, 0, none⟩) [99] := by
    have h := Rb_new (w.alloc (.cells #[.string ⟨#[65]⟩, .string ⟨#[98]⟩] 28)) [99] 5 #[.int .u8 99] rfl 1 (1, 2)
    simpa using h
  have hA0 : Below w.heap.size w ((w.alloc (.cells #[.string ⟨#[65]⟩, .string ⟨#[98]⟩] 28)).alloc (.cells #[.int .u8 99] 5 (1, 2))) := ((Below.refl _ _).alloc (Nat.le_refl _) _).alloc (by simp) _
  refine (write_any (some ⟨w.heap.size, 0, none⟩) (some ⟨w.heap.size + 1, 0, none⟩) [([65], [98])] [99] 1 1 1 1 _ rfl rfl hr0 hr1 (by simp) (by omega) (by omega)).mono ?_
  rintro e w1 ⟨hwo, hb1⟩
  rw [writeEx] at hwo
  obtain ⟨v, rfl, hv⟩ := hwo
  have hB1 := hA0.trans (hb1.mono hA0.size)
  obtain ⟨vA, vc, rfl, _, _, hvR, _⟩ := own_form hv
  have hcv := conv_str (P := Tryd.prog) (src := 23) (dst := 9) (e := 5) Tryd.underlying23 Tryd.underlying5 Tryd.underlying9 (n := 9) (c := vc) (show Rb w1 vA [65, 58, 32, 98, 13, 10, 13, 10, 99] from hvR) rfl
  clear hr0 hr1 hvR hv
  go_wp2_with fail
  go_ret
  exact ⟨rfl, hB1⟩

set_option maxRecDepth 100000 in
set_option maxHeartbeats 2000000 in
theorem great_any (A A2 : Option Addr) (fs : List (List UInt8 × List UInt8)) (n c n2 c2 : Nat) (w : World) (hn : fs.length = n) (hA : Rf w A fs)
    (hs : ∀ p ∈ fs, p.1.length ≤ 9223372036854775807 ∧ p.2.length ≤ 9223372036854775807) :
    Calls Tryd.prog 19 #[.agg #[.slice A n c, .slice A2 n2 c2]] w fun e w' => (e = .returned (.bool true) ∨ (e = .returned (.bool false) ∧ n ≤ 300 ∧ n2 ≤ 3000)) ∧ Below w.heap.size w w' := by
  have HN := Lib.hid hn
  have HS := Lib.hid hs
  clear hn hs
  have hB0 : Below w.heap.size w (w.alloc (.cells #[.slice A n c, .slice A2 n2 c2] 41)) := (Below.refl _ _).alloc (Nat.le_refl _) _
  by_cases h1 : 300 < n
  · go_enter Tryd.func19, Tryd.ntmps19
    go_wp2_with fail
    go_ret
    exact ⟨.inl rfl, hB0⟩
  by_cases h2 : 3000 < n2
  · go_enter Tryd.func19, Tryd.ntmps19
    go_wp2_with fail
    go_ret
    exact ⟨.inl rfl, hB0⟩
  go_enter Tryd.func19, Tryd.ntmps19
  go_wp2_with fail
  go_loopw [18] (fun i wr => ∃ k : Nat, i = .int .i64 k ∧ k ≤ n ∧ Below w.heap.size w wr) (fun i _ => n - (intOf i).toNat)
  case atStart => exact ⟨0, rfl, by omega, hB0⟩
  case round =>
    obtain ⟨k, rfl, hk, hB⟩ := hrel
    by_cases hlt : k < n
    · obtain ⟨b, o, p, rfl, hp, g0, g1⟩ := (hA.below hB).one (k := k) (by rw [HN.out]; exact hlt)
      obtain ⟨l1, l2⟩ := HS.out p (List.mem_of_getElem? hp.out)
      have hB4 : Below w.heap.size w (wr.alloc (.cells #[.string (bs p.1), .string (bs p.2)] 28)) := hB.alloc hB.size _
      by_cases h3 : 9000 < p.2.length
      · go_wp2_with fail
        go_ret
        exact ⟨.inl rfl, hB4⟩
      · go_wp2_with fail
        go_roundw
        case rel => exact ⟨k + 1, by go_num, by omega, hB4⟩
        case measure => simp [intOf]; omega
    · go_wp2_with fail
      go_ret
      exact ⟨.inr ⟨rfl, by omega, by omega⟩, hB⟩
end Go.Proofs.YtgohdohkikkeeaaDoor
