/- The program's Send. -/
import Derived.Test.YtddjabjloplhiaaGreatDoorW9
namespace Go.Proofs.YtddjabjloplhiaaGreatDoor
set_option linter.unusedVariables false
set_option linter.unusedSimpArgs false
open Go.RowKit

theorem OwnM.made (w : World) (xs : List Value) (e : TypeId) (n : Nat) (hn : xs.length = n) (hm : n ≤ maxLen) : OwnM (w.alloc (.cells xs.toArray e)) w.heap.size e 1 (.slice (some ⟨w.heap.size, 0, none⟩) n n) n xs :=
  ⟨by rw [hn, Nat.mul_one], .inr ⟨w.heap.size, n, xs.toArray, (0, 0), rfl, Nat.le_refl _, heap_alloc_new w _, .inl rfl, Nat.le_refl _, hm, by simp [hn], by rw [Nat.mul_one, ← hn]; simp⟩⟩
theorem sendL_snoc (frm : List UInt8) {tos : List (List UInt8)} {q : Nat} {a : List UInt8} (h : tos[q]? = some a) : sendL frm (tos.take (q + 1)) = sendL frm (tos.take q) ++ [rcptL a] := by
  rw [take_succ_of h]
  simp [sendL]
theorem joinE_join : ∀ (x : List UInt8) (ls : List (List UInt8)), Lib.join (x :: ls) [13, 10] ++ [13, 10] = joinE (x :: ls)
  | x, [] => by simp [Lib.join_one, joinE]
  | x, y :: ls => by
    have ih := joinE_join y ls
    rw [Lib.join_cons] at ih ⊢
    rw [joinE_cons, ← ih]
    simp [Lib.joinTail]
theorem joinE_bound : ∀ ls : List (List UInt8), (∀ l ∈ ls, l.length ≤ 1100) → (joinE ls).length ≤ ls.length * 1102
  | [], _ => by simp [joinE]
  | l :: ls, h => by
    have := joinE_bound ls fun x hx => h x (by simp [hx])
    have := h l (by simp)
    rw [joinE_cons]
    simp
    omega
theorem send1_any (l : List UInt8) (w : World) (hl : l.length ≤ 1000000) : Calls Tryz.prog 29 #[.string (bs l)] w fun e w' => e = .returned (.bool (decide (512 < l.length))) ∧ Below w.heap.size w w' := by
  by_cases h : 512 < l.length
  · have hi : (512 : Int) < (l.length : Int) := by omega
    rw [decide_eq_true h]
    clear h
    go_enter Tryz.func29, Tryz.ntmps29
    go_wp2_with fail
    go_ret
    exact ⟨rfl, Below.refl _ _⟩
  · have hi : ¬ (512 : Int) < (l.length : Int) := by omega
    rw [decide_eq_false h]
    clear h
    go_enter Tryz.func29, Tryz.ntmps29
    go_wp2_with fail
    go_ret
    exact ⟨rfl, Below.refl _ _⟩
theorem eg_send1 : ∀ args w, (callFunc 29 args).run Tryz.prog w = .ok (.enter 29 args) w := enters_of Tryz.func29 (by kernel_rfl) rfl

/-- what Send hands back -/
def SendOut (frm : List UInt8) (tos : List (List UInt8)) (b : List UInt8) (w : World) (e : Ending) (w' : World) : Prop :=
  if sendOk frm tos = true then (if tos = [] ∨ 10 < tos.length then e = .returned (.tuple #[.slice none 0 0, .int .i64 2]) else ∃ v, e = .returned (.tuple #[v, .int .i64 0]) ∧ OwnM w' w.heap.size 5 1 v (sendP frm tos b).length ((sendP frm tos b).map bv))
  else e = .returned (.tuple #[.slice none 0 0, .int .i64 3])

set_option maxRecDepth 100000 in
set_option maxHeartbeats 4000000 in
theorem psend_any (frm : List UInt8) (tos : List (List UInt8)) (b : List UInt8) (T Bb : Option Addr) (nt ct nb' cb : Nat) (w : World) (hw : Mx w) (hnt : tos.length = nt) (hT : Rv w T (tos.map sv)) (hnb : b.length = nb') (hBb : Rb w Bb b) (hf : frm.length ≤ 1000) (ht30 : nt ≤ 30) (hb3 : nb' ≤ 3000) (hts : ∀ a ∈ tos, a.length ≤ 1000) :
    Calls Tryz.prog 12 #[.agg #[.string (bs frm), .slice T nt ct, .slice Bb nb' cb]] w fun e w' => SendOut frm tos b w e w' ∧ Below w.heap.size w w' := by
  have HNT := Lib.hid hnt
  have HNB := Lib.hid hnb
  have HTS := Lib.hid hts
  clear hnt hnb hts
  have hbox : Row (w.alloc (.cells #[.string (bs frm), .slice T nt ct, .slice Bb nb' cb] 38)) w.heap.size 38 [.string (bs frm), .slice T nt ct, .slice Bb nb' cb] := Row.new w _ _
  have hbb : Below w.heap.size w (w.alloc (.cells #[.string (bs frm), .slice T nt ct, .slice Bb nb' cb] 38)) := (Below.refl _ _).alloc (Nat.le_refl _) _
  go_enter Tryz.func12, Tryz.ntmps12
  have hmail : ∀ a : List UInt8, (⟨#[77, 65, 73, 76, 32, 70, 82, 79, 77, 58, 60]⟩ : ByteArray) ++ bs a ++ ⟨#[62]⟩ = bs (mailL a) := fun a => by
    rw [show (⟨#[77, 65, 73, 76, 32, 70, 82, 79, 77, 58, 60]⟩ : ByteArray) = bs [77, 65, 73, 76, 32, 70, 82, 79, 77, 58, 60] from rfl, show (⟨#[62]⟩ : ByteArray) = bs [62] from rfl, bs_add, bs_add]
    rfl
  have hrcpt : ∀ a : List UInt8, (⟨#[82, 67, 80, 84, 32, 84, 79, 58, 60]⟩ : ByteArray) ++ bs a ++ ⟨#[62]⟩ = bs (rcptL a) := fun a => by
    rw [show (⟨#[82, 67, 80, 84, 32, 84, 79, 58, 60]⟩ : ByteArray) = bs [82, 67, 80, 84, 32, 84, 79, 58, 60] from rfl, show (⟨#[62]⟩ : ByteArray) = bs [62] from rfl, bs_add, bs_add]
    rfl
  have hang : ∀ a : List UInt8, (⟨#[60]⟩ : ByteArray) ++ bs a ++ ⟨#[62]⟩ = bs (angle a) := fun a => by
    rw [show (⟨#[60]⟩ : ByteArray) = bs [60] from rfl, show (⟨#[62]⟩ : ByteArray) = bs [62] from rfl, bs_add, bs_add]
    rfl
  have hangl : ∀ a : List UInt8, (angle a).length = a.length + 2 := fun a => by simp [angle]
  have hmaill : ∀ a : List UInt8, (mailL a).length = a.length + 12 := fun a => by simp [mailL, angle]
  have hrcptl : ∀ a : List UInt8, (rcptL a).length = a.length + 10 := fun a => by simp [rcptL, angle]
  have HAN := Lib.hid hangl
  have HML := Lib.hid hmaill
  have HRL := Lib.hid hrcptl
  clear hangl hmaill hrcptl
  go_upto_region 2 with fail
  have hown1 := (OwnM.made (w.alloc (.cells #[.string (bs frm), .slice T nt ct, .slice Bb nb' cb] 38)) [sv heloL, sv (mailL frm)] 9 2 rfl (by unfold maxLen; omega)).rebase (b' := w.heap.size) (by simp)
  have hbox2 := hbox.alloc (.cells #[sv heloL, sv (mailL frm)] 9)
  have hbb2 := hbb.alloc hbb.size (.cells #[sv heloL, sv (mailL frm)] 9)
  have hse : (w.alloc (.cells #[.string (bs frm), .slice T nt ct, .slice Bb nb' cb] 38)).heap.size = w.heap.size + 1 := by simp
  rw [hse] at hown1
  obtain ⟨w2, hw2⟩ : ∃ w2, (w.alloc (.cells #[.string (bs frm), .slice T nt ct, .slice Bb nb' cb] 38)).alloc (.cells #[sv heloL, sv (mailL frm)] 9) = w2 := ⟨_, rfl⟩
  change OwnM ((w.alloc (.cells #[.string (bs frm), .slice T nt ct, .slice Bb nb' cb] 38)).alloc (.cells #[sv heloL, sv (mailL frm)] 9)) w.heap.size 9 1 (.slice (some ⟨w.heap.size + 1, 0, none⟩) 2 2) 2 [sv heloL, sv (mailL frm)] at hown1
  rw [hw2] at hown1 hbox2 hbb2
  try simp only [hmail]
  change Code.wp _ _ _ _ ((w.alloc (.cells #[.string (bs frm), .slice T nt ct, .slice Bb nb' cb] 38)).alloc (.cells #[sv heloL, sv (mailL frm)] 9))
  rw [hw2]
  have hs2 := hbb2.size
  have c0 := hbox2.cell (j := 0) rfl
  have c1 := hbox2.cell (j := 1) rfl
  have HBX := Lib.hid hbox2
  have HOW := Lib.hid hown1
  clear hw2 hse hbox hbb hbox2 hown1
  have had := fun (a : List UInt8) W hW (hl : a.length ≤ 1000) => address_any (angle a) W hW (by rw [HAN.out]; omega)
  go_wp2_with fail
  try simp only [hang]
  refine (had frm w2 (hw.below hbb2) hf).mono ?_
  rintro e w3 ⟨rfl, hb3⟩
  have hB3 := hbb2.trans (hb3.mono hs2)
  have HO3 := Lib.hid (HOW.out.below hb3)
  have HB3 := Lib.hid (HBX.out.below hb3)
  have d1 := HB3.out.cell (j := 1) rfl
  have hs3 := hB3.size
  clear HOW HBX hbb2 hb3 c0 c1
  go_wp2_with fail
  go_loopw [4, 6, 32] (fun tv rv i wr => ∃ q : Nat, i = .int .i64 q ∧ q ≤ nt ∧ rv = .bool ((frm :: tos.take q).all fun a => adrOk (angle a)) ∧ OwnM wr w.heap.size 9 1 tv (q + 2) ((sendL frm (tos.take q)).map sv) ∧ Row wr w.heap.size 38 [.string (bs frm), .slice T nt ct, .slice Bb nb' cb] ∧ (∀ k, nb tv k → w.heap.size < k) ∧ Below w.heap.size w wr) (fun _ _ i _ => nt - (intOf i).toNat)
  case atStart =>
    refine ⟨0, rfl, by omega, by simp, ?_, HB3.out, fun k hk => ?_, hB3⟩
    · exact HO3.out
    · have h : w.heap.size + 1 = k := Option.some.inj hk
      omega
  case round =>
    clear HO3 HB3 d1 hB3
    obtain ⟨q, rfl, hq, rfl, hown, hbox, hlv, hB⟩ := hrel
    have hs := hB.size
    have HBX := Lib.hid hbox
    have HLV := Lib.hid hlv
    have HOWN := Lib.hid hown
    obtain ⟨Av, cv, rfl, hqc, _, hRv, _, _, _⟩ := hown.form
    clear hown hlv
    by_cases hlt : q < nt
    · obtain ⟨bt, ot, xv, rfl, hxv, cx⟩ := hT.one (k := q) (by rw [List.length_map, HNT.out]; exact hlt)
      obtain ⟨a, ha⟩ : ∃ a, tos[q]? = some a := ⟨_, List.getElem?_eq_getElem (by rw [HNT.out]; exact hlt)⟩
      have exv : xv = .string (bs a) := by
        have := hxv.out
        rw [List.getElem?_map, ha] at this
        exact (Option.some.inj this).symm
      subst exv
      have cx' : wr.cell? ⟨bt, ot + q, none⟩ = some (.string (bs a)) := (hB.cell (p := ⟨bt, ot + q, none⟩) (cell_lt cx)).trans cx
      have hal := HTS.out a (List.mem_of_getElem? ha)
      have hall : ((frm :: tos.take (q + 1)).all fun a => adrOk (angle a)) = (((frm :: tos.take q).all fun a => adrOk (angle a)) && adrOk (angle a)) := by
        rw [take_succ_of ha]
        simp [Bool.and_assoc]
      have HALL := Lib.hid hall
      have HSN := Lib.hid (sendL_snoc frm ha)
      obtain ⟨z1, hz1⟩ : ∃ z, ((frm :: tos.take q).all fun a => adrOk (angle a)) = z := ⟨_, rfl⟩
      obtain ⟨z2, hz2⟩ : ∃ z, adrOk (angle a) = z := ⟨_, rfl⟩
      rw [hz1, hz2] at HALL
      have haa := had a wr (hw.below hB) hal
      rw [hz2] at haa
      rw [hz1]
      clear hxv cx ha hall hz1 hz2 hbox hRv
      go_wp2_with fail
      try simp only [hang]
      refine haa.mono ?_
      rintro e w4 ⟨rfl, hb4⟩
      have hB4 := hB.trans (hb4.mono hs)
      have hs4 := hB4.size
      have hs44 := hb4.size
      have ho4 := HOWN.out.below hb4
      have hbx4 := HBX.out.below hb4
      have HBX4 := Lib.hid hbx4
      clear haa cx' hbx4 HBX HOWN hb4
      have harm : Hid (OwnM (w4.alloc (.cells #[sv (rcptL a)] 9)) w.heap.size 9 1 (.slice Av (q + 2) cv) (q + 2) ((sendL frm (tos.take q)).map sv)) := Lib.hid (ho4.alloc _)
      cases z1
      all_goals
        go_wp2_with (at_builtin; refine wpList_appM rfl _ _ _ _ rfl TStr4 harm.out rfl (Src_rv (news := [sv (rcptL a)]) Tryz.underlying30 rfl (Rv_new w4 _ _ _ rfl) (by simp [Value.oneCell', sv]) (by omega)) rfl (by omega) (by simp; omega) ?_; intro v5 w5 own5 gr5 at5)
        go_roundw
        case rel =>
          have hx5 : Ext (fun k => nb (.slice Av (q + 2) cv) k) w4 w5 := ((Ext.refl _ w4).alloc _).trans (Ext.of_grown (S := fun k => nb (.slice Av (q + 2) cv) k) gr5 (fun k e => e)) fun _ h => .inl h
          refine ⟨q + 1, by go_num, by omega, by rw [HALL.out]; first | rfl | simp, ?_, hx5.row HBX4.out (fun h => by have := HLV.out _ h; omega), fun k hk => ?_, (hx5.mono (T := fun k => w.heap.size ≤ k) fun k hk => Nat.le_of_lt (HLV.out k hk)).below hB4 hs4 fun _ h => h⟩
          · rw [HSN.out, List.map_append]
            exact own5
          · unfold nb at hk
            rcases at5 with h | h
            · rw [h] at hk; exact HLV.out k hk
            · rw [h] at hk
              have := Option.some.inj hk
              simp at this
              omega
        case measure => simp [intOf]; omega
    · obtain rfl : q = nt := by omega
      have htk : tos.take q = tos := List.take_of_length_le (by rw [HNT.out]; exact Nat.le_refl _)
      rw [htk] at HOWN hRv ⊢
      have d0 := HBX.out.cell (j := 0) rfl
      have d1 := HBX.out.cell (j := 1) rfl
      have d2 := HBX.out.cell (j := 2) rfl
      have hstf := pstuff_any Bb b nb' cb wr (hw.below hB) HNB.out (hBb.below hB) (by omega)
      have hstl := stuff_len b
      rw [HNB.out] at hstl
      have hlal := laid_len b
      rw [HNB.out] at hlal
      have hun := unst_stuff b []
      rw [List.append_nil] at hun
      have HUN := Lib.hid hun
      have hrl : ∀ l ∈ sendL frm tos, l.length ≤ 1100 := fun l hl => by
        unfold sendL at hl
        rcases List.mem_append.1 hl with hl | hl
        · simp at hl
          rcases hl with rfl | rfl
          · decide
          · rw [HML.out]; omega
        · obtain ⟨x, hx, rfl⟩ := List.mem_map.1 hl
          rw [HRL.out]
          have := HTS.out x hx
          omega
      have hsll : (sendL frm tos).length = q + 2 := by unfold sendL; simp [HNT.out]; try omega
      have hjb := joinE_bound (sendL frm tos) hrl
      rw [hsll] at hjb
      have hsok : sendOk frm tos = (((frm :: tos).all fun a => adrOk (angle a)) && !((sendL frm tos).any fun l => decide (512 < l.length))) := by
        unfold sendOk
        congr 1
        rw [List.not_any_eq_all_not]
        congr 1
        funext l
        by_cases h : l.length ≤ 512
        · rw [decide_eq_true h, decide_eq_false (by omega)]; rfl
        · rw [decide_eq_false h, decide_eq_true (by omega)]; rfl
      have HSOK := Lib.hid hsok
      have hct := fun W (hRW : Rv W Av ((sendL frm tos).map sv)) => contf_any (fun l => decide (512 < l.length)) 29 eg_send1 (sendL frm tos) (fun x W hx => send1_any x W (by have := hrl x hx; omega)) Av (q + 2) cv W hsll (by omega) hRW
      obtain ⟨z1, hz1⟩ : ∃ z, ((frm :: tos).all fun a => adrOk (angle a)) = z := ⟨_, rfl⟩
      obtain ⟨z2, hz2⟩ : ∃ z, ((sendL frm tos).any fun l => decide (512 < l.length)) = z := ⟨_, rfl⟩
      rw [hz1, hz2] at HSOK
      rw [hz2] at hct
      rw [hz1]
      have HRR := Lib.hid hrl
      have HSLL := Lib.hid hsll
      clear hbox hun hsok hz1 hz2 hrl hsll htk
      go_wp2_with fail
      refine hstf.mono ?_
      rintro e w6 ⟨⟨v1, rfl, ho1⟩, hb6⟩
      have hB6 := hB.trans (hb6.mono hs)
      obtain ⟨A1, c1, rfl, hl1, _, hR1, _, hz1, hy1⟩ := ho1.form
      have hunc := unstuff_any A1 (stuffP b) (stuffP b).length c1 w6 (hw.below hB6) rfl hR1 hl1 (pl_of hz1 hy1) (by omega)
      unfold UnstOut at hunc
      rw [HUN.out] at hunc
      have hs6 := hB6.size
      have hsz6 := hb6.size
      clear hstf
      go_wp2_with fail
      refine hunc.mono ?_
      rintro e w7 ⟨⟨vl, vr, rfl, hol, _, _⟩, hb7⟩
      have hB7 := hB6.trans (hb7.mono hs6)
      have hb67 := hb6.trans (hb7.mono hsz6)
      obtain ⟨Al, cl, rfl, _, _, _, _⟩ := own_form hol
      have HR1 := Lib.hid (show Rb w7 A1 (stuffP b) from Rb.below hR1 hb7)
      have hlaid : ¬ (2097152 : Int) < ((laidP b).length : Int) := by omega
      have hRv7 := hRv.below hb67
      have hct7 := hct w7 hRv7
      have hs7 := hB7.size
      have HO7 := Lib.hid (HOWN.out.below hb67)
      have e1 := (HBX.out.below hb67).cell (j := 1) rfl
      have HBX7 := Lib.hid (HBX.out.below hb67)
      clear hunc hol hct hRv hR1 ho1 hz1 hy1 hb6 hb7 d0 d1 d2
      cases z1 with
      | false =>
        go_wp2_with fail
        go_ret2
        refine ⟨?_, hB7⟩
        unfold SendOut
        rw [HSOK.out]
        rfl
      | true =>
        go_wp2_with fail
        refine hct7.mono ?_
        rintro e w8 ⟨rfl, hb8⟩
        have hB8 := hB7.trans (hb8.mono hs7)
        have hs8 := hB8.size
        have HR8 := Lib.hid (HR1.out.below hb8)
        have HO8 := Lib.hid (HO7.out.below hb8)
        have e1 := (HBX7.out.below hb8).cell (j := 1) rfl
        clear hct7
        cases z2 with
        | true =>
          go_wp2_with fail
          go_ret2
          refine ⟨?_, hB8⟩
          unfold SendOut
          rw [HSOK.out]
          rfl
        | false =>
          by_cases h0 : q = 0
          · have hz : ((q : Int) == 0) = true := by rw [h0]; rfl
            have H0 := Lib.hid h0
            clear h0
            go_wp2_with fail
            go_ret2
            refine ⟨?_, hB8⟩
            unfold SendOut
            rw [HSOK.out, if_pos (show (true && !false) = true from rfl), if_pos (.inl (List.eq_nil_of_length_eq_zero (by rw [HNT.out, H0.out])))]
            rfl
          have hz : ((q : Int) == 0) = false := by rw [beq_eq_false_iff_ne]; omega
          by_cases h10 : 10 < q
          · have hi : (10 : Int) < (q : Int) := by omega
            have H10 := Lib.hid h10
            clear h10 h0
            go_wp2_with fail
            go_ret2
            refine ⟨?_, hB8⟩
            unfold SendOut
            rw [HSOK.out, if_pos (show (true && !false) = true from rfl), if_pos (.inr (by rw [HNT.out]; exact H10.out))]
            rfl
          have hi : ¬ (10 : Int) < (q : Int) := by omega
          have H0 := Lib.hid h0
          have H10 := Lib.hid h10
          obtain ⟨g, o, rfl, hcell⟩ := (hRv7.below hb8) (by rw [List.length_map, HSLL.out]; omega)
          have hjoin : Calls Tryz.prog 30 #[.slice (some ⟨g, o, none⟩) (q + 2) cv, .string ⟨#[13, 10]⟩] w8 fun e w' => e = .returned (.string (bs (Lib.join (sendL frm tos) [13, 10]))) ∧ Below w8.heap.size w8 w' := by
            have hmm : ((sendL frm tos).map bs).map (·.data.toList) = sendL frm tos := by rw [List.map_map]; simp [Function.comp_def, bs]
            have hlenJ : (Lib.join (sendL frm tos) [13, 10]).length ≤ 140737488355328 := by
              have h := congrArg List.length (joinE_join heloL (mailL frm :: tos.map rcptL))
              rw [List.length_append] at h
              have h2 : sendL frm tos = heloL :: mailL frm :: tos.map rcptL := rfl
              rw [← h2] at h
              omega
            have h := Tryz.strings_Join g o cv ((sendL frm tos).map bs) ⟨#[13, 10]⟩ w8 (fun j x hj => hcell j (.string x) (by
              rw [List.getElem?_map, Option.map_eq_some_iff] at hj ⊢
              obtain ⟨l, h1, h2⟩ := hj
              exact ⟨l, h1, by rw [← h2]; rfl⟩)) (cell_lt (hcell 0 (sv heloL) rfl)) (by rw [List.length_map, HSLL.out]; omega) (by rw [List.length_map, HSLL.out]; exact hqc) (by rw [hmm]; exact hlenJ)
            rw [List.length_map, HSLL.out, hmm] at h
            exact h
          have hJ := joinE_join heloL (mailL frm :: tos.map rcptL)
          have hJ2 : Lib.join (sendL frm tos) [13, 10] ++ [13, 10] = joinE (sendL frm tos) := hJ
          obtain ⟨J, hJe⟩ : ∃ J, Lib.join (sendL frm tos) [13, 10] = J := ⟨_, rfl⟩
          rw [hJe] at hJ2 hjoin
          have hJl : J.length ≤ 100000 := by have := congrArg List.length hJ2; rw [List.length_append] at this; omega
          have hcat : bs J ++ (⟨#[13, 10]⟩ : ByteArray) ++ ⟨#[68, 65, 84, 65]⟩ ++ ⟨#[13, 10]⟩ = bs (joinE (sendL frm tos) ++ [68, 65, 84, 65, 13, 10]) := by
            rw [show (⟨#[13, 10]⟩ : ByteArray) = bs [13, 10] from rfl, show (⟨#[68, 65, 84, 65]⟩ : ByteArray) = bs [68, 65, 84, 65] from rfl, bs_add, bs_add, bs_add, hJ2]
            simp
          obtain ⟨P1, hP1⟩ : ∃ P, joinE (sendL frm tos) ++ [68, 65, 84, 65, 13, 10] = P := ⟨_, rfl⟩
          rw [hP1] at hcat
          have hP1l : P1.length ≤ 100000 := by rw [← hP1]; simp; omega
          have hfin : sendP frm tos b = P1 ++ stuffP b ++ [81, 85, 73, 84, 13, 10] := by rw [← hP1]; rfl
          have HFIN := Lib.hid hfin
          clear hJ hJ2 hJe hP1 hfin h0 h10 hcell hRv7
          go_wp2_with fail
          refine hjoin.mono ?_
          rintro e w9 ⟨rfl, hb9⟩
          have hB9 := hB8.trans (hb9.mono hs8)
          have hs9 := hB9.size
          obtain ⟨cc, W, hrun, howW, hbW, hsW⟩ := conv_bs (P := Tryz.prog) (src := 9) (dst := 22) (e := 5) Tryz.underlying9 Tryz.underlying22 Tryz.underlying5 w9 P1 (by unfold maxLen; omega)
          have howW' := howW.rebase hs9
          have hBW := hB9.trans (hbW.mono hs9)
          have hsW2 := hBW.size
          have hRW := (HR8.out.below hb9).below hbW
          clear hjoin hb9 hsW howW hbW
          go_wp2_with (first
            | (at_builtin; refine wpList_appM rfl _ _ _ _ rfl TU8 howW' rfl (Src_rb Tryz.underlying22 rfl hRW) rfl (by omega) hsW2 ?_; intro v10 w10 own10 gr10 at10; have hB10 := below_appM hBW howW' gr10 hsW2 (Nat.le_refl _); have hs10 := hB10.size)
            | (at_builtin; refine wpList_appM rfl _ _ _ _ rfl TU8 own10 rfl (Src_str Tryz.underlying9 [81, 85, 73, 84, 13, 10]) rfl (by simp; omega) hs10 ?_; intro v11 w11 own11 gr11 at11; have hB11 := below_appM hB10 own10 gr11 hs10 (Nat.le_refl _)))
          go_ret2
          refine ⟨?_, hB11⟩
          unfold SendOut
          rw [HSOK.out, if_pos (show (true && !false) = true from rfl), if_neg]
          · refine ⟨_, rfl, ownM_eq own11 ?_ ?_⟩
            · rw [HFIN.out]; simp; omega
            · rw [HFIN.out]; simp
          · rintro (h | h)
            · rw [h] at HNT
              exact H0.out HNT.out.symm
            · rw [HNT.out] at h
              exact H10.out h
end Go.Proofs.YtddjabjloplhiaaGreatDoor
