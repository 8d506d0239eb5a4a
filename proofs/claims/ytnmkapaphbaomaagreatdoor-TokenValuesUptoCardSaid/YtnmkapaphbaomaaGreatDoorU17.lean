/- The document's Params. -/
import Derived.Test.YtnmkapaphbaomaaGreatDoorU16
namespace Go.Proofs.YtnmkapaphbaomaaGreatDoor
set_option linter.unusedVariables false
set_option linter.unusedSimpArgs false
open Go.RowKit

/-- the document's cut into parts, at a place -/
def DAt (l : List UInt8) (ps out : List (List UInt8)) (f q : Nat) (ins : Bool) : Prop := f ≤ q ∧ f ≤ l.length ∧ out ++ semD ins ((l.drop f).take (q - f)) (l.drop q) = ps
section
variable {l : List UInt8} {ps out : List (List UInt8)} {f q : Nat} {ins : Bool}
theorem cur_one {c : UInt8} (hf : f ≤ q) (hc : l[q]? = some c) : (l.drop f).take (q + 1 - f) = (l.drop f).take (q - f) ++ [c] := by
  have h : (l.drop f)[q - f]? = some c := by rw [List.getElem?_drop, show f + (q - f) = q by omega]; exact hc
  rw [show q + 1 - f = (q - f) + 1 by omega, take_succ_of h]
theorem drop_cons {c : UInt8} (hc : l[q]? = some c) : l.drop q = c :: l.drop (q + 1) := by
  have hq := lt_of_get hc
  rw [List.getElem?_eq_getElem hq] at hc
  rw [List.drop_eq_getElem_cons hq, Option.some.inj hc]
theorem DAt.esc {x : UInt8} (h : DAt l ps out f q true) (hc : l[q]? = some 92) (hx : l[q + 1]? = some x) : DAt l ps out f (q + 1 + 1) true := by
  refine ⟨by have := h.1; omega, h.2.1, ?_⟩
  have h3 := h.2.2
  rw [drop_cons hc, drop_cons hx, semD.eq_def] at h3
  simp only [and_self, if_true] at h3
  rw [cur_one (by have := h.1; omega) hx, cur_one h.1 hc, List.append_assoc]
  exact h3
theorem DAt.esc0 (h : DAt l ps out f q true) (hc : l[q]? = some 92) (hl : q + 1 = l.length) : DAt l ps out f (q + 1 + 1) true := by
  refine ⟨by have := h.1; omega, h.2.1, ?_⟩
  have hfq := h.1
  have h3 := h.2.2
  have e1 : l.drop (q + 1) = [] := List.drop_eq_nil_of_le (by omega)
  have e2 : l.drop (q + 1 + 1) = [] := List.drop_eq_nil_of_le (by omega)
  have e3 : (l.drop f).take (q + 1 + 1 - f) = (l.drop f).take (q - f) ++ [92] := by
    rw [← cur_one hfq hc, List.take_of_length_le (by rw [List.length_drop]; omega), List.take_of_length_le (by rw [List.length_drop]; omega)]
  rw [drop_cons hc, e1, semD.eq_def] at h3
  simp only [and_self, if_true] at h3
  rw [e2, e3, semD.eq_def]
  exact h3
theorem DAt.quo (h : DAt l ps out f q ins) (hc : l[q]? = some 34) : DAt l ps out f (q + 1) (!ins) := by
  refine ⟨by have := h.1; omega, h.2.1, ?_⟩
  have h3 := h.2.2
  rw [drop_cons hc, semD.eq_def] at h3
  simp only [show ¬ (ins = true ∧ (34 : UInt8) = 92) by simp, if_false, if_true] at h3
  rw [cur_one h.1 hc]
  exact h3
theorem DAt.cut (h : DAt l ps out f q false) (hc : l[q]? = some 59) : DAt l ps (out ++ [(l.drop f).take (q - f)]) (q + 1) (q + 1) false := by
  have hq := lt_of_get hc
  refine ⟨Nat.le_refl _, by omega, ?_⟩
  have h3 := h.2.2
  rw [drop_cons hc, semD.eq_def] at h3
  simp only [show ¬ (false = true ∧ (59 : UInt8) = 92) by simp, show ¬ ((59 : UInt8) = 34) by decide, and_self, if_false, if_true] at h3
  rw [Nat.sub_self, List.take_zero, List.append_assoc]
  exact h3
theorem DAt.more {c : UInt8} (h : DAt l ps out f q ins) (hc : l[q]? = some c) (h1 : ¬ (ins = true ∧ c = 92)) (h2 : c ≠ 34) (h3' : ¬ (c = 59 ∧ ins = false)) : DAt l ps out f (q + 1) ins := by
  refine ⟨by have := h.1; omega, h.2.1, ?_⟩
  have h3 := h.2.2
  rw [drop_cons hc, semD.eq_def] at h3
  simp only [h1, h2, h3', if_false] at h3
  rw [cur_one h.1 hc]
  exact h3
theorem DAt.last (h : DAt l ps out f q ins) (hl : l.length ≤ q) : out ++ [l.drop f] = ps := by
  have h3 := h.2.2
  rw [List.drop_eq_nil_of_le hl, semD.eq_def, List.take_of_length_le (by rw [List.length_drop]; have := h.1; omega)] at h3
  exact h3
end

theorem all_nx {α : Type} {f : α → Bool} {ms : List α} {q : Nat} {p : α} (h : ms[q]? = some p) : (ms.take (q + 1)).all f = ((ms.take q).all f && f p) := by
  rw [take_succ_of h]
  simp
theorem Rv_first {w : World} {A : Option Addr} {p : List UInt8} {ps : List (List UInt8)} (h : Rv w A ((p :: ps).map sv)) : ∃ b o, A = some ⟨b, o, none⟩ ∧ w.cell? ⟨b, o, none⟩ = some (.string (bs p)) := by
  obtain ⟨b, o, e, hc⟩ := h (by simp)
  exact ⟨b, o, e, hc 0 _ rfl⟩

set_option maxRecDepth 100000 in
set_option maxHeartbeats 4000000 in
theorem rparams_any (l : List UInt8) (w : World) (hl : l.length ≤ 1000000) :
    Calls Tryz.prog 8 #[.string (bs l)] w fun e w' => PrmOut l w e w' ∧ Below w.heap.size w w' := by
  have hb := rbare_any l w hl
  cases hbp : bareP l with
  | error k =>
    have hk : ((k : Int) != 0) = true := by have := bareP_err _ _ _ (Nat.le_refl _) hbp; rw [bne_iff_ne]; omega
    have hr : parmP l = .error k := by unfold parmP; rw [hbp]
    have HR := Lib.hid hr
    rw [hbp] at hb
    have hb' : Calls Tryz.prog 26 #[.string (bs l)] w fun e w' => e = .returned (.tuple #[.string (bs []), .int .i64 (k : Int)]) ∧ Below w.heap.size w w' := hb
    clear hb hbp hr
    go_enter Tryz.func8, Tryz.ntmps8
    go_wp2_with fail
    refine hb'.mono ?_
    rintro e w1 ⟨rfl, hb1⟩
    go_wp2_with fail
    go_ret3
    exact ⟨prmOut_err HR.out rfl, hb1⟩
  | ok b =>
    have hbl := bareP_len _ _ _ (Nat.le_refl _) hbp
    obtain ⟨ps, hps⟩ := bare_sem _ _ _ (Nat.le_refl _) hbp
    obtain ⟨hpl, hpn⟩ := semP_len _ _ _ (Nat.le_refl _) hps
    obtain ⟨p0, pr, rfl⟩ : ∃ p0 pr, ps = p0 :: pr := by
      cases ps with
      | nil => exact absurd rfl (semP_ne hps)
      | cons p0 pr => exact ⟨p0, pr, rfl⟩
    have hr : parmP l = if kindB (trimB p0) && pr.all third then .ok ((trimB p0).map small, pr.map nv) else .error 3 := by
      unfold parmP
      rw [hbp]
      simp only
      rw [hps]
      rfl
    have HR := Lib.hid hr
    rw [hbp] at hb
    have hb' : Calls Tryz.prog 26 #[.string (bs l)] w fun e w' => e = .returned (.tuple #[.string (bs b), .int .i64 0]) ∧ Below w.heap.size w w' := hb
    have HD := Lib.hid (show DAt b (p0 :: pr) [] 0 0 false from ⟨Nat.le_refl _, Nat.zero_le _, by simpa using semD_sem hps⟩)
    have hp0 : p0.length ≤ 1000000 := by have := hpl p0 (by simp); omega
    have hpr : ∀ p ∈ pr, p.length ≤ 1000000 := fun p hp => by have := hpl p (by simp [hp]); omega
    have htl := trimB_len p0
    have htrim := fun W => rtrim_any p0 W (by omega)
    have hkind := fun W => rkind_any (trimB p0) W (by omega)
    have hlow := fun W => rlower_any (trimB p0) W (by omega)
    obtain ⟨g, hg⟩ : ∃ g, kindB (trimB p0) = g := ⟨_, rfl⟩
    obtain ⟨m, hm⟩ : ∃ m, pr.length = m := ⟨_, rfl⟩
    have hm2 : m ≤ 1000000 := by simp at hpn; omega
    have hbl2 : b.length ≤ 1000000 := by omega
    rw [hg] at hkind HR
    have HM := Lib.hid hm
    have HPR := Lib.hid hpr
    have hpu : ∀ W, Sem.run Tryz.prog (pure #[] : Sem (Array Value)) W = .ok #[] W := fun _ => rfl
    have hst : ∀ a W, Sem.run Tryz.prog (storeCells a []) W = .ok () W := fun _ _ => rfl
    clear hb hbp hps hpl hpn hr hg hm hpr hl hbl
    generalize trimB p0 = t0 at *
    go_enter Tryz.func8, Tryz.ntmps8
    go_wp2_with fail
    refine hb'.mono ?_
    rintro e w1 ⟨rfl, hb1⟩
    have hown0 := World.ownsRow_made (base := w.heap.size) (e := 9) (size := 1) w1 #[] 0 hb1.size (by unfold maxLen; omega) rfl
    have hB0 : Below w.heap.size w (w1.alloc (.cells #[] 9)) := hb1.alloc hb1.size _
    go_wp2_with fail
    go_loopw [6, 7, 8, 9] (fun x fr s8 i wr => ∃ (q f k : Nat) (ins : Bool) (out : List (List UInt8)), i = .int .i64 q ∧ fr = .int .i64 f ∧ s8 = .bool ins ∧ f ≤ q ∧ f ≤ b.length ∧ q ≤ b.length + 1 ∧ k ≤ q ∧ Hid (DAt b (p0 :: pr) out f q ins) ∧ wr.ownsRow w.heap.size 9 1 x k (out.map sv) ∧ Below w.heap.size w wr) (fun _ _ _ i _ => b.length + 1 - (intOf i).toNat)
    case atStart => exact ⟨0, 0, 0, false, [], rfl, rfl, rfl, Nat.le_refl _, Nat.zero_le _, Nat.zero_le _, Nat.le_refl _, HD, hown0, hB0⟩
    case round =>
      clear hown0 hB0 HD hb1 hb'
      obtain ⟨q, f, k, ins, out, rfl, rfl, rfl, hfq, hfl, hql, hkq, hd, hown, hB⟩ := hrel
      have hs1 := hB.size
      by_cases hlt : q < b.length
      · obtain ⟨c, hc⟩ : ∃ c, b[q]? = some c := ⟨_, List.getElem?_eq_getElem hlt⟩
        have hi := str_index (P := Tryz.prog) Tryz.underlying9 hc .i64
        have t92 : ((c.toNat : Int) == 92) = (c == 92) := u8_beq c 92
        have t34 : ((c.toNat : Int) == 34) = (c == 34) := u8_beq c 34
        have t59 : ((c.toNat : Int) == 59) = (c == 59) := u8_beq c 59
        by_cases h1 : ins = true ∧ c = 92
        · obtain ⟨rfl, rfl⟩ := h1
          have e92 : (((92 : UInt8).toNat : Int) == 92) = true := rfl
          have HN : Hid (DAt b (p0 :: pr) out f (q + 1 + 1) true) := by
            by_cases hqe : q + 1 = b.length
            · exact Lib.hid (hd.out.esc0 hc hqe)
            · exact Lib.hid (hd.out.esc hc (List.getElem?_eq_getElem (by omega : q + 1 < b.length)))
          clear hd hc t92 t34 t59
          go_wp2_with fail
          go_roundw
          case rel => exact ⟨q + 1 + 1, f, k, true, out, by go_num, rfl, rfl, by omega, hfl, by omega, by omega, HN, hown, hB⟩
          case measure => simp [intOf]; omega
        · by_cases h2 : c = 34
          · have e92 : ((c.toNat : Int) == 92) = false := by rw [h2]; rfl
            have e34 : ((c.toNat : Int) == 34) = true := by rw [h2]; rfl
            have HN : Hid (DAt b (p0 :: pr) out f (q + 1) (!ins)) := Lib.hid (hd.out.quo (by rw [hc, h2]))
            clear hd hc t92 t34 t59 h1 h2
            cases ins
            all_goals
              go_wp2_with fail
              go_roundw
              case rel => exact ⟨q + 1, f, k, _, out, by go_num, rfl, rfl, by omega, hfl, by omega, by omega, HN, hown, hB⟩
              case measure => simp [intOf]; omega
          · have e34 : ((c.toNat : Int) == 34) = false := by rw [t34]; simp [h2]
            by_cases h3 : c = 59 ∧ ins = false
            · obtain ⟨h4, rfl⟩ := h3
              have e92 : ((c.toNat : Int) == 92) = false := by rw [h4]; rfl
              have e59 : ((c.toNat : Int) == 59) = true := by rw [h4]; rfl
              have HN := Lib.hid (hd.out.cut (by rw [hc, h4]))
              clear hd hc t92 t34 t59 h1 h2 h4
              go_wp2_with (at_builtin; refine wpList_app rfl (.tmp 53) (.tmp 58) _ _ rfl TStr (hown.alloc (.cells #[sv ((b.drop f).take (q - f))] 9)) rfl (Src_rv (news := [sv ((b.drop f).take (q - f))]) Tryz.underlying37 rfl (Rv_new wr _ _ _ rfl) (by simp [Value.oneCell', sv]) (by omega)) rfl (by omega) (by simp; omega) ?_; intro v1 y1 own1 gr1 at1; have bb1 := below_app (hB.alloc hs1 (.cells #[sv ((b.drop f).take (q - f))] 9)) (hown.alloc _) gr1 (by simp; omega) (Nat.le_refl _); have bb1s := bb1.size)
              go_roundw
              case rel => exact ⟨q + 1, q + 1, k + 1, false, out ++ [(b.drop f).take (q - f)], by go_num, by go_num, rfl, by omega, by omega, by omega, by omega, HN, by rw [List.map_append]; exact own1, bb1⟩
              case measure => simp [intOf]; omega
            · have HN := Lib.hid (hd.out.more hc h1 h2 h3)
              have hcase : (ins = true ∧ ((c.toNat : Int) == 92) = false) ∨ (ins = false ∧ ((c.toNat : Int) == 59) = false) := by
                cases ins
                · right; exact ⟨rfl, by rw [t59]; simpa using h3⟩
                · left; exact ⟨rfl, by rw [t92]; simpa using h1⟩
              clear hd hc t92 t34 t59 h1 h2 h3
              rcases hcase with ⟨rfl, e⟩ | ⟨rfl, e⟩
              · obtain ⟨b59, h59⟩ : ∃ z, ((c.toNat : Int) == 59) = z := ⟨_, rfl⟩
                cases b59
                all_goals
                  go_wp2_with fail
                  go_roundw
                  case rel => exact ⟨q + 1, f, k, _, out, by go_num, rfl, rfl, by omega, hfl, by omega, by omega, HN, hown, hB⟩
                  case measure => simp [intOf]; omega
              · go_wp2_with fail
                go_roundw
                case rel => exact ⟨q + 1, f, k, _, out, by go_num, rfl, rfl, by omega, hfl, by omega, by omega, HN, hown, hB⟩
                case measure => simp [intOf]; omega
      · have HL := Lib.hid (hd.out.last (by omega))
        clear hd
        have hkl : k ≤ 1000001 := by omega
        have hff : (f : Int) ≤ (b.length : Int) := by omega
        have h4 : (b.drop f).take (b.length - f) = b.drop f := List.take_of_length_le (by rw [List.length_drop]; omega)
        have H4 := Lib.hid h4
        clear h4
        go_wp2_with (at_builtin; (try simp only [H4.out]); refine wpList_app rfl (.tmp 62) (.tmp 66) _ _ rfl TStr (hown.alloc (.cells #[sv (b.drop f)] 9)) rfl (Src_rv (news := [sv (b.drop f)]) Tryz.underlying37 rfl (Rv_new wr _ _ _ rfl) (by simp [Value.oneCell', sv]) (by omega)) rfl (by omega) (by simp; omega) ?_; intro v1 y1 own1 gr1 at1; have bb1 := below_app (hB.alloc hs1 (.cells #[sv (b.drop f)] 9)) (hown.alloc _) gr1 (by simp; omega) (Nat.le_refl _); have bb1s := bb1.size; rw [show out.map sv ++ [sv (b.drop f)] = (p0 :: pr).map sv by rw [← HL.out]; simp] at own1; obtain ⟨A, ca, rfl, hka, hcm, hRv, hlk⟩ := own_form own1; clear own1 gr1 at1 hown; obtain ⟨b0, o0, rfl, hcell0⟩ := Rv_first hRv)
        have hkm : k = m := by have := HM.out; simp at hlk; omega
        subst hkm
        clear hlk hkl hff H4 HL
        refine (htrim _).mono ?_
        rintro e w' ⟨rfl, rfl⟩
        go_wp2_with fail
        refine (hkind _).mono ?_
        rintro e w2 ⟨rfl, rfl⟩
        clear htrim hkind hcell0
        cases g
        · have HE := Lib.hid (show parmP l = .error 3 by rw [HR.out]; simp)
          clear HR
          go_wp2_with fail
          go_ret3
          exact ⟨prmOut_err HE.out rfl, bb1⟩
        · have hr2 : parmP l = if pr.all third then .ok (t0.map small, pr.map nv) else .error 3 := by rw [HR.out]; simp
          have HR2 := Lib.hid hr2
          clear HR hr2 hB
          have hown0 := World.ownsRow_made (base := w2.heap.size) (e := 25) (size := 2) w2 #[] 0 (Nat.le_refl _) (by unfold maxLen; omega) rfl
          have hC0 : Below w2.heap.size w2 (w2.alloc (.cells #[] 25)) := (Below.refl _ _).alloc (Nat.le_refl _) _
          go_wp2_with fail
          clear hpu hst
          go_loopw [11, 12] (fun x i wr => ∃ (q : Nat), i = .int .i64 ((q : Int) + 1) ∧ q ≤ k ∧ Hid ((pr.take q).all third = true) ∧ wr.ownsRow w2.heap.size 25 2 x q (pcells ((pr.take q).map nv)) ∧ Below w2.heap.size w2 wr) (fun _ i _ => k + 1 - (intOf i).toNat)
          case atStart => exact ⟨0, rfl, Nat.zero_le _, Lib.hid (by simp), hown0, hC0⟩
          case round =>
            clear hown0 hC0
            obtain ⟨q, rfl, hq, hall, hown, hC⟩ := hrel
            have hsC := hC.size
            by_cases hlt : q < k
            · obtain ⟨p, hp⟩ : ∃ p, pr[q]? = some p := ⟨_, List.getElem?_eq_getElem (by have := HM.out; omega)⟩
              have hpl := HPR.out p (List.mem_of_getElem? hp)
              obtain ⟨b1, o1, he1, hcs⟩ := (hRv.below hC) (by simp)
              cases he1
              have hcell : wr.cell? ⟨b0, o0 + (q + 1), none⟩ = some (.string (bs p)) := hcs (q + 1) _ (by rw [List.map_cons, List.getElem?_cons_succ, List.getElem?_map, hp]; rfl)
              have hpart := rpart_any p wr hpl
              have hal := all_nx (f := third) hp
              have hstp : pcells ((pr.take (q + 1)).map nv) = pcells ((pr.take q).map nv) ++ [sv (partV p).1, sv (partV p).2.1] := by
                rw [take_succ_of hp, List.map_append, List.map_singleton, pcells_snoc]
                rfl
              rcases Bool.eq_false_or_eq_true (third p) with h3 | h3
              · have HAL := Lib.hid (show (pr.take (q + 1)).all third = true by rw [hal, hall.out, h3]; rfl)
                have HST := Lib.hid hstp
                have h3' : (partV p).2.2 = true := h3
                unfold PartOut at hpart
                rw [h3'] at hpart
                clear hal hall hstp hcs hp h3 h3'
                go_wp2_with fail
                refine hpart.mono ?_
                rintro e w3 ⟨⟨x, y, rfl, hxy⟩, hb3⟩
                obtain ⟨hx, hy⟩ := hxy trivial
                rw [← hx, ← hy] at HST
                have hown3 := own_below hown hb3
                have hC3 := hC.trans (hb3.mono hsC)
                have hs3 := hC3.size
                clear hx hy hxy hpart hcell hown hb3
                have hrv : Rv ((w3.alloc (.cells #[sv x, sv y] 25)).alloc (.cells #[sv x, sv y] 25)) (some ⟨w3.heap.size + 1, 0, none⟩) [sv x, sv y] := by
                  have := Rv_new (w3.alloc (.cells #[sv x, sv y] 25)) #[sv x, sv y] [sv x, sv y] 25 rfl
                  rwa [show (w3.alloc (.cells #[sv x, sv y] 25)).heap.size = w3.heap.size + 1 by simp] at this
                go_wp2_with (at_builtin; refine wpList_app rfl (.tmp 92) (.tmp 94) _ _ rfl TParam ((hown3.alloc (.cells #[sv x, sv y] 25)).alloc (.cells #[sv x, sv y] 25)) rfl (Src_rv (news := [sv x, sv y]) Tryz.underlying22 rfl hrv (by simp [Value.oneCell', sv]) (by omega)) rfl (by omega) (by simp; omega) ?_; intro v4 w4 hown4 hgr4 hat4; have hC4 := below_app ((hC3.alloc hs3 (.cells #[sv x, sv y] 25)).alloc (by simp; omega) (.cells #[sv x, sv y] 25)) ((hown3.alloc _).alloc _) hgr4 (by simp; omega) (Nat.le_refl _))
                go_roundw
                case rel => exact ⟨q + 1, by go_num, by omega, HAL, by rw [HST.out]; exact hown4, hC4⟩
                case measure => simp [intOf]; omega
              · have h3' : (partV p).2.2 = false := h3
                have HE : Hid (parmP l = .error 3) := by
                  have hno : pr.all third = false := by
                    rw [Bool.eq_false_iff]
                    intro h
                    have := List.all_eq_true.1 h p (List.mem_of_getElem? hp)
                    rw [h3] at this
                    cases this
                  exact Lib.hid (by rw [HR2.out, hno]; rfl)
                unfold PartOut at hpart
                rw [h3'] at hpart
                clear hal hall hstp hcs hp h3 h3' HR2
                go_wp2_with fail
                refine hpart.mono ?_
                rintro e w3 ⟨⟨x, y, rfl, hxy⟩, hb3⟩
                clear hxy hpart hcell
                go_wp2_with fail
                go_ret3
                have hC3 := hC.trans (hb3.mono hsC)
                exact ⟨prmOut_err HE.out rfl, (bb1.trans (hC3.mono bb1s)).alloc (by have := hC3.size; omega) _⟩
            · obtain rfl : q = k := by omega
              have hall2 := hall.out
              rw [List.take_of_length_le (by rw [HM.out]; exact Nat.le_refl _)] at hall2 hown
              have HO := Lib.hid (show parmP l = .ok (t0.map small, pr.map nv) by rw [HR2.out, hall2]; rfl)
              clear hall2 hall HR2
              go_wp2_with fail
              refine (hlow _).mono ?_
              rintro e w3 ⟨rfl, hb3⟩
              have hown3 := own_below hown hb3
              have hC3 := hC.trans (hb3.mono hsC)
              clear hlow hown
              go_wp2_with fail
              go_ret3
              exact ⟨prmOut_ok HO.out rfl (by rw [List.length_map, HM.out]; exact own_base hown3 bb1s), bb1.trans (hC3.mono bb1s)⟩
end Go.Proofs.YtnmkapaphbaomaaGreatDoor
