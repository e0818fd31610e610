/- The walk of syllogistref.ViewCheck. -/
import Derived.Test.YtjcooagchjjknaaView4
namespace Go.Proofs.Ytjcooagchjjknaa
open Go Go.RowKit
set_option linter.unusedVariables false
set_option linter.unusedSimpArgs false

theorem viewF_big {m : Mc} (h : bigB m = true) : viewF m ≠ 0 := by unfold viewF; rw [if_pos h]; omega
theorem viewF_form {m : Mc} (h : shapedB m = false) : viewF m ≠ 0 := by
  unfold viewF
  split
  · omega
  · omega
theorem viewF_goes {m : Mc} (h : (allTo m).all (goesB m) = false) : viewF m ≠ 0 := by
  unfold viewF
  split
  · omega
  · split
    · omega
    · omega
theorem viewF_ok {m : Mc} (h1 : bigB m = false) (h2 : shapedB m = true) (h3 : (allTo m).all (goesB m) = true) : viewF m = 0 := by
  unfold viewF
  rw [h1, h2, h3]
  rfl
def rowG (m : Mc) (r : Rv) : Bool := r.2.2.2.all (goesB m)
def stG (m : Mc) (s : Nat) : Bool := (rowAt m s).2.2.2.all (rowG m)
theorem range_getD {α β : Type} (l : List α) (d : α) (f : α → Bool) : (List.range l.length).all (fun s => f (l.getD s d)) = l.all f := by
  rw [Bool.eq_iff_iff, List.all_eq_true, List.all_eq_true]
  constructor
  · intro h x hx
    obtain ⟨k, hk, rfl⟩ := List.getElem_of_mem hx
    have := h k (List.mem_range.2 hk)
    rw [List.getD_eq_getElem?_getD, List.getElem?_eq_getElem hk] at this
    exact this
  · intro h k hk
    rw [List.mem_range] at hk
    rw [List.getD_eq_getElem?_getD, List.getElem?_eq_getElem hk]
    exact h _ (List.getElem_mem hk)
theorem allTo_st {m : Mc} {N : Nat} (hl : m.next.2.2.2.length = N) : (List.range N).all (stG m) = (allTo m).all (goesB m) := by
  subst hl
  have := range_getD (β := Nat) m.next.2.2.2 (none, 0, 0, []) (fun r => r.2.2.2.all (rowG m))
  have e : (List.range m.next.2.2.2.length).all (stG m) = (List.range m.next.2.2.2.length).all (fun s => (fun r : Rw2 => r.2.2.2.all (rowG m)) (m.next.2.2.2.getD s (none, 0, 0, []))) := rfl
  rw [e, this]
  unfold allTo rowG
  rw [List.all_flatMap, List.all_flatMap]
theorem takeV_all {α : Type} (f : α → Bool) (l : List α) (k : Nat) (h : k < l.length) : (l.take (k + 1)).all f = ((l.take k).all f && f l[k]) := by
  rw [List.take_succ_eq_append_getElem h, List.all_append]
  simp
theorem takeV_allF {α : Type} {f : α → Bool} {l : List α} {k : Nat} (h : k < l.length) (hf : f l[k] = false) : l.all f = false := by
  rw [List.all_eq_false]
  exact ⟨l[k], List.getElem_mem h, by simp [hf]⟩
set_option maxRecDepth 100000 in
set_option maxHeartbeats 4000000 in
theorem refView_any (m : Mc) (w : World) (h : McOk w m) :
    Calls Try.prog 30 #[.agg (mcA m)] w fun e w' => ∃ v, e = .returned (.int .i64 v) ∧ (v = 0 ↔ viewF m = 0) ∧ Kept w w' := by
  have hka : Kept w (w.alloc (.cells (mcA m) 63)) := (Kept.refl _).alloc _
  have bx := Box.new w (mcA m) 63 w.heap.size rfl
  have HM := Lib.hid (h.kept hka)
  have HKA := Lib.hid hka
  obtain ⟨w1, hw1⟩ : ∃ w1, w.alloc (.cells (mcA m) 63) = w1 := ⟨_, rfl⟩
  rw [hw1] at bx HM HKA
  have HBX := Lib.hid bx
  have b0 : w1.cell? ⟨w.heap.size, 0, none⟩ = some (.int .i64 m.n) := bx.at_ 0 rfl
  have b1 : w1.cell? ⟨w.heap.size, 1, none⟩ = some (.int .i64 m.us) := bx.at_ 1 rfl
  have b2 : w1.cell? ⟨w.heap.size, 2, none⟩ = some (.int .i64 m.as) := bx.at_ 2 rfl
  have b3 := bx.at_ 3 (u := .slice m.next.1 m.next.2.1 m.next.2.2.1) rfl
  have b4 := bx.at_ 4 (u := .slice m.sees.1 m.sees.2.1 m.sees.2.2.1) rfl
  have HV1 := Lib.hid (@viewF_big m)
  have HV3 := Lib.hid (@viewF_form m)
  have HV2 := Lib.hid (@viewF_goes m)
  have HV0 := Lib.hid (@viewF_ok m)
  have HBB := Lib.hid (show bigB m = decide (m.n < 1 ∨ 6 < m.n ∨ m.us < 1 ∨ 3 < m.us ∨ m.as < 1 ∨ 2 < m.as) from rfl)
  clear h hka bx
  generalize viewF m = vf at HV0 HV1 HV2 HV3 ⊢
  unfold mcA at hw1 ⊢
  cases hbg : bigB m with
  | true =>
    have HR := Lib.hid (HV1.out hbg)
    have hor : m.n < 1 ∨ 6 < m.n ∨ m.us < 1 ∨ 3 < m.us ∨ m.as < 1 ∨ 2 < m.as := by rw [HBB.out] at hbg; simpa using hbg
    clear hbg HV0 HV1 HV2 HV3 HBB
    have HRET : Hid (∃ v : Int, (Ending.returned (.int .i64 1) : Ending) = .returned (.int .i64 v) ∧ (v = 0 ↔ vf = 0) ∧ Kept w w1) := Lib.hid ⟨1, rfl, ⟨fun h => by omega, fun h => absurd h HR.out⟩, HKA.out⟩
    generalize m.n = mn at b0 hw1 hor ⊢
    generalize m.us = mu at b1 hw1 hor ⊢
    generalize m.as = ma at b2 hw1 hor ⊢
    have HOR := Lib.hid hor
    clear hor
    cases c0 : decide (mn < 1)
    case true => (go_enter Try.func30, Try.ntmps30; go_wp2_with fail; go_ret; exact HRET.out)
    cases c1 : decide (6 < mn)
    case true => (go_enter Try.func30, Try.ntmps30; go_wp2_with fail; go_ret; exact HRET.out)
    cases c2 : decide (mu < 1)
    case true => (go_enter Try.func30, Try.ntmps30; go_wp2_with fail; go_ret; exact HRET.out)
    cases c3 : decide (3 < mu)
    case true => (go_enter Try.func30, Try.ntmps30; go_wp2_with fail; go_ret; exact HRET.out)
    cases c4 : decide (ma < 1)
    case true => (go_enter Try.func30, Try.ntmps30; go_wp2_with fail; go_ret; exact HRET.out)
    cases c5 : decide (2 < ma)
    case true => (go_enter Try.func30, Try.ntmps30; go_wp2_with fail; go_ret; exact HRET.out)
    exfalso
    simp only [decide_eq_false_iff_not] at c0 c1 c2 c3 c4 c5
    have := HOR.out
    omega
  | false =>
    have hno : ¬(m.n < 1 ∨ 6 < m.n ∨ m.us < 1 ∨ 3 < m.us ∨ m.as < 1 ∨ 2 < m.as) := by rw [HBB.out] at hbg; simpa using hbg
    obtain ⟨N, hN⟩ := Int.eq_ofNat_of_zero_le (show 0 ≤ m.n by omega)
    obtain ⟨U, hU⟩ := Int.eq_ofNat_of_zero_le (show 0 ≤ m.us by omega)
    obtain ⟨A, hA⟩ := Int.eq_ofNat_of_zero_le (show 0 ≤ m.as by omega)
    have hN6 : N ≤ 6 := by omega
    have hN1 : 1 ≤ N := by omega
    have hU3 : U ≤ 3 := by omega
    have hU1 : 1 ≤ U := by omega
    have hA3 : A ≤ 2 := by omega
    have hA1 : 1 ≤ A := by omega
    have d0 : decide ((N : Int) < 1) = false := by rw [decide_eq_false_iff_not]; omega
    have d1 : decide (6 < (N : Int)) = false := by rw [decide_eq_false_iff_not]; omega
    have d2 : decide ((U : Int) < 1) = false := by rw [decide_eq_false_iff_not]; omega
    have d3 : decide (3 < (U : Int)) = false := by rw [decide_eq_false_iff_not]; omega
    have d4 : decide ((A : Int) < 1) = false := by rw [decide_eq_false_iff_not]; omega
    have d5 : decide (2 < (A : Int)) = false := by rw [decide_eq_false_iff_not]; omega
    have HSH := Lib.hid (show shapedB m = (((m.next.2.1 : Int) == (N : Int) && (m.sees.2.1 : Int) == (N : Int)) && (List.range N).all (stB m)) by unfold shapedB; rw [hN, Int.toNat_natCast])
    have HST := Lib.hid (fun s => show stB m s = ((((rowAt m s).2.1 : Int) == (U : Int) && ((seeAt m s).2.1 : Int) == (U : Int)) && (rowAt m s).2.2.2.all (actsB m)) by unfold stB; rw [hU])
    have HAB := Lib.hid (fun r : Rv => show actsB m r = ((r.2.1 : Int) == (A : Int)) by unfold actsB; rw [hA])
    have HGB := Lib.hid (fun t : Int => show goesB m t = (decide (0 ≤ t) && decide (t < (N : Int))) by unfold goesB; rw [hN])
    have HV0b := Lib.hid (HV0.out hbg)
    have HMOK := HM
    rw [hN] at b0
    rw [hU] at b1
    rw [hA] at b2
    rw [hN, hU, hA] at hw1 ⊢
    clear hN hU hA hbg hno HBB HV0 HV1
    by_cases h1 : m.next.2.1 = N
    · by_cases h2 : m.sees.2.1 = N
      · have HR := Lib.hid (show shapedB m = (List.range N).all (stB m) by rw [HSH.out, h1, h2]; simp)
        have H1 := Lib.hid h1
        have H2 := Lib.hid h2
        have g1 : ((N : Int) != (N : Int)) = false := by simp
        have hm := HM.out
        unfold McOk at hm
        obtain ⟨bn, on, en, hbn, _⟩ := rowAt_get hm.1 h1 (show 0 < N by omega)
        obtain ⟨bs, os, es, hbs, _⟩ := seeAt_get hm.2.2.1 h2 (show 0 < N by omega)
        have HLL := Lib.hid (show m.next.2.2.2.length = N by rw [hm.1.2.1, h1])
        have HEN := Lib.hid en
        have HES := Lib.hid es
        rw [h1, en] at b3 hw1 ⊢
        rw [h2, es] at b4 hw1 ⊢
        have HB0 := Lib.hid b0
        have HB1 := Lib.hid b1
        have HB2 := Lib.hid b2
        have HB3 := Lib.hid b3
        have HB4 := Lib.hid b4
        have HBL := Lib.hid HBX.out.1
        clear h1 h2 hm en es
        go_enter Try.func30, Try.ntmps30
        go_wp2_with fail
        clear d0 d1 d2 d3 d4 d5
        go_loopw [3] (fun t wr => ∃ s : Nat, s ≤ N ∧ t = .int .i64 (s : Nat) ∧ Kept w1 wr ∧ Hid ((List.range s).all (stB m) = true)) (fun t _ => N - (intOf t).toNat)
        case atStart => exact ⟨0, Nat.zero_le _, rfl, Kept.refl _, Lib.hid rfl⟩
        case round =>
          obtain ⟨s, hs, rfl, hkw, HALL⟩ := hrel
          have r0 := (hkw.cell (p := ⟨w.heap.size, 0, none⟩) HBL.out).trans HB0.out
          have r2 := (hkw.cell (p := ⟨w.heap.size, 2, none⟩) HBL.out).trans HB2.out
          by_cases hlt : s < N
          · obtain ⟨bn', on', en, hbn', cn, rn⟩ := rowAt_get (HM.out.kept hkw).1 H1.out hlt
            rw [HEN.out] at en
            injection en with en
            injection en with ea eb
            subst ea eb
            obtain ⟨bs', os', es, hbs', cs, rs⟩ := seeAt_get (HM.out.kept hkw).2.2.1 H2.out hlt
            rw [HES.out] at es
            injection es with es
            injection es with ea eb
            subst ea eb
            have HSB := Lib.hid (HST.out s)
            have HAS := Lib.hid (all_rangeV (stB m) s)
            have HFA := Lib.hid (fun h : stB m s = false => HV3.out (by rw [HR.out]; exact all_falseV (f := stB m) hlt h))
            have q1 := kw_cell ((hkw.cell (p := ⟨w.heap.size, 1, none⟩) HBL.out).trans HB1.out)
            have q3 := kw_cell ((hkw.cell (p := ⟨w.heap.size, 3, none⟩) HBL.out).trans HB3.out)
            have q4 := kw_cell ((hkw.cell (p := ⟨w.heap.size, 4, none⟩) HBL.out).trans HB4.out)
            have qn := kw_cell cn
            have qs := kw_cell cs
            have i1 : (0 : Int) ≤ (s : Int) := by omega
            have i2 : (s : Int) < (N : Int) := by omega
            have HRN := Lib.hid rn.1
            have HCN := Lib.hid cn
            have HQ3 := Lib.hid ((hkw.cell (p := ⟨w.heap.size, 3, none⟩) HBL.out).trans HB3.out)
            have HQ2 := Lib.hid r2
            have HKW := Lib.hid hkw
            generalize (rowAt m s).2.2.2 = rows at HRN HSB
            generalize (rowAt m s).1 = ra at qn HRN HCN
            generalize (rowAt m s).2.2.1 = rc at qn HCN
            generalize (rowAt m s).2.1 = rl at qn HRN HSB HCN
            generalize (seeAt m s).1 = sa at qs
            generalize (seeAt m s).2.2.1 = sc at qs
            generalize (seeAt m s).2.1 = sl at qs HSB
            clear cn cs rn rs
            by_cases hu : rl = U
            · subst hu
              have gu : ((rl : Int) != (rl : Int)) = false := by simp
              by_cases hv : sl = rl
              · subst hv
                have gv : ((sl : Int) != (sl : Int)) = false := by simp
                have HSC := Lib.hid (show stB m s = rows.all (actsB m) by rw [HSB.out]; simp)
                go_wp2_with fail
                refine wp_region_kept (by kernel_rfl) (by kernel_rfl) ?_
                repeat (go_big_quiet_step (fail))
                refine wpQuiet_nil ?_
                intro w5 k5
                obtain ⟨rb, ro, _, era, hrb, _⟩ := HRN.out.get 0 (by omega)
                subst era
                have K5 := Lib.hid k5
                have z3 := (k5.cell (cell_lt HQ3.out)).trans HQ3.out
                have z4 := (k5.cell (cell_lt HCN.out)).trans HCN.out
                clear q1 q3 q4 qn qs r0 r2 k5
                go_wp2_with fail
                go_loopw [85] (fun t wr => ∃ k : Nat, k ≤ sl ∧ t = .int .i64 (k : Nat) ∧ Kept w5 wr ∧ Hid ((rows.take k).all (actsB m) = true)) (fun t _ => sl - (intOf t).toNat)
                case atStart => exact ⟨0, Nat.zero_le _, rfl, Kept.refl _, Lib.hid rfl⟩
                case round =>
                  obtain ⟨k, hk, rfl, hkz, HALZ⟩ := hrel
                  by_cases hlz : k < sl
                  · obtain ⟨rb', ro', hkl, e, hb5, c5, _⟩ := HRN.out.get k hlz
                    injection e with e
                    injection e with ea eb
                    subst ea eb
                    have y2 := ((K5.out.trans hkz).cell (cell_lt HQ2.out)).trans HQ2.out
                    have y5 := ((K5.out.trans hkz).cell (cell_lt c5)).trans c5
                    have HKL := Lib.hid hkl
                    have HTA := Lib.hid (takeV_all (actsB m) rows k hkl)
                    have HTF := Lib.hid (@takeV_allF _ (actsB m) rows k hkl)
                    have HAK := Lib.hid (HAB.out rows[k])
                    clear c5
                    generalize rows[k] = rk at y5 HTA HTF HAK
                    have i3 : (0 : Int) ≤ (k : Int) := by omega
                    have i4 : (k : Int) < (sl : Int) := by omega
                    by_cases hra : rk.2.1 = A
                    · have HT := Lib.hid (show (rows.take (k + 1)).all (actsB m) = true by rw [HTA.out, HALZ.out, HAK.out, hra]; simp)
                      rw [hra] at y5
                      have ga : ((A : Int) != (A : Int)) = false := by simp
                      clear hra
                      go_wp2_with fail
                      go_roundw
                      case rel => exact ⟨k + 1, by omega, by go_num, hkz, HT⟩
                      case measure => simp [intOf]; omega
                    · have ga : ((rk.2.1 : Int) != (A : Int)) = true := by rw [bne_iff_ne]; omega
                      have HT := Lib.hid (show vf ≠ 0 from HFA.out (by rw [HSC.out]; exact HTF.out (by rw [HAK.out]; simp; omega)))
                      clear hra
                      go_wp2_with fail
                      go_ret
                      exact ⟨3, rfl, ⟨fun h => by omega, fun h => absurd h HT.out⟩, HKA.out.trans (HKW.out.trans (K5.out.trans hkz))⟩
                  · have HT := Lib.hid (show (List.range (s + 1)).all (stB m) = true by
                      have h3 := HALZ.out
                      have h4 : rows.length = sl := HRN.out.2.1
                      rw [List.take_of_length_le (by omega)] at h3
                      rw [HAS.out, HALL.out, HSC.out, h3]
                      rfl)
                    go_wp2_with fail
                    go_roundw
                    case rel => exact ⟨s + 1, by omega, by go_num, HKW.out.trans (K5.out.trans hkz), HT⟩
                    case measure => simp [intOf]; omega
              · have gv : ((sl : Int) != (rl : Int)) = true := by rw [bne_iff_ne]; omega
                have HSF := Lib.hid (HFA.out (show stB m s = false by rw [HSB.out]; have : ((sl : Int) == (rl : Int)) = false := (by simp; omega); rw [this]; simp))
                go_wp2_with fail
                refine wp_region_kept (by kernel_rfl) (by kernel_rfl) ?_
                repeat (go_big_quiet_step (fail))
                refine wpQuiet_nil ?_
                intro w5 k5
                go_wp2_with fail
                go_ret
                exact ⟨3, rfl, ⟨fun h => by omega, fun h => absurd h HSF.out⟩, HKA.out.trans (hkw.trans k5)⟩
            · have gu : ((rl : Int) != (U : Int)) = true := by rw [bne_iff_ne]; omega
              have HSF := Lib.hid (HFA.out (show stB m s = false by rw [HSB.out]; have : ((rl : Int) == (U : Int)) = false := (by simp; omega); rw [this]; rfl))
              go_wp2_with fail
              refine wp_region_kept (by kernel_rfl) (by kernel_rfl) ?_
              repeat (go_big_quiet_step (fail))
              refine wpQuiet_nil ?_
              intro w5 k5
              go_wp2_with fail
              go_ret
              exact ⟨3, rfl, ⟨fun h => by omega, fun h => absurd h HSF.out⟩, HKA.out.trans (hkw.trans k5)⟩
          · have HA := Lib.hid (show (List.range N).all (stB m) = true by
              have := HALL.out
              rw [show s = N by omega] at this
              exact this)
            have HK1 := Lib.hid hkw
            clear r2 hkw
            go_wp2_with fail
            clear r0
            go_loopw [6] (fun t wq => ∃ s2 : Nat, s2 ≤ N ∧ t = .int .i64 (s2 : Nat) ∧ Kept w1 wq ∧ Hid ((List.range s2).all (stG m) = true)) (fun t _ => N - (intOf t).toNat)
            case atStart => exact ⟨0, Nat.zero_le _, rfl, HK1.out, Lib.hid rfl⟩
            case round =>
              obtain ⟨s2, hs2, rfl, hkw, HALG⟩ := hrel
              have r0 := (hkw.cell (p := ⟨w.heap.size, 0, none⟩) HBL.out).trans HB0.out
              by_cases hlt2 : s2 < N
              · obtain ⟨bn', on', en, hbn', cn, rn⟩ := rowAt_get (HM.out.kept hkw).1 H1.out hlt2
                rw [HEN.out] at en
                injection en with en
                injection en with ea eb
                subst ea eb
                have hst := List.all_eq_true.1 HA.out s2 (List.mem_range.2 hlt2)
                rw [HST.out, Bool.and_eq_true, Bool.and_eq_true, beq_iff_eq, beq_iff_eq] at hst
                have HACT := Lib.hid hst.2
                have hrl := hst.1.1
                have HAG := Lib.hid (all_rangeV (stG m) s2)
                have HSG := Lib.hid (show stG m s2 = (rowAt m s2).2.2.2.all (rowG m) from rfl)
                have HFG := Lib.hid (fun h : stG m s2 = false => HV2.out (by rw [← allTo_st HLL.out]; exact all_falseV (f := stG m) hlt2 h))
                have r3 := (hkw.cell (p := ⟨w.heap.size, 3, none⟩) HBL.out).trans HB3.out
                have i1 : (0 : Int) ≤ (s2 : Int) := by omega
                have i2 : (s2 : Int) < (N : Int) := by omega
                have HRN := Lib.hid rn.1
                have HKW := Lib.hid hkw
                generalize (rowAt m s2).2.2.2 = rows at HRN HSG HACT
                generalize (rowAt m s2).1 = ra at cn HRN
                generalize (rowAt m s2).2.2.1 = rc at cn
                generalize (rowAt m s2).2.1 = rl at cn HRN hrl
                obtain rfl : rl = U := by omega
                obtain ⟨rb, ro, _, era, hrb, _⟩ := HRN.out.get 0 (by omega)
                subst era
                clear rn hst hrl
                go_wp2_with fail
                clear r3 cn r0
                go_loopw [107] (fun t wz => ∃ k : Nat, k ≤ rl ∧ t = .int .i64 (k : Nat) ∧ Kept wr wz ∧ Hid ((rows.take k).all (rowG m) = true)) (fun t _ => rl - (intOf t).toNat)
                case atStart => exact ⟨0, Nat.zero_le _, rfl, Kept.refl _, Lib.hid rfl⟩
                case round =>
                  obtain ⟨k, hk, rfl, hkz, HALZ⟩ := hrel
                  by_cases hlz : k < rl
                  · obtain ⟨rb', ro', hkl, e, hb5, c5, hrw⟩ := HRN.out.get k hlz
                    injection e with e
                    injection e with ea eb
                    subst ea eb
                    have y5 := (hkz.cell (cell_lt c5)).trans c5
                    have hla : rows[k].2.1 = A := by
                      have := List.all_eq_true.1 HACT.out _ (List.getElem_mem hkl)
                      rw [HAB.out, beq_iff_eq] at this
                      omega
                    have HTA := Lib.hid (takeV_all (rowG m) rows k hkl)
                    have HTF := Lib.hid (@takeV_allF _ (rowG m) rows k hkl)
                    have HRG := Lib.hid (show rowG m rows[k] = rows[k].2.2.2.all (goesB m) from rfl)
                    have hr1 := hrw.1
                    clear c5 hrw
                    generalize rows[k] = rk at y5 hla HTA HTF HRG hr1
                    rw [hla] at y5 hr1
                    obtain ⟨qb, qo, eq, hqb, hqc⟩ := hr1.open_ (by omega)
                    rw [eq] at y5
                    have HQC := Lib.hid (fun j hj => (hkz.cell (p := ⟨qb, qo + j, none⟩) hqb).trans (hqc j hj))
                    have HQB := Lib.hid (Nat.lt_of_lt_of_le hqb hkz.size)
                    have HQL := Lib.hid hr1.2
                    have HKZ := Lib.hid (HKW.out.trans hkz)
                    have HKX := Lib.hid hkz
                    have i3 : (0 : Int) ≤ (k : Int) := by omega
                    have i4 : (k : Int) < (rl : Int) := by omega
                    clear hla hr1 eq hqc hkl
                    go_wp2_with fail
                    clear y5
                    go_loopw [113] (fun t wy => ∃ j : Nat, j ≤ A ∧ t = .int .i64 (j : Nat) ∧ Kept wr wy ∧ Hid ((rk.2.2.2.take j).all (goesB m) = true)) (fun t _ => A - (intOf t).toNat)
                    case atStart => exact ⟨0, Nat.zero_le _, rfl, Kept.refl _, Lib.hid rfl⟩
                    case round =>
                      obtain ⟨j, hj, rfl, hky, HALY⟩ := hrel
                      have y0 := ((HKZ.out.trans hky).cell (p := ⟨w.heap.size, 0, none⟩) HBL.out).trans HB0.out
                      by_cases hly : j < A
                      · have hjl : j < rk.2.2.2.length := by have := HQL.out; omega
                        have y6 := (hky.cell (p := ⟨qb, qo + j, none⟩) HQB.out).trans (HQC.out j hly)
                        have HTB := Lib.hid (takeV_all (goesB m) rk.2.2.2 j hjl)
                        have HTG := Lib.hid (@takeV_allF _ (goesB m) rk.2.2.2 j hjl)
                        rw [iat_eq _ _ hjl] at y6
                        have HGJ := Lib.hid (HGB.out rk.2.2.2[j])
                        generalize rk.2.2.2[j] = tj at y6 HTB HTG HGJ
                        have i5 : (0 : Int) ≤ (j : Int) := by omega
                        have i6 : (j : Int) < (A : Int) := by omega
                        have HBADT := Lib.hid (fun h : goesB m tj = false => HFG.out (by rw [HSG.out]; exact HTF.out (by rw [HRG.out]; exact HTG.out h)))
                        cases c1 : decide (tj < 0) with
                        | true =>
                          have HT := Lib.hid (HBADT.out (by rw [HGJ.out]; rw [decide_eq_true_eq] at c1; have : decide (0 ≤ tj) = false := (by rw [decide_eq_false_iff_not]; omega); rw [this]; rfl))
                          go_wp2_with fail
                          go_ret
                          exact ⟨2, rfl, ⟨fun h => by omega, fun h => absurd h HT.out⟩, HKA.out.trans (HKZ.out.trans hky)⟩
                        | false =>
                          cases c2 : decide ((N : Int) ≤ tj) with
                          | true =>
                            have HT := Lib.hid (HBADT.out (by rw [HGJ.out]; rw [decide_eq_true_eq] at c2; have : decide (tj < (N : Int)) = false := (by rw [decide_eq_false_iff_not]; omega); rw [this]; simp))
                            go_wp2_with fail
                            go_ret
                            exact ⟨2, rfl, ⟨fun h => by omega, fun h => absurd h HT.out⟩, HKA.out.trans (HKZ.out.trans hky)⟩
                          | false =>
                            have HT := Lib.hid (show (rk.2.2.2.take (j + 1)).all (goesB m) = true by
                              rw [decide_eq_false_iff_not] at c1 c2
                              rw [HTB.out, HALY.out, HGJ.out]
                              have e1 : decide (0 ≤ tj) = true := by rw [decide_eq_true_eq]; omega
                              have e2 : decide (tj < (N : Int)) = true := by rw [decide_eq_true_eq]; omega
                              rw [e1, e2]
                              rfl)
                            go_wp2_with fail
                            go_roundw
                            case rel => exact ⟨j + 1, by omega, by go_num, hky, HT⟩
                            case measure => simp [intOf]; omega
                      · have HT := Lib.hid (show (rows.take (k + 1)).all (rowG m) = true by
                          have h3 := HALY.out
                          rw [List.take_of_length_le (by have := HQL.out; omega)] at h3
                          rw [HTA.out, HALZ.out, HRG.out, h3]
                          rfl)
                        go_wp2_with fail
                        go_roundw
                        case rel => exact ⟨k + 1, by omega, by go_num, (HKX.out).trans hky, HT⟩
                        case measure => simp [intOf]; omega
                  · have HT := Lib.hid (show (List.range (s2 + 1)).all (stG m) = true by
                      have h3 := HALZ.out
                      have h4 : rows.length = rl := HRN.out.2.1
                      rw [List.take_of_length_le (by omega)] at h3
                      rw [HAG.out, HALG.out, HSG.out, h3]
                      rfl)
                    go_wp2_with fail
                    go_roundw
                    case rel => exact ⟨s2 + 1, by omega, by go_num, HKW.out.trans hkz, HT⟩
                    case measure => simp [intOf]; omega
              · have HG := Lib.hid (show vf = 0 from HV0b.out (by rw [HR.out]; exact HA.out) (by
                  rw [← allTo_st HLL.out]
                  have := HALG.out
                  rw [show s2 = N by omega] at this
                  exact this))
                go_wp2_with fail
                go_ret
                exact ⟨0, rfl, ⟨fun _ => HG.out, fun _ => rfl⟩, HKA.out.trans hkw⟩
      · have g1 : ((N : Int) != (N : Int)) = false := by simp
        have g2 : ((m.sees.2.1 : Int) != (N : Int)) = true := by rw [bne_iff_ne]; omega
        have HR := Lib.hid (HV3.out (show shapedB m = false by rw [HSH.out]; have : ((m.sees.2.1 : Int) == (N : Int)) = false := (by simp; omega); rw [this]; simp))
        rw [h1] at b3 hw1 ⊢
        clear h1 h2
        go_enter Try.func30, Try.ntmps30
        go_wp2_with fail
        go_ret
        exact ⟨3, rfl, ⟨fun h => by omega, fun h => absurd h HR.out⟩, HKA.out⟩
    · have g1 : ((m.next.2.1 : Int) != (N : Int)) = true := by rw [bne_iff_ne]; omega
      have HR := Lib.hid (HV3.out (show shapedB m = false by rw [HSH.out]; have : ((m.next.2.1 : Int) == (N : Int)) = false := (by simp; omega); rw [this]; rfl))
      clear h1
      go_enter Try.func30, Try.ntmps30
      go_wp2_with fail
      go_ret
      exact ⟨3, rfl, ⟨fun h => by omega, fun h => absurd h HR.out⟩, HKA.out⟩
end Go.Proofs.Ytjcooagchjjknaa
