/- The walk of view.shaped. -/
import Derived.Test.YtjcooagchjjknaaView1
namespace Go.Proofs.Ytjcooagchjjknaa
open Go Go.RowKit
set_option linter.unusedVariables false
set_option linter.unusedSimpArgs false

theorem all_rangeV (f : Nat → Bool) (k : Nat) : (List.range (k + 1)).all f = ((List.range k).all f && f k) := by
  rw [List.range_succ, List.all_append]
  simp
theorem all_falseV {f : Nat → Bool} {n k : Nat} (hk : k < n) (h : f k = false) : (List.range n).all f = false := by
  rw [List.all_eq_false]
  exact ⟨k, List.mem_range.2 hk, by simp [h]⟩
theorem stB_eq (m : Mc) (s : Nat) : stB m s = ((((rowAt m s).2.1 : Int) == m.us && ((seeAt m s).2.1 : Int) == m.us) && !(rowAt m s).2.2.2.any (notActs m)) := by
  unfold stB
  congr 1
  induction (rowAt m s).2.2.2 with
  | nil => rfl
  | cons r l ih =>
    rw [List.all_cons, List.any_cons, ih, Bool.not_or]
    congr 1
    unfold actsB notActs
    cases h : ((r.2.1 : Int) == m.as)
    · have : ((r.2.1 : Int) != m.as) = true := by rw [bne_iff_ne]; simpa using h
      rw [this]; rfl
    · have : ((r.2.1 : Int) != m.as) = false := by rw [bne_eq_false_iff_eq]; simpa using h
      rw [this]; rfl
theorem rowAt_get {w : World} {m : Mc} {N : Nat} (h : SlMM w m.next.1 m.next.2.1 m.next.2.2.2) (hl : m.next.2.1 = N) {s : Nat} (hs : s < N) : ∃ b o, m.next.1 = some ⟨b, o, none⟩ ∧ b < w.heap.size ∧ w.cell? ⟨b, o + s, none⟩ = some (.slice (rowAt m s).1 (rowAt m s).2.1 (rowAt m s).2.2.1) ∧ R2Ok w (rowAt m s) := by
  rw [hl] at h
  obtain ⟨b, o, hk, e, hb, hc, hr⟩ := h.get s hs
  have er : rowAt m s = m.next.2.2.2[s] := by
    unfold rowAt
    rw [List.getD_eq_getElem?_getD, List.getElem?_eq_getElem hk]
    rfl
  rw [er]
  exact ⟨b, o, e, hb, hc, hr⟩
theorem seeAt_get {w : World} {m : Mc} {N : Nat} (h : SlM w m.sees.1 m.sees.2.1 m.sees.2.2.2) (hl : m.sees.2.1 = N) {s : Nat} (hs : s < N) : ∃ b o, m.sees.1 = some ⟨b, o, none⟩ ∧ b < w.heap.size ∧ w.cell? ⟨b, o + s, none⟩ = some (.slice (seeAt m s).1 (seeAt m s).2.1 (seeAt m s).2.2.1) ∧ RowOk w (seeAt m s) := by
  rw [hl] at h
  obtain ⟨b, o, hk, e, hb, hc, hr⟩ := h.get s hs
  have er : seeAt m s = m.sees.2.2.2[s] := by
    unfold seeAt
    rw [List.getD_eq_getElem?_getD, List.getElem?_eq_getElem hk]
    rfl
  rw [er]
  exact ⟨b, o, e, hb, hc, hr⟩
set_option maxRecDepth 100000 in
set_option maxHeartbeats 4000000 in
theorem shaped_any (m : Mc) (w : World) (h : McOk w m) (hb : bigB m = false) :
    Calls Try.prog 54 #[.agg (mcA m)] w fun e w' => e = .returned (.bool (shapedB m)) ∧ Kept w w' := by
  unfold bigB at hb
  rw [decide_eq_false_iff_not] at hb
  obtain ⟨N, hN⟩ := Int.eq_ofNat_of_zero_le (show 0 ≤ m.n by omega)
  obtain ⟨U, hU⟩ := Int.eq_ofNat_of_zero_le (show 0 ≤ m.us by omega)
  have hN6 : N ≤ 6 := by omega
  have hN1 : 1 ≤ N := by omega
  have hU3 : U ≤ 3 := by omega
  have HSH := Lib.hid (show shapedB m = (((m.next.2.1 : Int) == (N : Int) && (m.sees.2.1 : Int) == (N : Int)) && (List.range N).all (stB m)) by unfold shapedB; rw [hN, Int.toNat_natCast])
  have HST := Lib.hid (fun s => by have := stB_eq m s; rw [hU] at this; exact this)
  have hka : Kept w (w.alloc (.cells (mcA m) 63)) := (Kept.refl _).alloc _
  have bx := Box.new w (mcA m) 63 w.heap.size rfl
  have HM := Lib.hid (h.kept hka)
  have HKA := Lib.hid hka
  obtain ⟨w1, hw1⟩ : ∃ w1, w.alloc (.cells (mcA m) 63) = w1 := ⟨_, rfl⟩
  rw [hw1] at bx HM HKA
  have HBX := Lib.hid bx
  have b0 : w1.cell? ⟨w.heap.size, 0, none⟩ = some (.int .i64 (N : Int)) := by rw [← hN]; exact bx.at_ 0 rfl
  have b3 := bx.at_ 3 (u := .slice m.next.1 m.next.2.1 m.next.2.2.1) rfl
  have b4 := bx.at_ 4 (u := .slice m.sees.1 m.sees.2.1 m.sees.2.2.1) rfl
  clear h hb hka bx
  have b1 : w1.cell? ⟨w.heap.size, 1, none⟩ = some (.int .i64 (U : Int)) := by rw [← hU]; exact HBX.out.at_ 1 rfl
  have b2 : w1.cell? ⟨w.heap.size, 2, none⟩ = some (.int .i64 m.as) := HBX.out.at_ 2 rfl
  have HB2 := Lib.hid b2
  unfold mcA at hw1 ⊢
  rw [hN, hU] at hw1 ⊢
  clear hN hU
  generalize shapedB m = sb at HSH ⊢
  by_cases h1 : m.next.2.1 = N
  · by_cases h2 : m.sees.2.1 = N
    · have HR := Lib.hid (show sb = (List.range N).all (stB m) by rw [HSH.out, h1, h2]; simp)
      have H1 := Lib.hid h1
      have H2 := Lib.hid h2
      have g1 : ((N : Int) != (N : Int)) = false := by simp
      have hm := HM.out
      unfold McOk at hm
      obtain ⟨bn, on, en, hbn, _⟩ := rowAt_get hm.1 h1 (show 0 < N by omega)
      obtain ⟨bs, os, es, hbs, _⟩ := seeAt_get hm.2.2.1 h2 (show 0 < N by omega)
      have HEN := Lib.hid en
      have HES := Lib.hid es
      rw [h1, en] at b3 hw1 ⊢
      rw [h2, es] at b4 hw1 ⊢
      have HB1 := Lib.hid b1
      have HB3 := Lib.hid b3
      have HB4 := Lib.hid b4
      have HBL := Lib.hid HBX.out.1
      clear h1 h2 hm en es
      go_enter Try.func54, Try.ntmps54
      go_wp2_with fail
      go_loopw [20] (fun t wr => ∃ s : Nat, s ≤ N ∧ t = .int .i64 (s : Nat) ∧ Kept w1 wr ∧ Hid ((List.range s).all (stB m) = true)) (fun t _ => N - (intOf t).toNat)
      case atStart => exact ⟨0, Nat.zero_le _, rfl, Kept.refl _, Lib.hid rfl⟩
      case round =>
        obtain ⟨s, hs, rfl, hkw, HALL⟩ := hrel
        by_cases hlt : s < N
        · obtain ⟨bn', on', en, hbn', cn, rn⟩ := rowAt_get (HM.out.kept hkw).1 H1.out hlt
          rw [HEN.out] at en
          injection en with en
          injection en with ea eb
          subst ea eb
          obtain ⟨bs', os', es, hbs', cs, rs⟩ := seeAt_get (HM.out.kept hkw).2.2.1 H2.out hlt
          rw [HES.out] at es
          injection es with es
          injection es with ea eb
          subst ea eb
          have HSB := Lib.hid (HST.out s)
          have HAS := Lib.hid (all_rangeV (stB m) s)
          have HFA := Lib.hid (fun h => all_falseV (f := stB m) hlt h)
          have q1 := kw_cell ((hkw.cell (p := ⟨w.heap.size, 1, none⟩) HBL.out).trans HB1.out)
          have q3 := kw_cell ((hkw.cell (p := ⟨w.heap.size, 3, none⟩) HBL.out).trans HB3.out)
          have q4 := kw_cell ((hkw.cell (p := ⟨w.heap.size, 4, none⟩) HBL.out).trans HB4.out)
          have qn := kw_cell cn
          have qs := kw_cell cs
          have i1 : (0 : Int) ≤ (s : Int) := by omega
          have i2 : (s : Int) < (N : Int) := by omega
          have HRN := Lib.hid rn.1
          have HP := Lib.hid (kw_cell ((hkw.cell (p := ⟨w.heap.size, 2, none⟩) HBL.out).trans HB2.out))
          generalize (rowAt m s).2.2.2 = rows at HRN HSB
          generalize (rowAt m s).1 = ra at qn HRN
          generalize (rowAt m s).2.2.1 = rc at qn
          generalize (rowAt m s).2.1 = rl at qn HRN HSB
          generalize (seeAt m s).1 = sa at qs
          generalize (seeAt m s).2.2.1 = sc at qs
          generalize (seeAt m s).2.1 = sl at qs HSB
          clear cn cs rn rs
          by_cases hu : rl = U
          · subst hu
            have gu : ((rl : Int) != (rl : Int)) = false := by simp
            by_cases hv : sl = rl
            · subst hv
              have gv : ((sl : Int) != (sl : Int)) = false := by simp
              cases ga : rows.any (notActs m) with
              | true =>
                have HSF := Lib.hid (show stB m s = false by rw [HSB.out, ga]; simp)
                go_wp2_with fail
                refine wp_region_kept (by kernel_rfl) (by kernel_rfl) ?_
                repeat (go_big_quiet_step ((go_at_call 60; exact kept_of_same (vshContains_any m w.heap.size _ _ _ rows _ (HRN.out.kept (KW.kept _)) (by omega) (HP.out _)))))
                refine wpQuiet_nil ?_
                intro w5 k5
                go_wp2_with fail
                go_ret
                exact ⟨by rw [HR.out, HFA.out HSF.out]; rfl, HKA.out.trans (hkw.trans k5)⟩
              | false =>
                have HSF := Lib.hid (show stB m s = true by rw [HSB.out, ga]; simp)
                go_wp2_with fail
                refine wp_region_kept (by kernel_rfl) (by kernel_rfl) ?_
                repeat (go_big_quiet_step ((go_at_call 60; exact kept_of_same (vshContains_any m w.heap.size _ _ _ rows _ (HRN.out.kept (KW.kept _)) (by omega) (HP.out _)))))
                refine wpQuiet_nil ?_
                intro w5 k5
                go_wp2_with fail
                go_roundw
                case rel => exact ⟨s + 1, by omega, by go_num, hkw.trans k5, Lib.hid (by rw [HAS.out, HALL.out, HSF.out]; rfl)⟩
                case measure => simp [intOf]; omega
            · have gv : ((sl : Int) != (rl : Int)) = true := by rw [bne_iff_ne]; omega
              have HSF := Lib.hid (show stB m s = false by rw [HSB.out]; have : ((sl : Int) == (rl : Int)) = false := (by simp; omega); rw [this]; simp)
              go_wp2_with fail
              refine wp_region_kept (by kernel_rfl) (by kernel_rfl) ?_
              repeat (go_big_quiet_step (fail))
              refine wpQuiet_nil ?_
              intro w5 k5
              go_wp2_with fail
              go_ret
              exact ⟨by rw [HR.out, HFA.out HSF.out]; rfl, HKA.out.trans (hkw.trans k5)⟩
          · have gu : ((rl : Int) != (U : Int)) = true := by rw [bne_iff_ne]; omega
            have HSF := Lib.hid (show stB m s = false by rw [HSB.out]; have : ((rl : Int) == (U : Int)) = false := (by simp; omega); rw [this]; rfl)
            go_wp2_with fail
            refine wp_region_kept (by kernel_rfl) (by kernel_rfl) ?_
            repeat (go_big_quiet_step (fail))
            refine wpQuiet_nil ?_
            intro w5 k5
            go_wp2_with fail
            go_ret
            exact ⟨by rw [HR.out, HFA.out HSF.out]; rfl, HKA.out.trans (hkw.trans k5)⟩
        · have HA := Lib.hid (show sb = true by
            rw [HR.out]
            have := HALL.out
            rw [show s = N by omega] at this
            exact this)
          go_wp2_with fail
          go_ret
          exact ⟨by rw [HA.out]; rfl, HKA.out.trans hkw⟩
    · have g1 : ((N : Int) != (N : Int)) = false := by simp
      have g2 : ((m.sees.2.1 : Int) != (N : Int)) = true := by rw [bne_iff_ne]; omega
      have HR := Lib.hid (show sb = false by rw [HSH.out]; have : ((m.sees.2.1 : Int) == (N : Int)) = false := (by simp; omega); rw [this]; simp)
      rw [h1] at b3 hw1 ⊢
      clear h1 h2
      go_enter Try.func54, Try.ntmps54
      go_wp2_with fail
      go_ret
      exact ⟨by rw [HR.out]; rfl, HKA.out⟩
  · have g1 : ((m.next.2.1 : Int) != (N : Int)) = true := by rw [bne_iff_ne]; omega
    have HR := Lib.hid (show sb = false by rw [HSH.out]; have : ((m.next.2.1 : Int) == (N : Int)) = false := (by simp; omega); rw [this]; rfl)
    clear h1
    go_enter Try.func54, Try.ntmps54
    go_wp2_with fail
    go_ret
    exact ⟨by rw [HR.out]; rfl, HKA.out⟩
end Go.Proofs.Ytjcooagchjjknaa
