/- The walk of the reference's LinesCheck. -/
import Derived.Test.YtnnddjanbfamkaaFlow3
namespace Go.Proofs.Ytnnddjanbfamkaa
open Go Go.RowKit
set_option linter.unusedVariables false

/-- where an argument stands -/
theorem arg_where (n x : Int) (hn : 1 ≤ n) : x < -1 ∨ x = -1 ∨ (0 ≤ x ∧ x < n) ∨ n ≤ x := by omega
theorem vB_no {n x : Int} : vB n x = false ↔ x < 0 ∨ n ≤ x := by
  unfold vB
  rw [Bool.and_eq_false_iff, decide_eq_false_iff_not, decide_eq_false_iff_not]
  omega
/-- the tests of a set line, in the order in which they are made -/
theorem tests_of {n t a b : Int} (hn : 1 ≤ n) (h : (!vB n t || ((a != -1) && !vB n a) || ((b != -1) && !vB n b)) = true) :
    (decide (t < 0) = true) ∨ (decide (t < 0) = false ∧ decide (n ≤ t) = true) ∨ (decide (t < 0) = false ∧ decide (n ≤ t) = false ∧ decide (a < -1) = true) ∨ (decide (t < 0) = false ∧ decide (n ≤ t) = false ∧ decide (a < -1) = false ∧ decide (n ≤ a) = true) ∨
    (decide (t < 0) = false ∧ decide (n ≤ t) = false ∧ decide (a < -1) = false ∧ decide (n ≤ a) = false ∧ decide (b < -1) = true) ∨ (decide (t < 0) = false ∧ decide (n ≤ t) = false ∧ decide (a < -1) = false ∧ decide (n ≤ a) = false ∧ decide (b < -1) = false ∧ decide (n ≤ b) = true) := by
  simp only [Bool.or_eq_true, Bool.not_eq_true', Bool.and_eq_true, vB_no, bne_iff_ne, ne_eq] at h
  simp only [decide_eq_true_eq, decide_eq_false_iff_not]
  omega
theorem tests_ok {n t a b : Int} (hn : 1 ≤ n) (h : (!vB n t || ((a != -1) && !vB n a) || ((b != -1) && !vB n b)) = false) :
    decide (t < 0) = false ∧ decide (n ≤ t) = false ∧ decide (a < -1) = false ∧ decide (n ≤ a) = false ∧ decide (b < -1) = false ∧ decide (n ≤ b) = false := by
  simp only [Bool.or_eq_false_iff, Bool.not_eq_false', Bool.and_eq_false_iff, vB_iff, bne_eq_false_iff_eq] at h
  simp only [decide_eq_false_iff_not]
  omega
theorem tests_a (n a : Int) : decide (a < 0) = true ∨ (decide (a < 0) = false ∧ decide (n ≤ a) = true) ∨ (decide (a < 0) = false ∧ decide (n ≤ a) = false) := by
  simp only [decide_eq_true_eq, decide_eq_false_iff_not]
  omega
set_option maxRecDepth 100000 in
set_option maxHeartbeats 16000000 in
theorem linesC_any (n : Int) (hn1 : 1 ≤ n) (hn6 : n ≤ 6) : ∀ (f : Nat) (p : Ln) (A : Option Addr) (c : Nat) (w : World), p.wt < f → SlLn w A p →
    Calls Try.prog 52 #[.int .i64 n, .slice A p.len c] w fun e w' => e = .returned (.int .i64 (lnF n p)) ∧ Kept w w' := by
  intro f
  induction f with
  | zero => intro p A c w h; omega
  | succ f ih =>
    intro p A c w hwt hs
    have HIH := Lib.hid ih
    have HWT := Lib.hid hwt
    have hml : p.len ≤ 9223372036854775807 := hs.1
    obtain ⟨B, o, hA, hat⟩ := hs.open_
    have HA := Lib.hid hA
    have HAT := Lib.hid hat
    clear ih hwt hs hA hat
    go_enter Try.func52, Try.ntmps52
    go_wp2_with fail
    go_loopw [11] (fun t wr => ∃ (q : Ln) (i : Nat), i + q.len = p.len ∧ t = .int .i64 (i : Nat) ∧ q.wt ≤ p.wt ∧ LnAt w q B (o + i * 7) ∧ Hid (lnF n q = lnF n p) ∧ Kept w wr) (fun t _ => p.len - (intOf t).toNat)
    case atStart => exact ⟨p, 0, by omega, rfl, Nat.le_refl _, by simpa using HAT.out, Lib.hid rfl, Kept.refl _⟩
    case round =>
      obtain ⟨q, i, hiq, rfl, hqw, hat, HG, hkw⟩ := hrel
      cases q with
      | nil =>
        have hip : i = p.len := hiq
        subst hip
        have HG2 := Lib.hid (show lnF n p = 0 from HG.out.symm)
        have HKW := Lib.hid hkw
        clear hat hkw hiq hqw
        go_wp2_with fail
        go_ret
        exact ⟨by rw [HG2.out]; rfl, HKW.out⟩
      | cons k t a b v bA bc body eA ec els rest =>
        have hil : i + (rest.len + 1) = p.len := hiq
        have hlt : i < p.len := by omega
        have HLT := Lib.hid hlt
        have hA2 := HA.out (by omega)
        subst hA2
        have hw2 : body.wt + els.wt + rest.wt + 1 ≤ p.wt := hqw
        have hwf := HWT.out
        obtain ⟨⟨c0, c1, c2, c3, c4, c5, c6⟩, hb, he, lb, le, hr⟩ := hat.kept hkw
        have HREST := Lib.hid (show LnAt w rest B (o + (i + 1) * 7) by
          obtain ⟨_, _, _, _, _, hr⟩ := hat
          rw [show o + (i + 1) * 7 = o + i * 7 + 7 by omega]
          exact hr)
        have HRW := Lib.hid (show rest.wt ≤ p.wt by omega)
        have HRL := Lib.hid (show i + 1 + rest.len = p.len by omega)
        have HWB := Lib.hid (show body.wt < f by omega)
        have HWE := Lib.hid (show els.wt < f by omega)
        have bx := Box.new wr (lnV k t a b v bA bc body.len eA ec els.len) 104 wr.heap.size rfl
        have ka : Kept wr (wr.alloc (.cells (lnV k t a b v bA bc body.len eA ec els.len) 104)) := (Kept.refl _).alloc _
        have x0 := bx.at_ 0 (u := .int .i64 k) rfl
        have x1 := bx.at_ 1 (u := .int .i64 t) rfl
        have x2 := bx.at_ 2 (u := .int .i64 a) rfl
        have x3 := bx.at_ 3 (u := .int .i64 b) rfl
        have x5 := bx.at_ 5 (u := .slice bA body.len bc) rfl
        have x6 := bx.at_ 6 (u := .slice eA els.len ec) rfl
        have BX := Lib.hid bx
        have HB2 := Lib.hid (show SlLn (wr.alloc (.cells (lnV k t a b v bA bc body.len eA ec els.len) 104)) bA body from SlLn.kept ⟨lb, hb⟩ ka)
        have HE2 := Lib.hid (show SlLn (wr.alloc (.cells (lnV k t a b v bA bc body.len eA ec els.len) 104)) eA els from SlLn.kept ⟨le, he⟩ ka)
        have HKA := Lib.hid (hkw.trans ka)
        unfold lnV at x0 x1 x2 x3 x5 x6 BX HB2 HE2 HKA
        clear bx hat hkw hiq hqw hil hlt hw2 hwf hb he lb le hr ka HA
        by_cases hk : k < 1 ∨ 3 < k
        · have HR := Lib.hid (show lnF n p = 6 by rw [← HG.out]; unfold lnF; rw [if_pos hk])
          have e1 : (k != 1) = true := by rw [bne_iff_ne]; omega
          have e2 : (k != 2) = true := by rw [bne_iff_ne]; omega
          have e3 : (k != 3) = true := by rw [bne_iff_ne]; omega
          clear hk
          go_wp2_with fail
          go_ret
          exact ⟨by rw [HR.out]; rfl, HKA.out⟩
        · have HNF := Lib.hid (show lnF n p = if argB n k t a b = true then 2 else if lnF n body ≠ 0 then lnF n body else if lnF n els ≠ 0 then lnF n els else lnF n rest by rw [← HG.out]; show (if _ then _ else _) = _; rw [if_neg hk])
          have hkk : (((k != 1) = false ∧ (k == 1) = true)) ∨ ((k != 1) = true ∧ (k == 1) = false ∧ (k != 2) = false) ∨ ((k != 1) = true ∧ (k == 1) = false ∧ (k != 2) = true ∧ (k != 3) = false) := by
            simp only [bne_eq_false_iff_eq, bne_iff_ne, beq_iff_eq, beq_eq_false_iff_ne, ne_eq]
            omega
          have HAB := Lib.hid (show argB n k t a b = if k = 1 then !vB n t || ((a != -1) && !vB n a) || ((b != -1) && !vB n b) else !vB n a from rfl)
          have HN1 := Lib.hid hn1
          clear hk
          cases hbad : argB n k t a b with
          | true =>
            have HR := Lib.hid (show lnF n p = 2 by rw [HNF.out, if_pos hbad])
            rw [HAB.out] at hbad
            rcases hkk with ⟨e1, e2⟩ | ⟨e1, e2, e3⟩ | ⟨e1, e2, e3, e4⟩
            · rw [if_pos (by simpa using e2)] at hbad
              have hta := tests_a n a
              have htt := tests_of HN1.out hbad
              clear hbad
              rcases hta with g1 | ⟨g1, g2⟩ | ⟨g1, g2⟩
              all_goals
                rcases htt with f1 | ⟨f1, f2⟩ | ⟨f1, f2, f3⟩ | ⟨f1, f2, f3, f4⟩ | ⟨f1, f2, f3, f4, f5⟩ | ⟨f1, f2, f3, f4, f5, f6⟩
                all_goals
                  first
                  | (exfalso; simp only [decide_eq_true_eq, decide_eq_false_iff_not] at *; omega)
                  | (go_wp2_with fail
                     go_ret
                     exact ⟨by rw [HR.out]; rfl, HKA.out⟩)
            all_goals
              rw [if_neg (by simpa using e2)] at hbad
              have hba := vB_no.1 (show vB n a = false by simpa using hbad)
              have hta : decide (a < 0) = true ∨ (decide (a < 0) = false ∧ decide (n ≤ a) = true) := by
                simp only [decide_eq_true_eq, decide_eq_false_iff_not]
                omega
              clear hbad hba
              rcases hta with g1 | ⟨g1, g2⟩
              all_goals
                go_wp2_with fail
                go_ret
                exact ⟨by rw [HR.out]; rfl, HKA.out⟩
          | false =>
            have HV2 := Lib.hid (show lnF n p = if lnF n body ≠ 0 then lnF n body else if lnF n els ≠ 0 then lnF n els else lnF n rest by rw [HNF.out, if_neg (by rw [hbad]; simp)])
            have hcases : ((k != 1) = false ∧ (k == 1) = true ∧ (decide (a < 0) = true ∨ decide (a < 0) = false) ∧ decide (t < 0) = false ∧ decide (n ≤ t) = false ∧ decide (a < -1) = false ∧ decide (n ≤ a) = false ∧ decide (b < -1) = false ∧ decide (n ≤ b) = false) ∨
                ((k != 1) = true ∧ (k == 1) = false ∧ ((k != 2) = false ∨ ((k != 2) = true ∧ (k != 3) = false)) ∧ decide (a < 0) = false ∧ decide (n ≤ a) = false) := by
              rw [HAB.out] at hbad
              rcases hkk with ⟨e1, e2⟩ | ⟨e1, e2, e3⟩ | ⟨e1, e2, e3, e4⟩
              · rw [if_pos (by simpa using e2)] at hbad
                refine .inl ⟨e1, e2, ?_, tests_ok HN1.out hbad⟩
                cases decide (a < 0) <;> simp
              all_goals
                rw [if_neg (by simpa using e2)] at hbad
                have hba := vB_iff.1 (show vB n a = true by simpa using hbad)
                refine .inr ⟨e1, e2, ?_, by rw [decide_eq_false_iff_not]; omega, by rw [decide_eq_false_iff_not]; omega⟩
                first | exact .inl e3 | exact .inr ⟨e3, e4⟩
            clear hbad hkk
            have HC1 := Lib.hid (HIH.out body bA bc _ HWB.out HB2.out)
            have HVB := Lib.hid (fun (h : lnF n body ≠ 0) => show lnF n p = lnF n body by rw [HV2.out, if_pos h])
            have HVE := Lib.hid (fun (h : ¬ lnF n body ≠ 0) (h2 : lnF n els ≠ 0) => show lnF n p = lnF n els by rw [HV2.out, if_neg h, if_pos h2])
            have HVR := Lib.hid (fun (h : ¬ lnF n body ≠ 0) (h2 : ¬ lnF n els ≠ 0) => show lnF n rest = lnF n p by rw [HV2.out, if_neg h, if_neg h2])
            have HCE := Lib.hid (fun w5 (k5 : Kept _ w5) => HIH.out els eA ec w5 HWE.out (HE2.out.kept k5))
            generalize lnF n body = e1 at HC1 HVB HVE HVR
            generalize lnF n els = e2 at HVE HVR HCE
            clear HV2 HNF HAB HN1
            rcases hcases with ⟨dk, dk1, ha | ha, f1, f2, f3, f4, f5, f6⟩ | ⟨dk, dk1, dk2 | ⟨dk2, dk3⟩, ha, ha2⟩
            all_goals
              by_cases he1 : e1 = 0
              · subst he1
                go_wp2_with fail
                refine HC1.out.mono ?_
                rintro e w5 ⟨rfl, k5⟩
                have x6 := (BX.out.kept k5).at_ 6 (u := .slice eA els.len ec) rfl
                have HC2 := Lib.hid (HCE.out w5 k5)
                have HK5 := Lib.hid (HKA.out.trans k5)
                clear k5
                by_cases he2 : e2 = 0
                · subst he2
                  have HGN := Lib.hid (HVR.out (by simp) (by simp))
                  go_wp2_with fail
                  refine HC2.out.mono ?_
                  rintro e w6 ⟨rfl, k6⟩
                  have HK6 := Lib.hid (HK5.out.trans k6)
                  clear k6
                  go_wp2_with fail
                  go_roundw
                  case rel => exact ⟨rest, i + 1, HRL.out, by go_num, HRW.out, HREST.out, HGN, HK6.out⟩
                  case measure => have := HLT.out; simp [intOf]; omega
                · have hne : (e2 != 0) = true := by rw [bne_iff_ne]; exact he2
                  have HR := Lib.hid (HVE.out (by simp) he2)
                  clear he2
                  go_wp2_with fail
                  refine HC2.out.mono ?_
                  rintro e w6 ⟨rfl, k6⟩
                  have HK6 := Lib.hid (HK5.out.trans k6)
                  clear k6
                  go_wp2_with fail
                  go_ret
                  exact ⟨by rw [HR.out]; rfl, HK6.out⟩
              · have hne : (e1 != 0) = true := by rw [bne_iff_ne]; exact he1
                have hnb : (e1 == 0) = false := by rw [beq_eq_false_iff_ne]; exact he1
                have HR := Lib.hid (HVB.out he1)
                clear he1
                go_wp2_with fail
                refine HC1.out.mono ?_
                rintro e w5 ⟨rfl, k5⟩
                have HK5 := Lib.hid (HKA.out.trans k5)
                clear k5
                go_wp2_with fail
                go_ret
                exact ⟨by rw [HR.out]; rfl, HK5.out⟩
end Go.Proofs.Ytnnddjanbfamkaa
