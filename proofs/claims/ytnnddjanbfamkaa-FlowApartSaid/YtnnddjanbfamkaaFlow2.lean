/- The walk of the reference's Lines. -/
import Derived.Test.YtnnddjanbfamkaaFlow1
namespace Go.Proofs.Ytnnddjanbfamkaa
open Go Go.RowKit
set_option linter.unusedVariables false

def lsN (p : Ln) (deep : Nat) : Int × Nat := if p.len = 0 then (0, deep - 1) else sz p deep
theorem lsN_zero {p : Ln} {deep : Nat} (h : p.len = 0) : lsN p deep = (0, deep - 1) := by unfold lsN; rw [if_pos h]
theorem lsN_pos {p : Ln} {deep : Nat} (h : p.len ≠ 0) : lsN p deep = sz p deep := by unfold lsN; rw [if_neg h]
theorem wrap_twice (x : Int) : wrap64 (wrap64 x) = wrap64 x := by unfold wrap64; omega
theorem wrap_zero {x : Int} (h : wrap64 x = x) : wrap64 (x + 0) = x := by rw [Int.add_zero]; exact h
theorem szA_ls {q : Ln} {deep : Nat} {md : Int × Nat} (h1 : wrap64 md.1 = md.1) (h2 : deep ≤ md.2) : szA q.len (sz q (deep + 1)) md = (wrap64 (md.1 + (lsN q (deep + 1)).1), max md.2 (lsN q (deep + 1)).2) := by
  by_cases h : q.len = 0
  · rw [szA_no (by omega), lsN_zero h]
    show md = (wrap64 (md.1 + 0), max md.2 (deep + 1 - 1))
    rw [wrap_zero h1, Nat.add_sub_cancel, Nat.max_eq_left h2]
  · rw [szA_yes (by omega), lsN_pos h]
theorem mdP_ls {body els : Ln} {deep : Nat} {md : Int × Nat} (h1 : wrap64 md.1 = md.1) (h2 : deep ≤ md.2) :
    mdP deep body els md 2 = (wrap64 (wrap64 (md.1 + (lsN body (deep + 1)).1) + (lsN els (deep + 1)).1), max (max md.2 (lsN body (deep + 1)).2) (lsN els (deep + 1)).2) := by
  show szA els.len (sz els (deep + 1)) (szA body.len (sz body (deep + 1)) md) = _
  rw [szA_ls h1 h2, szA_ls (wrap_twice _) (Nat.le_trans h2 (Nat.le_max_left _ _))]
theorem wrap_len {n : Nat} (h : n ≤ maxLen) : wrap64 (n : Int) = (n : Int) := by
  unfold maxLen at h
  unfold wrap64
  omega
set_option maxRecDepth 100000 in
set_option maxHeartbeats 8000000 in
theorem linesR_any : ∀ (f : Nat) (p : Ln) (A : Option Addr) (c deep : Nat) (dv : Int) (w : World), p.wt < f → dv = (deep : Int) → 1 ≤ deep → deep ≤ 5 → SlLn w A p →
    Calls Try.prog 51 #[.slice A p.len c, .int .i64 dv] w fun e w' => e = .returned (.tuple #[.int .i64 (lsN p deep).1, .int .i64 ((lsN p deep).2 : Nat)]) ∧ Kept w w' := by
  intro f
  induction f with
  | zero => intro p A c deep dv w h; omega
  | succ f ih =>
    intro p A c deep dv w hwt hdv hd1 hd5 hs
    subst hdv
    have HIH := Lib.hid ih
    have HWT := Lib.hid hwt
    have HML := Lib.hid hs.1
    clear ih hwt
    by_cases hz : p.len = 0
    · have HB := Lib.hid (show lsN p deep = (0, deep - 1) from lsN_zero hz)
      rw [HB.out, hz]
      have hsub : ((deep - 1 : Nat) : Int) = (deep : Int) - 1 := by omega
      have HSUB := Lib.hid hsub
      clear hs hz hsub
      go_enter Try.func51, Try.ntmps51
      go_wp2_with fail
      go_ret2
      exact ⟨by show Ending.returned (.tuple #[.int .i64 0, .int .i64 ((deep : Int) - 1)]) = _; rw [← HSUB.out], Kept.refl _⟩
    · have e0 : (p.len == 0) = false := by rw [beq_eq_false_iff_ne]; exact hz
      have e0' : ((p.len : Int) == 0) = false := by rw [beq_eq_false_iff_ne]; omega
      have HLS := Lib.hid (lsN_pos (deep := deep) hz)
      rw [HLS.out]
      by_cases hbig : 12 < p.len ∨ 4 < deep
      · have HB := Lib.hid (sz_big hbig)
        rw [HB.out]
        clear hs hz
        by_cases h1 : 4 < deep
        · have e1 : decide (4 < (deep : Int)) = true := by rw [decide_eq_true_eq]; omega
          clear hbig h1
          go_enter Try.func51, Try.ntmps51
          go_wp2_with fail
          go_ret2
          exact ⟨rfl, Kept.refl _⟩
        · have e1 : decide (4 < (deep : Int)) = false := by rw [decide_eq_false_iff_not]; omega
          have e2 : decide (12 < (p.len : Int)) = true := by rw [decide_eq_true_eq]; omega
          clear hbig h1
          go_enter Try.func51, Try.ntmps51
          go_wp2_with fail
          go_ret2
          exact ⟨rfl, Kept.refl _⟩
      · have HB := Lib.hid (sz_small hbig)
        have e1 : decide (12 < (p.len : Int)) = false := by rw [decide_eq_false_iff_not]; omega
        have e2 : decide (4 < (deep : Int)) = false := by rw [decide_eq_false_iff_not]; omega
        have hp12 : p.len ≤ 12 := by omega
        have hd4 : deep ≤ 4 := by omega
        rw [HB.out]
        obtain ⟨B, o, hA, hat⟩ := hs.open_
        have HA := Lib.hid hA
        have HAT := Lib.hid hat
        clear hbig hs hA hat hz
        go_enter Try.func51, Try.ntmps51
        go_wp2_with fail
        clear e1 e2 e0 e0'
        go_loopw [6, 7, 32] (fun mv dv t wr => ∃ (q : Ln) (i : Nat) (md : Int × Nat), i + q.len = p.len ∧ t = .int .i64 (i : Nat) ∧ mv = .int .i64 md.1 ∧ dv = .int .i64 (md.2 : Nat) ∧ q.wt ≤ p.wt ∧ LnAt w q B (o + i * 7) ∧ Hid (szG q deep md = szG p deep ((p.len : Int), deep) ∧ wrap64 md.1 = md.1 ∧ deep ≤ md.2) ∧ Kept w wr) (fun _ _ t _ => p.len - (intOf t).toNat)
        case atStart => exact ⟨p, 0, ((p.len : Int), deep), by omega, rfl, rfl, rfl, Nat.le_refl _, by simpa using HAT.out, Lib.hid ⟨rfl, wrap_len HML.out, Nat.le_refl _⟩, Kept.refl _⟩
        case round =>
          obtain ⟨q, i, md, hiq, rfl, rfl, rfl, hqw, hat, HG, hkw⟩ := hrel
          cases q with
          | nil =>
            have hip : i = p.len := hiq
            subst hip
            have HG2 := Lib.hid (show szG p deep ((p.len : Int), deep) = md from HG.out.1.symm)
            have HKW := Lib.hid hkw
            clear hat hkw hiq hqw
            go_wp2_with fail
            go_ret2
            exact ⟨by rw [HG2.out]; rfl, HKW.out⟩
          | cons k t a b v bA bc body eA ec els rest =>
            have hil : i + (rest.len + 1) = p.len := hiq
            have hlt : i < p.len := by omega
            have HLT := Lib.hid hlt
            have hA2 := HA.out (by omega)
            subst hA2
            have hw2 : body.wt + els.wt + rest.wt + 1 ≤ p.wt := hqw
            have hwf := HWT.out
            obtain ⟨⟨c0, c1, c2, c3, c4, c5, c6⟩, hb, he, lb, le, hr⟩ := hat.kept hkw
            have HREST := Lib.hid (show LnAt w rest B (o + (i + 1) * 7) by
              obtain ⟨_, _, _, _, _, hr⟩ := hat
              rw [show o + (i + 1) * 7 = o + i * 7 + 7 by omega]
              exact hr)
            have HRW := Lib.hid (show rest.wt ≤ p.wt by omega)
            have HRL := Lib.hid (show i + 1 + rest.len = p.len by omega)
            have HG3 := Lib.hid (show szG rest deep (mdP deep body els md 2) = szG p deep ((p.len : Int), deep) from HG.out.1)
            have HMD := Lib.hid (mdP_ls (body := body) (els := els) HG.out.2.1 HG.out.2.2)
            have HDM := Lib.hid HG.out.2.2
            have HKW := Lib.hid hkw
            have bx := Box.new wr (lnV k t a b v bA bc body.len eA ec els.len) 104 wr.heap.size rfl
            have ka : Kept wr (wr.alloc (.cells (lnV k t a b v bA bc body.len eA ec els.len) 104)) := (Kept.refl _).alloc _
            have x5 := bx.at_ 5 (u := .slice bA body.len bc) rfl
            have BX := Lib.hid bx
            have HBODY := Lib.hid (show SlLn (wr.alloc (.cells (lnV k t a b v bA bc body.len eA ec els.len) 104)) bA body from SlLn.kept ⟨lb, hb⟩ ka)
            have HELS := Lib.hid (show SlLn (wr.alloc (.cells (lnV k t a b v bA bc body.len eA ec els.len) 104)) eA els from SlLn.kept ⟨le, he⟩ ka)
            have KA := Lib.hid ka
            unfold lnV at x5 BX KA HBODY HELS
            have C1 := Lib.hid (HIH.out body bA bc (deep + 1) ((deep : Int) + 1) _ (by omega) (by omega) (by omega) (by omega) HBODY.out)
            have HWE := Lib.hid (show els.wt < f by omega)
            clear bx hat hkw hiq hqw hil hlt hw2 hwf hb he lb le hr ka HA
            generalize lsN body (deep + 1) = s at C1 HMD
            obtain ⟨s1, s2⟩ := s
            simp only at C1 HMD
            go_wp2_with fail
            refine C1.out.mono ?_
            rintro e w5 ⟨rfl, k5⟩
            have x6 := (BX.out.kept k5).at_ 6 (u := .slice eA els.len ec) rfl
            have C2 := Lib.hid (HIH.out els eA ec (deep + 1) ((deep : Int) + 1) w5 HWE.out (by omega) (by omega) (by omega) (HELS.out.kept k5))
            have HK5 := Lib.hid (KA.out.trans k5)
            generalize lsN els (deep + 1) = s' at C2 HMD
            obtain ⟨s3, s4⟩ := s'
            simp only at C2 HMD
            obtain ⟨m1, m2⟩ := md
            simp only at HMD HDM
            clear k5 x5 c0 c1 c2 c3 c4 c5 c6
            go_wp2_with fail
            refine C2.out.mono ?_
            rintro e w6 ⟨rfl, k6⟩
            have HK6 := Lib.hid ((HKW.out.trans HK5.out).trans k6)
            clear k6 x6
            have HNEW := Lib.hid (show ∀ M : Nat, M = max (max m2 s2) s4 → szG rest deep (wrap64 (wrap64 (m1 + s1) + s3), M) = szG p deep ((p.len : Int), deep) ∧ wrap64 (wrap64 (wrap64 (m1 + s1) + s3)) = wrap64 (wrap64 (m1 + s1) + s3) ∧ deep ≤ M from fun M hM => by
              subst hM
              refine ⟨?_, wrap_twice _, Nat.le_trans HDM.out (Nat.le_trans (Nat.le_max_left _ _) (Nat.le_max_left _ _))⟩
              rw [← HMD.out]
              exact HG3.out)
            by_cases q1 : m2 < s2
            · have g1 : decide (m2 < s2) = true := by rw [decide_eq_true_eq]; exact q1
              by_cases q2 : s2 < s4
              · have g2 : decide (s2 < s4) = true := by rw [decide_eq_true_eq]; exact q2
                have HN := Lib.hid (HNEW.out s4 (by omega))
                clear q1 q2
                go_wp2_with fail
                go_roundw
                case rel => exact ⟨rest, i + 1, (wrap64 (wrap64 (m1 + s1) + s3), s4), HRL.out, by go_num, rfl, rfl, HRW.out, HREST.out, HN, HK6.out⟩
                case measure => have := HLT.out; simp [intOf]; omega
              · have g2 : decide (s2 < s4) = false := by rw [decide_eq_false_iff_not]; exact q2
                have HN := Lib.hid (HNEW.out s2 (by omega))
                clear q1 q2
                go_wp2_with fail
                go_roundw
                case rel => exact ⟨rest, i + 1, (wrap64 (wrap64 (m1 + s1) + s3), s2), HRL.out, by go_num, rfl, rfl, HRW.out, HREST.out, HN, HK6.out⟩
                case measure => have := HLT.out; simp [intOf]; omega
            · have g1 : decide (m2 < s2) = false := by rw [decide_eq_false_iff_not]; exact q1
              by_cases q2 : m2 < s4
              · have g2 : decide (m2 < s4) = true := by rw [decide_eq_true_eq]; exact q2
                have HN := Lib.hid (HNEW.out s4 (by omega))
                clear q1 q2
                go_wp2_with fail
                go_roundw
                case rel => exact ⟨rest, i + 1, (wrap64 (wrap64 (m1 + s1) + s3), s4), HRL.out, by go_num, rfl, rfl, HRW.out, HREST.out, HN, HK6.out⟩
                case measure => have := HLT.out; simp [intOf]; omega
              · have g2 : decide (m2 < s4) = false := by rw [decide_eq_false_iff_not]; exact q2
                have HN := Lib.hid (HNEW.out m2 (by omega))
                clear q1 q2
                go_wp2_with fail
                go_roundw
                case rel => exact ⟨rest, i + 1, (wrap64 (wrap64 (m1 + s1) + s3), m2), HRL.out, by go_num, rfl, rfl, HRW.out, HREST.out, HN, HK6.out⟩
                case measure => have := HLT.out; simp [intOf]; omega
end Go.Proofs.Ytnnddjanbfamkaa
