/- ConceptRules: the walk of the statement. -/
import Derived.Test.YtmdlfngdmlhpmaaConcept4
namespace Go.Proofs.Ytmdlfngdmlhpmaa.conceptRulesDone
open Go Go.RowKit
set_option linter.unusedVariables false

theorem down_fit {rows : List (BitVec 32)} (hl : rows.length ≤ 8) (m : BitVec 32) : fitB rows.length (downG rows m) = true :=
  fitB_iff.2 fun i hi => ((downG_bit rows (by omega) m i).1 hi).1

set_option maxHeartbeats 1000000 in
theorem conceptRules_walk (n : Int) (A : Option Addr) (len cp : Nat) (rows : List (BitVec 32)) (r : Ru) (w : World) (_wn : (Lit.int .i64 n).wf = true) (hl : len ≤ maxLen) (hr : SlW w A len rows) (_t : True) :
    Calls Try.prog 10 #[.int .i64 n, .slice A len cp, .agg #[.int .u32 (W r.1), .int .u32 (W r.2)]] w fun e w' => e = .returned (.bool true) ∧ Kept w w' := by
  obtain ⟨r1, r2⟩ := r
  show Calls Try.prog 10 #[.int .i64 n, .slice A len cp, .agg #[.int .u32 (W r1), .int .u32 (W r2)]] w fun e w' => e = .returned (.bool true) ∧ Kept w w'
  by_cases hc : tabF n rows 0#32 [r1 ||| r2] = 0
  · obtain ⟨h1, h2, h3, h4, h5, h6⟩ := tabF_zero hc
    obtain ⟨n, rfl⟩ := Int.eq_ofNat_of_zero_le (show 0 ≤ n by omega)
    rw [Int.toNat_natCast] at h4 h5
    have h5' : fitB n r1 = true ∧ fitB n r2 = true := by simpa [fitB_or] using h5
    have HE := Lib.hid (saysF_eq (n := n) (by omega) (rows := rows) (by omega) (r1 := r1) h5'.2)
    have HC := Lib.hid hc
    have HC1 := Lib.hid (show tabF n rows 0#32 [r1, r2] = 0 from tabF_ok h1 h2 h3 h4 (by simp [h5'.1, h5'.2]) (fitB_zero _))
    have HC2 := Lib.hid (show tabF n rows 0#32 [r1] = 0 from tabF_ok h1 h2 h3 h4 (by simp [h5'.1]) (fitB_zero _))
    have HC3 := Lib.hid (show tabF n rows (downG rows r1) [] = 0 from tabF_ok h1 h2 h3 h4 rfl (down_fit h3 r1))
    clear hc h1 h2 h3 h4 h5 h6 h5'
    go_enter Try.func10, Try.ntmps10
    go_wp2_with fail
    refine (says_ok n _ _ _ rows r1 r2 _ (hr.kept ((Kept.refl w).alloc _)) HC1.out).mono ?_
    rintro e w1 ⟨rfl, k1⟩
    have q1 : Kept w w1 := ((Kept.refl w).alloc _).trans k1
    have hb0 : w.heap.size < w1.heap.size := by have := k1.size; simp at this; omega
    have c0 : w1.cell? ⟨w.heap.size, 0, none⟩ = some (.int .u32 (W r1)) := (k1.cell (p := ⟨w.heap.size, 0, none⟩) (by simp)).trans (by simp)
    have c1 : w1.cell? ⟨w.heap.size, 1, none⟩ = some (.int .u32 (W r2)) := (k1.cell (p := ⟨w.heap.size, 1, none⟩) (by simp)).trans (by simp)
    clear k1
    rw [HE.out]
    go_wp2_with fail
    refine (downX_ok n _ _ _ rows _ _ (hr.kept q1) HC2.out).mono ?_
    rintro e w2 ⟨rfl, k2⟩
    have q2 := q1.trans k2
    have c0' := (k2.cell (p := ⟨w.heap.size, 0, none⟩) hb0).trans c0
    have c1' := (k2.cell (p := ⟨w.heap.size, 1, none⟩) hb0).trans c1
    have hb1 : w.heap.size < w2.heap.size := Nat.lt_of_lt_of_le hb0 k2.size
    clear k2 c0 c1
    go_wp2_with fail
    refine (tabled_any _ _ _ _ rows 0#32 _ _ (hr.kept q2)).mono ?_
    rintro e w3 ⟨rfl, rfl⟩
    rw [HC.out]
    go_wp2_with fail
    refine (upX_ok n _ _ _ rows _ _ (hr.kept q2) HC3.out).mono ?_
    rintro e w4 ⟨rfl, k4⟩
    have q4 := q2.trans k4
    have c0 := (k4.cell (p := ⟨w.heap.size, 0, none⟩) hb1).trans c0'
    have c1 := (k4.cell (p := ⟨w.heap.size, 1, none⟩) hb1).trans c1'
    clear k4 c0' c1'
    cases hx : subB r2 (upG n rows (downG rows r1))
    all_goals
      go_wp2_with (go_at_call 14; refine (conIn_any _ _ _).mono ?_; rintro e w' ⟨rfl, rfl⟩)
      go_ret
      exact ⟨rfl, q4⟩
  · have hnz : (tabF n rows 0#32 [r1 ||| r2] == 0) = false := by simpa using hc
    have hne : (tabF n rows 0#32 [r1, r2] != 0) = true := by
      rw [bne_iff_ne]
      intro h
      obtain ⟨h1, h2, h3, h4, h5, h6⟩ := tabF_zero h
      exact hc (tabF_ok h1 h2 h3 h4 (by simpa [fitB_or] using h5) h6)
    clear hc
    go_enter Try.func10, Try.ntmps10
    go_wp2_with fail
    refine (says_no n _ _ _ rows r1 r2 _ (hr.kept ((Kept.refl w).alloc _)) hne).mono ?_
    rintro e w1 ⟨rfl, k1⟩
    have q1 : Kept w w1 := ((Kept.refl w).alloc _).trans k1
    have hb0 : w.heap.size < w1.heap.size := by have := k1.size; simp at this; omega
    have c0 : w1.cell? ⟨w.heap.size, 0, none⟩ = some (.int .u32 (W r1)) := (k1.cell (p := ⟨w.heap.size, 0, none⟩) (by simp)).trans (by simp)
    have c1 : w1.cell? ⟨w.heap.size, 1, none⟩ = some (.int .u32 (W r2)) := (k1.cell (p := ⟨w.heap.size, 1, none⟩) (by simp)).trans (by simp)
    clear k1
    by_cases hd : tabF n rows 0#32 [r1] = 0
    · obtain ⟨n, rfl⟩ := Int.eq_ofNat_of_zero_le (show 0 ≤ n by have := tabF_zero hd; omega)
      have HD := Lib.hid hd
      clear hd
      go_wp2_with fail
      refine (downX_ok n _ _ _ rows _ _ (hr.kept q1) HD.out).mono ?_
      rintro e w2 ⟨rfl, k2⟩
      have q2 := q1.trans k2
      have c0' := (k2.cell (p := ⟨w.heap.size, 0, none⟩) hb0).trans c0
      have c1' := (k2.cell (p := ⟨w.heap.size, 1, none⟩) hb0).trans c1
      clear k2 c0 c1
      go_wp2_with fail
      refine (tabled_any _ _ _ _ rows 0#32 _ _ (hr.kept q2)).mono ?_
      rintro e w3 ⟨rfl, rfl⟩
      go_wp2_with fail
      go_ret
      exact ⟨rfl, q2⟩
    · have hd' : (tabF n rows 0#32 [r1] != 0) = true := by simpa using hd
      clear hd
      go_wp2_with fail
      refine (downX_no n _ _ _ rows _ _ (hr.kept q1) hd').mono ?_
      rintro e w2 ⟨rfl, k2⟩
      have q2 := q1.trans k2
      have c0' := (k2.cell (p := ⟨w.heap.size, 0, none⟩) hb0).trans c0
      have c1' := (k2.cell (p := ⟨w.heap.size, 1, none⟩) hb0).trans c1
      clear k2 c0 c1
      go_wp2_with fail
      refine (tabled_any _ _ _ _ rows 0#32 _ _ (hr.kept q2)).mono ?_
      rintro e w3 ⟨rfl, rfl⟩
      go_wp2_with fail
      go_ret
      exact ⟨rfl, q2⟩
end Go.Proofs.Ytmdlfngdmlhpmaa.conceptRulesDone
