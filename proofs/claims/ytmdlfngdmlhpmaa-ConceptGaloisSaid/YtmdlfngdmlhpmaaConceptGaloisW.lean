/- ConceptGalois: the walk of the statement. -/
import Derived.Test.YtmdlfngdmlhpmaaConcept3
namespace Go.Proofs.Ytmdlfngdmlhpmaa.conceptGaloisDone
open Go Go.RowKit
set_option linter.unusedVariables false

theorem parts {n : Int} {rows : List (BitVec 32)} {objects marks : BitVec 32} : tabF n rows objects [marks] = 0 ↔ tabF n rows objects [] = 0 ∧ tabF n rows 0#32 [marks] = 0 := by
  constructor
  · intro h
    obtain ⟨h1, h2, h3, h4, h5, h6⟩ := tabF_zero h
    exact ⟨tabF_ok h1 h2 h3 h4 rfl h6, tabF_ok h1 h2 h3 h4 h5 (fitB_zero _)⟩
  · rintro ⟨ha, hb⟩
    obtain ⟨h1, h2, h3, h4, _, h6⟩ := tabF_zero ha
    obtain ⟨_, _, _, _, h5, _⟩ := tabF_zero hb
    exact tabF_ok h1 h2 h3 h4 h5 h6

set_option maxHeartbeats 1000000 in
theorem conceptGalois_walk (n : Int) (A : Option Addr) (len cp : Nat) (rows : List (BitVec 32)) (objects marks : BitVec 32) (w : World) (_wn : (Lit.int .i64 n).wf = true) (hl : len ≤ maxLen) (hr : SlW w A len rows) :
    Calls Try.prog 9 #[.int .i64 n, .slice A len cp, .int .u32 (W objects), .int .u32 (W marks)] w fun e w' => e = .returned (.bool true) ∧ Kept w w' := by
  by_cases hc : tabF n rows objects [marks] = 0
  · obtain ⟨ca, cb⟩ := parts.1 hc
    obtain ⟨h1, h2, h3, h4, h5, h6⟩ := tabF_zero hc
    obtain ⟨n, rfl⟩ := Int.eq_ofNat_of_zero_le (show 0 ≤ n by omega)
    have hn6 : n ≤ 6 := by omega
    have HG := Lib.hid (galois (n := n) (by omega) (rows := rows) (by omega) h6 (by simpa using h5))
    have HN := Lib.hid (upG_none n (by omega) rows)
    have HC := Lib.hid hc
    have HCA := Lib.hid ca
    have HCB := Lib.hid cb
    have HC0 := Lib.hid (show tabF n rows 0#32 [] = 0 from tabF_ok h1 h2 h3 h4 rfl (fitB_zero _))
    clear hc ca cb h1 h2 h3 h4 h5 h6
    go_enter Try.func9, Try.ntmps9
    go_wp2_with fail
    refine (upX_ok n _ _ _ rows _ _ hr HCA.out).mono ?_
    rintro e w1 ⟨rfl, k1⟩
    go_wp2_with fail
    refine (downX_ok n _ _ _ rows _ _ (hr.kept k1) HCB.out).mono ?_
    rintro e w2 ⟨rfl, k2⟩
    have q2 := k1.trans k2
    clear k1 k2
    go_wp2_with fail
    refine (tabled_any _ _ _ _ rows _ _ _ (hr.kept q2)).mono ?_
    rintro e w3 ⟨rfl, rfl⟩
    rw [HC.out]
    go_wp2_with fail
    refine (upX_ok n _ _ _ rows 0#32 _ (hr.kept q2) HC0.out).mono ?_
    rintro e w4 ⟨rfl, k4⟩
    rw [HN.out]
    have q4 := q2.trans k4
    clear q2 k4
    generalize upG n rows objects = u at HG
    generalize downG rows marks = d at HG
    cases hx : subB objects d
    · have hy : subB marks u = false := HG.out.symm.trans hx
      go_wp2_with (go_at_call 14; refine (conIn_any _ _ _).mono ?_; rintro e w' ⟨rfl, rfl⟩)
      go_ret
      exact ⟨rfl, q4⟩
    · have hy : subB marks u = true := HG.out.symm.trans hx
      go_wp2_with (go_at_call 14; refine (conIn_any _ _ _).mono ?_; rintro e w' ⟨rfl, rfl⟩)
      go_ret
      exact ⟨rfl, q4⟩
  · have hnz : (tabF n rows objects [marks] == 0) = false := by simpa using hc
    by_cases ha : tabF n rows objects [] = 0
    · have hb : (tabF n rows 0#32 [marks] != 0) = true := by
        rw [bne_iff_ne]
        exact fun h => hc (parts.2 ⟨ha, h⟩)
      obtain ⟨n, rfl⟩ := Int.eq_ofNat_of_zero_le (show 0 ≤ n by have := tabF_zero ha; omega)
      have HA := Lib.hid ha
      clear hc ha
      go_enter Try.func9, Try.ntmps9
      go_wp2_with fail
      refine (upX_ok n _ _ _ rows _ _ hr HA.out).mono ?_
      rintro e w1 ⟨rfl, k1⟩
      go_wp2_with fail
      refine (downX_no _ _ _ _ rows _ _ (hr.kept k1) hb).mono ?_
      rintro e w2 ⟨rfl, k2⟩
      have q2 := k1.trans k2
      go_wp2_with fail
      refine (tabled_any _ _ _ _ rows _ _ _ (hr.kept q2)).mono ?_
      rintro e w3 ⟨rfl, rfl⟩
      go_wp2_with fail
      go_ret
      exact ⟨rfl, q2⟩
    · have ha' : (tabF n rows objects [] != 0) = true := by simpa using ha
      by_cases hb : tabF n rows 0#32 [marks] = 0
      · obtain ⟨n, rfl⟩ := Int.eq_ofNat_of_zero_le (show 0 ≤ n by have := tabF_zero hb; omega)
        have HB := Lib.hid hb
        clear hc ha hb
        go_enter Try.func9, Try.ntmps9
        go_wp2_with fail
        refine (upX_no n _ _ _ rows _ _ hr ha').mono ?_
        rintro e w1 ⟨rfl, k1⟩
        go_wp2_with fail
        refine (downX_ok _ _ _ _ rows _ _ (hr.kept k1) HB.out).mono ?_
        rintro e w2 ⟨rfl, k2⟩
        have q2 := k1.trans k2
        go_wp2_with fail
        refine (tabled_any _ _ _ _ rows _ _ _ (hr.kept q2)).mono ?_
        rintro e w3 ⟨rfl, rfl⟩
        go_wp2_with fail
        go_ret
        exact ⟨rfl, q2⟩
      · have hb' : (tabF n rows 0#32 [marks] != 0) = true := by simpa using hb
        clear hc ha hb
        go_enter Try.func9, Try.ntmps9
        go_wp2_with fail
        refine (upX_no n _ _ _ rows _ _ hr ha').mono ?_
        rintro e w1 ⟨rfl, k1⟩
        go_wp2_with fail
        refine (downX_no _ _ _ _ rows _ _ (hr.kept k1) hb').mono ?_
        rintro e w2 ⟨rfl, k2⟩
        have q2 := k1.trans k2
        go_wp2_with fail
        refine (tabled_any _ _ _ _ rows _ _ _ (hr.kept q2)).mono ?_
        rintro e w3 ⟨rfl, rfl⟩
        go_wp2_with fail
        go_ret
        exact ⟨rfl, q2⟩
end Go.Proofs.Ytmdlfngdmlhpmaa.conceptGaloisDone
