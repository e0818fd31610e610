/- LatticeLaws: the walk of the statement. -/
import Derived.Test.YtgcpomdlajoifaaLat5
import Derived.Test.YtgcpomdlajoifaaOrder
namespace Go.Proofs.Ytgcpomdlajoifaa.latticeLawsDone
open Go Go.RowKit
set_option linter.unusedVariables false

section
variable {n x y : Nat} {ps : List Pr} {A : Option Addr} {len c : Nat} {w : World}
theorem j_bad (n : Int) (x y : Int) (hp : SlP w A len ps) (h : (ordF n ps != 0) = true) :
    Calls Try.prog 32 #[.int .i64 n, .slice A len c, .int .i64 x, .int .i64 y] w fun e w' => e = .returned (.tuple #[.int .i64 0, .int .i64 (ordF n ps)]) ∧ Kept w w' :=
  (latJoin_any n A len c ps x y w hp).mono fun e w' ⟨k, he⟩ => ⟨by rw [he, latR_bad h], k⟩
theorem m_bad (n : Int) (x y : Int) (hp : SlP w A len ps) (h : (ordF n ps != 0) = true) :
    Calls Try.prog 33 #[.int .i64 n, .slice A len c, .int .i64 x, .int .i64 y] w fun e w' => e = .returned (.tuple #[.int .i64 0, .int .i64 (ordF n ps)]) ∧ Kept w w' :=
  (latMeet_any n A len c ps x y w hp).mono fun e w' ⟨k, he⟩ => ⟨by rw [he, latR_bad h], k⟩
theorem j_out (n : Int) (x y : Int) (hp : SlP w A len ps) (h : ordF n ps = 0) (h2 : x < 0 ∨ y < 0 ∨ n ≤ x ∨ n ≤ y) :
    Calls Try.prog 32 #[.int .i64 n, .slice A len c, .int .i64 x, .int .i64 y] w fun e w' => e = .returned (.tuple #[.int .i64 0, .int .i64 4]) ∧ Kept w w' :=
  (latJoin_any n A len c ps x y w hp).mono fun e w' ⟨k, he⟩ => ⟨by rw [he, latR_range h h2], k⟩
theorem m_out (n : Int) (x y : Int) (hp : SlP w A len ps) (h : ordF n ps = 0) (h2 : x < 0 ∨ y < 0 ∨ n ≤ x ∨ n ≤ y) :
    Calls Try.prog 33 #[.int .i64 n, .slice A len c, .int .i64 x, .int .i64 y] w fun e w' => e = .returned (.tuple #[.int .i64 0, .int .i64 4]) ∧ Kept w w' :=
  (latMeet_any n A len c ps x y w hp).mono fun e w' ⟨k, he⟩ => ⟨by rw [he, latR_range h h2], k⟩
theorem j_none (hp : SlP w A len ps) (h : ordF n ps = 0) (hx : x < n) (hy : y < n) (e : joinO n ps x y = none) :
    Calls Try.prog 32 #[.int .i64 n, .slice A len c, .int .i64 x, .int .i64 y] w fun e w' => e = .returned (.tuple #[.int .i64 0, .int .i64 5]) ∧ Kept w w' :=
  (latJoin_any n A len c ps x y w hp).mono fun e' w' ⟨k, he⟩ => ⟨by rw [he, Int.toNat_natCast, latR_none h hx hy (by unfold joinI; rw [e]; decide)], k⟩
theorem m_none (hp : SlP w A len ps) (h : ordF n ps = 0) (hx : x < n) (hy : y < n) (e : meetO n ps x y = none) :
    Calls Try.prog 33 #[.int .i64 n, .slice A len c, .int .i64 x, .int .i64 y] w fun e w' => e = .returned (.tuple #[.int .i64 0, .int .i64 5]) ∧ Kept w w' :=
  (latMeet_any n A len c ps x y w hp).mono fun e' w' ⟨k, he⟩ => ⟨by rw [he, Int.toNat_natCast, latR_none h hx hy (by unfold meetI; rw [e]; decide)], k⟩
theorem j_some {j : Nat} (hp : SlP w A len ps) (h : ordF n ps = 0) (hx : x < n) (hy : y < n) (e : joinO n ps x y = some j) :
    Calls Try.prog 32 #[.int .i64 n, .slice A len c, .int .i64 x, .int .i64 y] w fun e w' => e = .returned (.tuple #[.int .i64 j, .int .i64 0]) ∧ Kept w w' :=
  (latJoin_any n A len c ps x y w hp).mono fun e' w' ⟨k, he⟩ => ⟨by
    have e2 : joinI n ps x y = (j : Int) := by unfold joinI; rw [e]; rfl
    rw [he, Int.toNat_natCast, latR_some h hx hy (by rw [e2]; omega), e2], k⟩
theorem m_some {j : Nat} (hp : SlP w A len ps) (h : ordF n ps = 0) (hx : x < n) (hy : y < n) (e : meetO n ps x y = some j) :
    Calls Try.prog 33 #[.int .i64 n, .slice A len c, .int .i64 x, .int .i64 y] w fun e w' => e = .returned (.tuple #[.int .i64 j, .int .i64 0]) ∧ Kept w w' :=
  (latMeet_any n A len c ps x y w hp).mono fun e' w' ⟨k, he⟩ => ⟨by
    have e2 : meetI n ps x y = (j : Int) := by unfold meetI; rw [e]; rfl
    rw [he, Int.toNat_natCast, latR_some h hx hy (by rw [e2]; omega), e2], k⟩
end
set_option maxHeartbeats 2000000 in
theorem good (n x y : Nat) (A : Option Addr) (len cp : Nat) (ps : List Pr) (w : World) (hp : SlP w A len ps) (h : ordF n ps = 0) (hx : x < n) (hy : y < n) :
    Calls Try.prog 10 #[.int .i64 n, .slice A len cp, .int .i64 x, .int .i64 y] w fun e w' => e = .returned (.bool true) ∧ Kept w w' := by
  have H0 := Lib.hid h
  have HO := Lib.hid (Ord.of h)
  have HX := Lib.hid hx
  have HY := Lib.hid hy
  have HCOM := Lib.hid (joinO_comm (n := n) (ps := ps) y x)
  have HSELF := Lib.hid ((Ord.of h).self hx)
  clear h
  have g1 : decide ((x : Int) < 0) = false := by simp
  have g2 : decide ((y : Int) < 0) = false := by simp
  have g3 : decide ((n : Int) ≤ (x : Int)) = false := by simp; omega
  have g4 : decide ((n : Int) ≤ (y : Int)) = false := by simp; omega
  have g3' : decide (n ≤ x) = false := by simp; omega
  have g4' : decide (n ≤ y) = false := by simp; omega
  have gx : ((x : Int) != (x : Int)) = false := by simp
  have gx2 : ((x : Int) == (x : Int)) = true := by simp
  clear hx hy
  cases hj : joinO n ps x y with
  | none =>
    have HJ := Lib.hid hj
    clear hj
    cases hm : meetO n ps x y with
    | none =>
      have HM := Lib.hid hm
      clear hm
      go_enter Try.func10, Try.ntmps10
      go_wp2_with fail
      refine (j_none hp H0.out HX.out HY.out HJ.out).mono ?_
      rintro e w1 ⟨rfl, k1⟩
      go_wp2_with fail
      refine (m_none (hp.kept k1) H0.out HX.out HY.out HM.out).mono ?_
      rintro e w2 ⟨rfl, k2⟩
      have q2 := k1.trans k2
      clear k1 k2
      go_wp2_with fail
      refine (ordered_any n _ _ _ ps _ (hp.kept q2)).mono ?_
      rintro e w3 ⟨rfl, k3⟩
      rw [H0.out]
      have q3 := q2.trans k3
      clear q2 k3
      go_wp2_with fail
      refine (j_some (hp.kept q3) H0.out HX.out HX.out HSELF.out).mono ?_
      rintro e w4 ⟨rfl, k4⟩
      have q4 := q3.trans k4
      clear q3 k4
      go_wp2_with fail
      refine (j_none (hp.kept q4) H0.out HY.out HX.out (HCOM.out.trans HJ.out)).mono ?_
      rintro e w5 ⟨rfl, k5⟩
      have q5 := q4.trans k5
      clear q4 k5
      go_wp2_with fail
      go_ret
      exact ⟨rfl, q5⟩
    | some m =>
      have HM := Lib.hid hm
      clear hm
      go_enter Try.func10, Try.ntmps10
      go_wp2_with fail
      refine (j_none hp H0.out HX.out HY.out HJ.out).mono ?_
      rintro e w1 ⟨rfl, k1⟩
      go_wp2_with fail
      refine (m_some (hp.kept k1) H0.out HX.out HY.out HM.out).mono ?_
      rintro e w2 ⟨rfl, k2⟩
      have q2 := k1.trans k2
      clear k1 k2
      go_wp2_with fail
      refine (ordered_any n _ _ _ ps _ (hp.kept q2)).mono ?_
      rintro e w3 ⟨rfl, k3⟩
      rw [H0.out]
      have q3 := q2.trans k3
      clear q2 k3
      go_wp2_with fail
      refine (j_some (hp.kept q3) H0.out HX.out HX.out HSELF.out).mono ?_
      rintro e w4 ⟨rfl, k4⟩
      have q4 := q3.trans k4
      clear q3 k4
      go_wp2_with fail
      refine (j_none (hp.kept q4) H0.out HY.out HX.out (HCOM.out.trans HJ.out)).mono ?_
      rintro e w5 ⟨rfl, k5⟩
      have q5 := q4.trans k5
      clear q4 k5
      go_wp2_with fail
      go_ret
      exact ⟨rfl, q5⟩
  | some j =>
    have HJ := Lib.hid hj
    have HJL := Lib.hid (((HO.out.join HX.out HY.out hj)).1)
    have gj : ((j : Int) != (j : Int)) = false := by simp
    have HABS2 := Lib.hid (HO.out.absorb_meet HX.out HY.out hj)
    clear hj
    cases hm : meetO n ps x y with
    | none =>
      have HM := Lib.hid hm
      clear hm
      go_enter Try.func10, Try.ntmps10
      go_wp2_with fail
      refine (j_some hp H0.out HX.out HY.out HJ.out).mono ?_
      rintro e w1 ⟨rfl, k1⟩
      go_wp2_with fail
      refine (m_none (hp.kept k1) H0.out HX.out HY.out HM.out).mono ?_
      rintro e w2 ⟨rfl, k2⟩
      have q2 := k1.trans k2
      clear k1 k2
      go_wp2_with fail
      refine (ordered_any n _ _ _ ps _ (hp.kept q2)).mono ?_
      rintro e w3 ⟨rfl, k3⟩
      rw [H0.out]
      have q3 := q2.trans k3
      clear q2 k3
      go_wp2_with fail
      refine (j_some (hp.kept q3) H0.out HX.out HX.out HSELF.out).mono ?_
      rintro e w4 ⟨rfl, k4⟩
      have q4 := q3.trans k4
      clear q3 k4
      go_wp2_with fail
      refine (j_some (hp.kept q4) H0.out HY.out HX.out (HCOM.out.trans HJ.out)).mono ?_
      rintro e w5 ⟨rfl, k5⟩
      have q5 := q4.trans k5
      clear q4 k5
      go_wp2_with fail
      go_ret
      exact ⟨rfl, q5⟩
    | some m =>
      have HM := Lib.hid hm
      have HML := Lib.hid (((HO.out.meet HX.out HY.out hm)).1)
      have HABS := Lib.hid (HO.out.absorb_join HX.out HY.out hm)
      clear hm
      go_enter Try.func10, Try.ntmps10
      go_wp2_with fail
      refine (j_some hp H0.out HX.out HY.out HJ.out).mono ?_
      rintro e w1 ⟨rfl, k1⟩
      go_wp2_with fail
      refine (m_some (hp.kept k1) H0.out HX.out HY.out HM.out).mono ?_
      rintro e w2 ⟨rfl, k2⟩
      have q2 := k1.trans k2
      clear k1 k2
      go_wp2_with fail
      refine (ordered_any n _ _ _ ps _ (hp.kept q2)).mono ?_
      rintro e w3 ⟨rfl, k3⟩
      rw [H0.out]
      have q3 := q2.trans k3
      clear q2 k3
      go_wp2_with fail
      refine (j_some (hp.kept q3) H0.out HX.out HX.out HSELF.out).mono ?_
      rintro e w4 ⟨rfl, k4⟩
      have q4 := q3.trans k4
      clear q3 k4
      go_wp2_with fail
      refine (j_some (hp.kept q4) H0.out HY.out HX.out (HCOM.out.trans HJ.out)).mono ?_
      rintro e w5 ⟨rfl, k5⟩
      have q5 := q4.trans k5
      clear q4 k5
      go_wp2_with fail
      refine (j_some (hp.kept q5) H0.out HX.out HML.out HABS.out).mono ?_
      rintro e w6 ⟨rfl, k6⟩
      have q6 := q5.trans k6
      clear q5 k6
      go_wp2_with fail
      refine (m_some (hp.kept q6) H0.out HX.out HJL.out HABS2.out).mono ?_
      rintro e w7 ⟨rfl, k7⟩
      have q7 := q6.trans k7
      clear q6 k7
      go_wp2_with fail
      go_ret
      exact ⟨rfl, q7⟩
set_option maxHeartbeats 1000000 in
theorem out_ (n x y : Int) (A : Option Addr) (len cp : Nat) (ps : List Pr) (w : World) (hp : SlP w A len ps) (h : ordF n ps = 0) (h2 : x < 0 ∨ y < 0 ∨ n ≤ x ∨ n ≤ y) :
    Calls Try.prog 10 #[.int .i64 n, .slice A len cp, .int .i64 x, .int .i64 y] w fun e w' => e = .returned (.bool true) ∧ Kept w w' := by
  have H0 := Lib.hid h
  have H2 := Lib.hid h2
  have HC := Lib.hid (show (decide (x < 0) = true) ∨ (decide (x < 0) = false ∧ decide (y < 0) = true) ∨ (decide (x < 0) = false ∧ decide (y < 0) = false ∧ decide (n ≤ x) = true) ∨ (decide (x < 0) = false ∧ decide (y < 0) = false ∧ decide (n ≤ x) = false ∧ decide (n ≤ y) = true) by
    simp only [decide_eq_true_eq, decide_eq_false_iff_not]
    omega)
  clear h h2
  go_enter Try.func10, Try.ntmps10
  go_wp2_with fail
  refine (j_out n x y hp H0.out H2.out).mono ?_
  rintro e w1 ⟨rfl, k1⟩
  go_wp2_with fail
  refine (m_out n x y (hp.kept k1) H0.out H2.out).mono ?_
  rintro e w2 ⟨rfl, k2⟩
  have q2 := k1.trans k2
  clear k1 k2
  go_wp2_with fail
  refine (ordered_any n _ _ _ ps _ (hp.kept q2)).mono ?_
  rintro e w3 ⟨rfl, k3⟩
  rw [H0.out]
  have q3 := q2.trans k3
  clear q2 k3
  rcases HC.out with c1 | ⟨c1, c2⟩ | ⟨c1, c2, c3⟩ | ⟨c1, c2, c3, c4⟩
  all_goals
    clear HC
    go_wp2_with fail
    go_ret
    exact ⟨rfl, q3⟩
theorem latticeLaws_walk (n : Int) (A : Option Addr) (len cp : Nat) (ps : List Pr) (x y : Int) (w : World) (_wn : (Lit.int .i64 n).wf = true) (hl : len ≤ maxLen) (hp : SlP w A len ps) (_wx : (Lit.int .i64 x).wf = true) (_wy : (Lit.int .i64 y).wf = true) :
    Calls Try.prog 10 #[.int .i64 n, .slice A len cp, .int .i64 x, .int .i64 y] w fun e w' => e = .returned (.bool true) ∧ Kept w w' := by
  by_cases h : ordF n ps = 0
  · by_cases h2 : x < 0 ∨ y < 0 ∨ n ≤ x ∨ n ≤ y
    · exact out_ n x y A len cp ps w hp h h2
    · obtain ⟨nn, rfl⟩ := Int.eq_ofNat_of_zero_le (show 0 ≤ n by have := (ordF_zero h).1.1; omega)
      obtain ⟨a, rfl⟩ := Int.eq_ofNat_of_zero_le (show 0 ≤ x by omega)
      obtain ⟨b, rfl⟩ := Int.eq_ofNat_of_zero_le (show 0 ≤ y by omega)
      exact good nn a b A len cp ps w hp h (by omega) (by omega)
  · have hne : (ordF n ps != 0) = true := by simpa using h
    have hnz : (ordF n ps == 0) = false := by simpa using h
    clear h
    go_enter Try.func10, Try.ntmps10
    go_wp2_with fail
    refine (j_bad n x y hp hne).mono ?_
    rintro e w1 ⟨rfl, k1⟩
    go_wp2_with fail
    refine (m_bad n x y (hp.kept k1) hne).mono ?_
    rintro e w2 ⟨rfl, k2⟩
    have q2 := k1.trans k2
    clear k1 k2
    go_wp2_with fail
    refine (ordered_any n _ _ _ ps _ (hp.kept q2)).mono ?_
    rintro e w3 ⟨rfl, k3⟩
    go_wp2_with fail
    go_ret
    exact ⟨rfl, q2.trans k3⟩
end Go.Proofs.Ytgcpomdlajoifaa.latticeLawsDone
