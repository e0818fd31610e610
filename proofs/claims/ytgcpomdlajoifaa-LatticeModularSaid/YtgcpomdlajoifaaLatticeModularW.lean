/- LatticeModular: the walk of the statement. -/
import Derived.Test.YtgcpomdlajoifaaLat6
import Derived.Test.YtgcpomdlajoifaaOrder
import Derived.Test.YtgcpomdlajoifaaTurned
namespace Go.Proofs.Ytgcpomdlajoifaa.latticeModularDone
open Go Go.RowKit
set_option linter.unusedVariables false

section
variable {ps : List Pr} {A : Option Addr} {len c : Nat} {w : World}
theorem s_is (n : Int) (b : Bool) (x : Int) (hp : SlP w A len ps) (h : allR n ps true = (b, x)) :
    Calls Try.prog 34 #[.int .i64 n, .slice A len c] w fun e w' => e = .returned (.tuple #[.bool b, .int .i64 x]) ∧ Kept w w' :=
  (shared_any n A len c ps w hp).mono fun e w' ⟨k, he⟩ => ⟨by rw [he, h], k⟩
theorem m_is (n : Int) (b : Bool) (x : Int) (hp : SlP w A len ps) (h : allR n ps false = (b, x)) :
    Calls Try.prog 35 #[.int .i64 n, .slice A len c] w fun e w' => e = .returned (.tuple #[.bool b, .int .i64 x]) ∧ Kept w w' :=
  (modular_any n A len c ps w hp).mono fun e w' ⟨k, he⟩ => ⟨by rw [he, h], k⟩
theorem i_is (n : Int) (b : Bool) (x : Int) (hp : SlP w A len ps) (h : isR n ps = (b, x)) :
    Calls Try.prog 36 #[.int .i64 n, .slice A len c] w fun e w' => e = .returned (.tuple #[.bool b, .int .i64 x]) ∧ Kept w w' :=
  (latIs_any n A len c ps w hp).mono fun e w' ⟨k, he⟩ => ⟨by rw [he, h], k⟩
end
set_option maxHeartbeats 2000000 in
theorem yes (n : Nat) (A : Option Addr) (len cp : Nat) (ps : List Pr) (w : World) (hp : SlP w A len ps) (h : ordF n ps = 0) (hL : isL n ps = true) :
    Calls Try.prog 11 #[.int .i64 n, .slice A len cp] w fun e w' => e = .returned (.bool true) ∧ Kept w w' := by
  have H0 := Lib.hid h
  have hl20 : len ≤ 1000 := by have := (ordF_zero h).1.2.2; rw [hp.2] at this; omega
  have hT := turn_ord h
  have hLT : isL n (turnP ps) = true := by rw [isL_turn]; exact hL
  have LAT := Lat.of (Ord.of h) hL
  obtain ⟨s, hs⟩ : ∃ s, allL n ps true = s := ⟨_, rfl⟩
  obtain ⟨m, hm⟩ : ∃ m, allL n ps false = m := ⟨_, rfl⟩
  have E1 := Lib.hid (show allR n ps true = (s, 0) by rw [allR_yes h hL, hs])
  have E2 := Lib.hid (show allR n ps false = (m, 0) by rw [allR_yes h hL, hm])
  have E3 := Lib.hid (show isR n ps = (true, 0) by rw [isR_ok h, hL])
  have E4 := Lib.hid (show allR n (turnP ps) true = (s, 0) by rw [allR_yes hT hLT, shared_eq LAT, hs])
  have E5 := Lib.hid (show allR n (turnP ps) false = (m, 0) by rw [allR_yes hT hLT, modular_eq LAT, hm])
  have HSM : s = false ∨ m = true := by
    cases s
    · exact .inl rfl
    · exact .inr (by rw [← hm]; exact shared_modular hs)
  clear h hT hLT LAT hs hm hL
  go_enter Try.func11, Try.ntmps11
  go_wp2_with fail
  refine (s_is n _ _ hp E1.out).mono ?_
  rintro e w1 ⟨rfl, k1⟩
  go_wp2_with fail
  refine (m_is n _ _ (hp.kept k1) E2.out).mono ?_
  rintro e w2 ⟨rfl, k2⟩
  have q2 := k1.trans k2
  clear k1 k2
  go_wp2_with fail
  refine (i_is n _ _ (hp.kept q2) E3.out).mono ?_
  rintro e w3 ⟨rfl, k3⟩
  have q3 := q2.trans k3
  clear q2 k3
  go_wp2_with fail
  refine (ordered_any n _ _ _ ps _ (hp.kept q3)).mono ?_
  rintro e w4 ⟨rfl, k4⟩
  rw [H0.out]
  have q4 := q3.trans k4
  clear q3 k4
  go_wp2_with fail
  refine (turned_any _ _ _ ps _ (hp.kept q4) hl20).mono ?_
  rintro e w5 ⟨A5, c5, rfl, ht5, k5⟩
  have q5 := q4.trans k5
  clear q4 k5
  go_wp2_with fail
  refine (s_is n _ _ ht5 E4.out).mono ?_
  rintro e w6 ⟨rfl, k6⟩
  have q6 := q5.trans k6
  clear q5 k6
  go_wp2_with fail
  refine (turned_any _ _ _ ps _ (hp.kept q6) hl20).mono ?_
  rintro e w7 ⟨A7, c7, rfl, ht7, k7⟩
  have q7 := q6.trans k7
  clear q6 k7
  go_wp2_with fail
  refine (m_is n _ _ ht7 E5.out).mono ?_
  rintro e w8 ⟨rfl, k8⟩
  have q8 := q7.trans k8
  clear q7 k8 E1 E2 E4 E5
  cases s <;> cases m
  case true.false => rcases HSM with h | h <;> cases h
  all_goals
    clear HSM
    go_wp2_with fail
    go_ret
    exact ⟨rfl, q8⟩
set_option maxHeartbeats 1000000 in
theorem no (n : Nat) (A : Option Addr) (len cp : Nat) (ps : List Pr) (w : World) (hp : SlP w A len ps) (h : ordF n ps = 0) (hL : isL n ps = false) :
    Calls Try.prog 11 #[.int .i64 n, .slice A len cp] w fun e w' => e = .returned (.bool true) ∧ Kept w w' := by
  have H0 := Lib.hid h
  have E1 := Lib.hid (show allR n ps true = (false, 3) from allR_no h hL)
  have E2 := Lib.hid (show allR n ps false = (false, 3) from allR_no h hL)
  have E3 := Lib.hid (show isR n ps = (false, 0) by rw [isR_ok h, hL])
  clear h hL
  go_enter Try.func11, Try.ntmps11
  go_wp2_with fail
  refine (s_is n _ _ hp E1.out).mono ?_
  rintro e w1 ⟨rfl, k1⟩
  go_wp2_with fail
  refine (m_is n _ _ (hp.kept k1) E2.out).mono ?_
  rintro e w2 ⟨rfl, k2⟩
  have q2 := k1.trans k2
  clear k1 k2
  go_wp2_with fail
  refine (i_is n _ _ (hp.kept q2) E3.out).mono ?_
  rintro e w3 ⟨rfl, k3⟩
  have q3 := q2.trans k3
  clear q2 k3
  go_wp2_with fail
  refine (ordered_any n _ _ _ ps _ (hp.kept q3)).mono ?_
  rintro e w4 ⟨rfl, k4⟩
  rw [H0.out]
  go_wp2_with fail
  go_ret
  exact ⟨rfl, q3.trans k4⟩
theorem latticeModular_walk (n : Int) (A : Option Addr) (len cp : Nat) (ps : List Pr) (w : World) (_wn : (Lit.int .i64 n).wf = true) (hl : len ≤ maxLen) (hp : SlP w A len ps) :
    Calls Try.prog 11 #[.int .i64 n, .slice A len cp] w fun e w' => e = .returned (.bool true) ∧ Kept w w' := by
  by_cases h : ordF n ps = 0
  · obtain ⟨nn, rfl⟩ := Int.eq_ofNat_of_zero_le (show 0 ≤ n by have := (ordF_zero h).1.1; omega)
    cases hL : isL nn ps
    · exact no nn A len cp ps w hp h hL
    · exact yes nn A len cp ps w hp h hL
  · have hne : (ordF n ps != 0) = true := by simpa using h
    have hnz : (ordF n ps == 0) = false := by simpa using h
    have E1 := Lib.hid (allR_bad (b := true) hne)
    have E2 := Lib.hid (allR_bad (b := false) hne)
    have E3 := Lib.hid (isR_bad hne)
    clear h
    go_enter Try.func11, Try.ntmps11
    go_wp2_with fail
    refine (s_is n _ _ hp E1.out).mono ?_
    rintro e w1 ⟨rfl, k1⟩
    go_wp2_with fail
    refine (m_is n _ _ (hp.kept k1) E2.out).mono ?_
    rintro e w2 ⟨rfl, k2⟩
    have q2 := k1.trans k2
    clear k1 k2
    go_wp2_with fail
    refine (i_is n _ _ (hp.kept q2) E3.out).mono ?_
    rintro e w3 ⟨rfl, k3⟩
    have q3 := q2.trans k3
    clear q2 k3
    go_wp2_with fail
    refine (ordered_any n _ _ _ ps _ (hp.kept q3)).mono ?_
    rintro e w4 ⟨rfl, k4⟩
    go_wp2_with fail
    go_ret
    exact ⟨rfl, q3.trans k4⟩
end Go.Proofs.Ytgcpomdlajoifaa.latticeModularDone
