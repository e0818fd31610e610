/- FollowArmstrong: the walk of the statement. -/
import Derived.Test.YtmdlfngdmlhpmaaFollow4
namespace Go.Proofs.Ytmdlfngdmlhpmaa.followArmstrongDone
open Go Go.RowKit

theorem ways (rs : List Ru) (a b c : BitVec 32) : doesF rs (a, b) = false ∨ (doesF rs (a, b) = true ∧ doesF rs (a ||| c, b ||| c) = true ∧ (doesF rs (b, c) = false ∨ (doesF rs (b, c) = true ∧ doesF rs (a, c) = true))) := by
  cases hx : doesF rs (a, b)
  · exact .inl rfl
  · refine .inr ⟨rfl, ?_, ?_⟩
    · unfold doesF at hx ⊢
      rw [subB_or]
      rw [subB_trans hx (closeF_mono rs (subB_or_left a c)), subB_trans (subB_or_right a c) (closeF_spec rs (a ||| c)).1]
      rfl
    · cases hy : doesF rs (b, c)
      · exact .inl rfl
      · refine .inr ⟨rfl, ?_⟩
        unfold doesF at hx hy ⊢
        exact subB_trans hy ((closeF_spec rs b).2.2 _ hx (closeF_spec rs a).2.1)
theorem own_yes (rs : List Ru) (a b : BitVec 32) : doesF rs (a ||| b, a) = true := subB_trans (subB_or_left a b) (closeF_spec rs (a ||| b)).1
theorem fits {n : Int} {rs : List Ru} {a b c : BitVec 32} (h : checkF n rs [a ||| b ||| c] = 0) : ∀ x y : BitVec 32, subB x (a ||| b ||| c) = true → subB y (a ||| b ||| c) = true → checkF n rs [x, y] = 0 := by
  intro x y hx hy
  obtain ⟨h1, h2, h3, h4, h5⟩ := checkF_zero h
  have hf : fitB n.toNat (a ||| b ||| c) = true := by simpa using h5
  refine checkF_ok h1 h2 h3 h4 ?_
  simp [fitB_sub hx hf, fitB_sub hy hf]
theorem nofit {n : Int} {rs : List Ru} {x : BitVec 32} (h : checkF n rs [x] ≠ 0) : checkF n rs [x, x] ≠ 0 := by
  intro h2
  apply h
  obtain ⟨h1, h3, h4, h5, h6⟩ := checkF_zero h2
  exact checkF_ok h1 h3 h4 h5 (by simpa using h6)

set_option maxHeartbeats 800000 in
theorem followArmstrong_walk (n : Int) (A : Option Addr) (len cp : Nat) (rs : List Ru) (a b c : BitVec 32) (w : World) (_wn : (Lit.int .i64 n).wf = true) (_hl : len ≤ maxLen) (hr : SlR w A len rs) :
    Calls Try.prog 4 #[.int .i64 n, .slice A len cp, .int .u32 (W a), .int .u32 (W b), .int .u32 (W c)] w fun e w' => e = .returned (.bool true) ∧ Kept w w' := by
  by_cases h0 : checkF n rs [a ||| b ||| c] = 0
  · have sa : subB a (a ||| b ||| c) = true := subB_trans (subB_or_left a b) (subB_or_left _ c)
    have sb : subB b (a ||| b ||| c) = true := subB_trans (subB_or_right a b) (subB_or_left _ c)
    have sc : subB c (a ||| b ||| c) = true := subB_or_right _ c
    have sab : subB (a ||| b) (a ||| b ||| c) = true := subB_or_left _ c
    have sac : subB (a ||| c) (a ||| b ||| c) = true := by rw [subB_or, sa, sc]; rfl
    have sbc : subB (b ||| c) (a ||| b ||| c) = true := by rw [subB_or, sb, sc]; rfl
    have H0 := Lib.hid h0
    have F1 := Lib.hid (fits h0 _ _ sab sa)
    have F2 := Lib.hid (fits h0 _ _ sa sb)
    have F3 := Lib.hid (fits h0 _ _ sb sc)
    have F4 := Lib.hid (fits h0 _ _ sa sc)
    have F5 := Lib.hid (fits h0 _ _ sac sbc)
    have HO := Lib.hid (own_yes rs a b)
    have HW := Lib.hid (ways rs a b c)
    clear h0 sa sb sc sab sac sbc
    go_enter Try.func4, Try.ntmps4
    go_wp2_with fail
    refine (ruled_any _ _ _ _ rs _ _ hr).mono ?_
    rintro e w1 ⟨rfl, k1⟩
    rw [H0.out]
    go_wp2_with fail
    refine (does_ok _ _ _ _ rs _ _ _ (hr.kept k1) F1.out).mono ?_
    rintro e w2 ⟨rfl, k2⟩
    rw [HO.out]
    have q2 := k1.trans k2
    clear k1 k2
    go_wp2_with fail
    refine (does_ok _ _ _ _ rs _ _ _ (hr.kept q2) F2.out).mono ?_
    rintro e w3 ⟨rfl, k3⟩
    have q3 := q2.trans k3
    clear q2 k3
    go_wp2_with fail
    refine (does_ok _ _ _ _ rs _ _ _ (hr.kept q3) F3.out).mono ?_
    rintro e w4 ⟨rfl, k4⟩
    have q4 := q3.trans k4
    clear q3 k4
    go_wp2_with fail
    refine (does_ok _ _ _ _ rs _ _ _ (hr.kept q4) F4.out).mono ?_
    rintro e w5 ⟨rfl, k5⟩
    have q5 := q4.trans k5
    clear q4 k5
    go_wp2_with fail
    refine (does_ok _ _ _ _ rs _ _ _ (hr.kept q5) F5.out).mono ?_
    rintro e w6 ⟨rfl, k6⟩
    have q6 := q5.trans k6
    clear q5 k6
    rcases HW.out with h1 | ⟨h1, h2, h3 | ⟨h3, h4⟩⟩
    all_goals
      go_wp2_with fail
      go_ret
      exact ⟨rfl, q6⟩
  · have hne : (checkF n rs [a ||| b ||| c, a ||| b ||| c] != 0) = true := by simpa using nofit h0
    have hnz : (checkF n rs [a ||| b ||| c] == 0) = false := by simpa using h0
    clear h0
    go_enter Try.func4, Try.ntmps4
    go_wp2_with fail
    refine (ruled_any _ _ _ _ rs _ _ hr).mono ?_
    rintro e w1 ⟨rfl, k1⟩
    go_wp2_with fail
    refine (does_no _ _ _ _ rs _ _ _ (hr.kept k1) hne).mono ?_
    rintro e w2 ⟨rfl, k2⟩
    go_wp2_with fail
    go_ret
    exact ⟨rfl, k1.trans k2⟩
end Go.Proofs.Ytmdlfngdmlhpmaa.followArmstrongDone
