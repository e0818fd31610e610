/- TwoSolve: the walk of the statement. -/
import Derived.Test.YtekpifobhgjepaaTwoSolve1
namespace Go.Proofs.Ytekpifobhgjepaa.twoSolveDone
open Go Go.RowKit
set_option linter.unusedVariables false

theorem solve_pair {n : Int} {rs : List Ru} {w : World} {e : Ending} {w' : World} (h : RetSolve n rs w e w') : ∃ a b : Int, e = .returned (.tuple #[.int .u32 a, .int .i64 b]) ∧ Kept w w' := by
  rcases h with ⟨_, h2, k⟩ | ⟨v, ok, _, h2, _, k⟩
  · exact ⟨_, _, h2, k⟩
  · exact ⟨_, _, h2, k⟩
theorem bad (n : Int) (A : Option Addr) (len c : Nat) (rs : List Ru) (w : World) (hl : len ≤ maxLen) (hs : SlR w A len rs) (h : twoF n rs ≠ 0) :
    Calls Try.prog 7 #[.int .i64 n, .slice A len c] w fun e w' => e = .returned (.bool true) ∧ Kept w w' := by
  have hl63 : len ≤ 9223372036854775807 := hl
  have h0 : (twoF n rs != 0) = true := by simpa using h
  have HH := Lib.hid h
  have HL := Lib.hid hl63
  clear h hl hl63
  go_enter Try.func7, Try.ntmps7
  go_wp2_with fail
  refine (twoSolve_any n A len c rs _ hs).mono ?_
  rintro e w1 ⟨k1, ⟨hz, _⟩ | ⟨hz, _⟩ | ⟨_, rfl⟩⟩
  · exact absurd hz HH.out
  · exact absurd hz HH.out
  go_wp2_with fail
  refine (stuck2_any n A len c rs _ (hs.kept k1)).mono ?_
  rintro e w2 ⟨k2, ⟨hz, _⟩ | ⟨_, rfl⟩⟩
  · exact absurd hz HH.out
  have q2 := k1.trans k2
  go_wp2_with fail
  refine (solve_any n A len c rs _ (hs.kept q2)).mono ?_
  intro e w3 h3
  obtain ⟨a, b, rfl, k3⟩ := solve_pair h3
  have q3 := q2.trans k3
  clear h3
  go_wp2_with fail
  refine (twoCheck_any n A len c rs _ (hs.kept q3) HL.out).mono ?_
  rintro e w4 ⟨rfl, k4⟩
  go_wp2_with fail
  go_ret
  exact ⟨rfl, q3.trans k4⟩
theorem good (n : Int) (A : Option Addr) (len c : Nat) (rs : List Ru) (w : World) (hl : len ≤ maxLen) (hs : SlR w A len rs) (h : twoF n rs = 0) :
    Calls Try.prog 7 #[.int .i64 n, .slice A len c] w fun e w' => e = .returned (.bool true) ∧ Kept w w' := by
  have hl63 : len ≤ 9223372036854775807 := hl
  obtain ⟨nn, rfl, h1, h6, ht⟩ := twoF_zero h
  have hsat : satF nn rs = 0 := by
    unfold twoF at h
    split at h
    · rename_i h2; exact absurd h h2
    · rename_i h2; simpa using h2
  have HH := Lib.hid h
  have HL := Lib.hid hl63
  have HT := Lib.hid ht
  have HSAT := Lib.hid hsat
  clear h hl hl63 ht hsat
  go_enter Try.func7, Try.ntmps7
  go_wp2_with fail
  refine (twoSolve_any nn A len c rs _ hs).mono ?_
  rintro e w1 ⟨k1, ⟨_, hz, rfl⟩ | ⟨_, hz, rfl⟩ | ⟨hz, _⟩⟩
  case inr.inr => rw [HH.out] at hz; cases hz
  all_goals
    rw [Int.toNat_natCast] at hz
    try rw [Int.toNat_natCast]
    have HZ := Lib.hid hz
    go_wp2_with fail
    refine (stuck2_any nn A len c rs _ (hs.kept k1)).mono ?_
    rintro e w2 ⟨k2, ⟨_, rfl⟩ | ⟨hz2, _⟩⟩
    case inr => rw [HH.out] at hz2; cases hz2
    rw [Int.toNat_natCast]
    have q2 := k1.trans k2
    clear hz
    obtain ⟨z, hz⟩ : ∃ z, stuckW nn (toW nn rs) nn = z := ⟨_, rfl⟩
    rw [hz] at HZ ⊢
    have HZ2 := Lib.hid hz
    clear hz
    go_wp2_with fail
    refine (solve_any nn A len c rs _ (hs.kept q2)).mono ?_
    rintro e w3 (⟨hz, _⟩ | ⟨v, ok, _, rfl, hr, k3⟩)
    · exact absurd HSAT.out hz
    rw [Int.toNat_natCast] at hr
    obtain ⟨r1, r2⟩ := two_says HT.out hr
    rw [HZ2.out] at r1 r2
    clear hr
    have q3 := q2.trans k3
  · have z0 := HZ.out
    subst z0
    obtain rfl : ok = true := by rw [r1]; rfl
    rw [if_pos rfl] at r2
    subst r2
    clear r1
    generalize soW nn rs nn &&& (1#32 <<< nn - 1#32) = s
    go_wp2_with fail
    refine (twoCheck_any nn A len c rs _ (hs.kept q3) HL.out).mono ?_
    rintro e w4 ⟨rfl, k4⟩
    rw [HH.out]
    go_wp2_with fail
    go_ret
    exact ⟨by simp, q3.trans k4⟩
  · have z0 : (z == 0#32) = false := by simpa using HZ.out
    rw [z0] at r1
    rw [if_neg HZ.out] at r2
    subst r1 r2
    go_wp2_with fail
    refine (twoCheck_any nn A len c rs _ (hs.kept q3) HL.out).mono ?_
    rintro e w4 ⟨rfl, k4⟩
    rw [HH.out]
    go_wp2_with fail
    go_ret
    exact ⟨by simp; rfl, q3.trans k4⟩
theorem twoSolve_walk (n : Int) (A : Option Addr) (len c : Nat) (rs : List Ru) (w : World) (_wn : (Lit.int .i64 n).wf = true) (hl : len ≤ maxLen) (hs : SlR w A len rs) :
    Calls Try.prog 7 #[.int .i64 n, .slice A len c] w fun e w' => e = .returned (.bool true) ∧ Below w.heap.size w w' := by
  suffices h : Calls Try.prog 7 #[.int .i64 n, .slice A len c] w fun e w' => e = .returned (.bool true) ∧ Kept w w' from h.mono fun e w' ⟨h1, h2⟩ => ⟨h1, h2.below⟩
  by_cases h0 : twoF n rs = 0
  · exact good n A len c rs w hl hs h0
  · exact bad n A len c rs w hl hs h0
end Go.Proofs.Ytekpifobhgjepaa.twoSolveDone
