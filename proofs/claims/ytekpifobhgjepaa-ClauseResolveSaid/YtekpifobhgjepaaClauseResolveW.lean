/- ClauseResolve: the walk of the statement. -/
import Derived.Test.YtekpifobhgjepaaClauseResolveU
namespace Go.Proofs.Ytekpifobhgjepaa.clauseResolveDone
open Go Go.RowKit
set_option linter.unusedVariables false

theorem empty (n : Nat) (A : Option Addr) (c : Nat) (rs : List Ru) (i j : Int) (w : World) (hs : SlR w A 0 rs) (h : satF n rs = 0) :
    Calls Try.prog 3 #[.int .i64 n, .slice A 0 c, .int .u8 i, .int .u8 j] w fun e w' => e = .returned (.bool true) ∧ Kept w w' := by
  have hrs : rs = [] := List.eq_nil_of_length_eq_zero hs.2
  subst hrs
  have HS := Lib.hid (show (satF n [] == 0) = true by simpa using h)
  have HSOL := Lib.hid (solve_val n A 0 c [] w hs h)
  clear h
  go_enter Try.func3, Try.ntmps3
  go_wp2_with fail
  refine HSOL.out.mono ?_
  rintro e w1 ⟨T, ok0, F, rfl, k1, HRES, HFF⟩
  obtain ⟨e1, e2⟩ := empty_res HRES.out
  have hF := HFF.out
  rw [e2] at hF
  simp only [if_true] at hF
  subst hF
  rw [e1]
  clear HRES HFF e1 e2
  go_wp2_with fail
  refine (sat_any n A 0 c [] _ (hs.kept k1)).mono ?_
  rintro e w2 ⟨rfl, k2⟩
  rw [HS.out]
  go_wp2_with fail
  go_ret
  exact ⟨by simp, k1.trans k2⟩
theorem clauseResolve_walk (n : Int) (A : Option Addr) (len c : Nat) (rs : List Ru) (i j : Int) (w : World) (_wn : (Lit.int .i64 n).wf = true) (hl : len ≤ maxLen) (hs : SlR w A len rs) (wi : (Lit.int .u8 i).wf = true) (wj : (Lit.int .u8 j).wf = true) :
    Calls Try.prog 3 #[.int .i64 n, .slice A len c, .int .u8 i, .int .u8 j] w fun e w' => e = .returned (.bool true) ∧ Below w.heap.size w w' := by
  suffices h : Calls Try.prog 3 #[.int .i64 n, .slice A len c, .int .u8 i, .int .u8 j] w fun e w' => e = .returned (.bool true) ∧ Kept w w' from h.mono fun e w' ⟨h1, h2⟩ => ⟨h1, h2.below⟩
  by_cases h0 : satF n rs = 0
  · obtain ⟨nn, rfl, h1, h6, hl16, hok⟩ := satF_zero h0
    rw [hs.2] at hl16
    have hi : 0 ≤ i ∧ i ≤ 255 := by simpa [Lit.wf, IntKind.signed, IntKind.bits, IntKind.min, IntKind.max] using wi
    have hj : 0 ≤ j ∧ j ≤ 255 := by simpa [Lit.wf, IntKind.signed, IntKind.bits, IntKind.min, IntKind.max] using wj
    rcases Nat.eq_zero_or_pos len with hz | hpos
    · subst hz
      exact empty nn A c rs i j w hs h0
    · exact good nn A len c rs i j w hs h0 hi.1 hi.2 hj.1 hj.2 hpos hl16
  · exact bad n A len c rs i j w hs h0
end Go.Proofs.Ytekpifobhgjepaa.clauseResolveDone
