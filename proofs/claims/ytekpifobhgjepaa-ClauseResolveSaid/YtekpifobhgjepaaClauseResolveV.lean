/- ClauseResolve: the walk of the statement. -/
import Derived.Test.YtekpifobhgjepaaResolve
import Derived.BigRegion
namespace Go.Proofs.Ytekpifobhgjepaa.clauseResolveDone
open Go Go.RowKit
set_option linter.unusedVariables false

theorem solveR {n : Int} {A : Option Addr} {len c : Nat} {rs : List Ru} (w : World) (hs : SlR w A len rs) :
    Calls Try.prog 12 #[.int .i64 n, .slice A len c] w fun e w' => ∃ (T : BitVec 32) (F : Int), (satF n rs ≠ 0 → F ≠ 0) ∧ (satF n rs = 0 → ∃ ok, Res n.toNat rs 0#32 0#32 T ok ∧ F = if ok then 0 else 5) ∧ e = .returned (.tuple #[.int .u32 (W T), .int .i64 F]) ∧ Kept w w' := by
  refine (solve_any n A len c rs w hs).mono ?_
  rintro e w' (⟨h0, he, k⟩ | ⟨v, ok, h0, he, hr, k⟩)
  · exact ⟨0#32, _, fun h => h, fun h => absurd h h0, he, k⟩
  · exact ⟨v, _, fun h => absurd h0 h, fun _ => ⟨ok, hr, rfl⟩, he, k⟩
theorem bad (n : Int) (A : Option Addr) (len c : Nat) (rs : List Ru) (i j : Int) (w : World) (hs : SlR w A len rs) (h : satF n rs ≠ 0) :
    Calls Try.prog 3 #[.int .i64 n, .slice A len c, .int .u8 i, .int .u8 j] w fun e w' => e = .returned (.bool true) ∧ Kept w w' := by
  have HH := Lib.hid h
  have h0b : (satF n rs == 0) = false := by simpa using h
  have HS := Lib.hid h0b
  clear h h0b
  go_enter Try.func3, Try.ntmps3
  go_wp2_with fail
  refine (solveR w hs).mono ?_
  rintro e w1 ⟨T, F, hF, _, rfl, k1⟩
  have hFb : (F != 0) = true := by simpa using hF HH.out
  clear hF
  go_wp2_with fail
  refine (sat_any n A len c rs _ (hs.kept k1)).mono ?_
  rintro e w2 ⟨rfl, k2⟩
  rw [HS.out]
  go_wp2_with fail
  go_ret
  exact ⟨rfl, k1.trans k2⟩
end Go.Proofs.Ytekpifobhgjepaa.clauseResolveDone
