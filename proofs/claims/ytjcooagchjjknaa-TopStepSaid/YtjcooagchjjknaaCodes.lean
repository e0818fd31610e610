/- The walk of Codes: two lists of codes that are the same. -/
import Derived.Test.YtjcooagchjjknaaSeat
import Derived.Test.YtjcooagchjjknaaQuiet
namespace Go.Proofs.Ytjcooagchjjknaa
open Go Go.RowKit
set_option linter.unusedVariables false

set_option maxHeartbeats 400000 in
theorem codes_same (A : Option Addr) (n c : Nat) (A2 : Option Addr) (c2 : Nat) (xs : List Int) (w : World) (hx : SlI w A n xs) (hy : SlI w A2 n xs) (hn : n ≤ maxLen) :
    Calls Try.prog 27 #[.slice A n c, .slice A2 n c2] w fun e w' => e = .returned (.bool true) ∧ Kept w w' := by
  unfold maxLen at hn
  have hb : ((n : Int) != (n : Int)) = false := by simp
  go_enter Try.func27, Try.ntmps27
  go_wp2_with fail
  go_loopw [5] (fun t wr => ∃ k : Nat, k ≤ n ∧ t = .int .i64 k ∧ Kept w wr) (fun t _ => n - (intOf t).toNat)
  case atStart => exact ⟨0, Nat.zero_le _, rfl, Kept.refl _⟩
  case round =>
    obtain ⟨k, hk, rfl, hkw⟩ := hrel
    by_cases hlt : k < n
    · obtain ⟨b1, o1, hl1, rfl, _, c1'⟩ := (hx.kept hkw).get k hlt
      obtain ⟨b2, o2, hl2, rfl, _, c2'⟩ := (hy.kept hkw).get k hlt
      have hi1 : (0 : Int) ≤ (k : Int) := by omega
      have hi2 : (k : Int) < (n : Int) := by omega
      generalize xs[k] = x at c1' c2'
      have hbb : (x != x) = false := by simp
      go_wp2_with fail
      go_quiet (fail)
      go_wp2_with fail
      go_roundw
      case rel => exact ⟨k + 1, by omega, by go_num, hkw.drewN nq⟩
      case measure => simp [intOf]; omega
    · go_wp2_with fail
      go_ret
      exact ⟨rfl, hkw⟩
end Go.Proofs.Ytjcooagchjjknaa
