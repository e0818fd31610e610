/- Refute: the contract for every input that is not refused. -/
import Derived.Test.YtekpifobhgjepaaTwR3
namespace Go.Proofs.Ytekpifobhgjepaa
open Go Go.RowKit
set_option linter.unusedVariables false

theorem refute_any (n : Nat) (A : Option Addr) (len c : Nat) (rs : List Ru) (w : World) (hs : SlR w A len rs) (h : satF n rs = 0) :
    Calls Try.prog 19 #[.int .i64 n, .slice A len c] w (RetRf n rs w) := by
  obtain ⟨nn, hn, h1, h6, hl, hok⟩ := satF_zero h
  obtain rfl : n = nn := by omega
  rw [hs.2] at hl
  by_cases hz : ((0#32, 0#32) : Ru) ∈ rs
  · refine (refute_empty n A len c rs w hs h (by omega) hz).mono ?_
    rintro e w' ⟨rfl, k⟩
    exact ⟨k, .inr ⟨none, 0, [], rfl, ⟨Sl.nil_ _ _ _, rfl⟩, .inl ⟨rfl, hz⟩, by simp⟩⟩
  · exact refute_good n A len c rs w hs h h6 hl hok hz
end Go.Proofs.Ytekpifobhgjepaa
