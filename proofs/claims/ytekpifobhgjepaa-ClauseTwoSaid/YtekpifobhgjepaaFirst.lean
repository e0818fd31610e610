/- The first place at which a test says yes. -/
import Derived.Test.YtekpifobhgjepaaSl
namespace Go.Proofs.Ytekpifobhgjepaa
open Go Go.RowKit

/-- the first at which a test says yes, as an integer; -1: none -/
def firstI {α : Type} (p : α → Bool) (xs : List α) : Int := match xs.findIdx? p with
  | some k => k
  | none => -1
theorem firstI_ge {α : Type} (p : α → Bool) (xs : List α) : decide (0 ≤ firstI p xs) = xs.any p := by
  unfold firstI
  cases h : xs.findIdx? p with
  | none =>
    have := List.findIdx?_eq_none_iff.1 h
    rw [Bool.eq_iff_iff]
    simp
    intro x hx
    simpa using this x hx
  | some k =>
    rw [List.findIdx?_eq_some_iff_getElem] at h
    obtain ⟨hk, h1, _⟩ := h
    have : xs.any p = true := List.any_eq_true.2 ⟨xs[k], List.getElem_mem hk, h1⟩
    rw [this]
    simp
theorem firstI_hit {α : Type} (p : α → Bool) (xs : List α) (k : Nat) (hk : k < xs.length) (h0 : (xs.take k).any p = false) (h1 : p xs[k] = true) : firstI p xs = k := by
  unfold firstI
  have : xs.findIdx? p = some k := by
    rw [List.findIdx?_eq_some_iff_getElem]
    refine ⟨hk, h1, fun j hj => ?_⟩
    rw [List.any_eq_false] at h0
    exact h0 _ (List.mem_take_iff_getElem.2 ⟨j, by omega, rfl⟩)
  rw [this]
theorem firstI_none {α : Type} (p : α → Bool) (xs : List α) (h0 : xs.any p = false) : firstI p xs = -1 := by
  unfold firstI
  have : xs.findIdx? p = none := by
    rw [List.findIdx?_eq_none_iff]
    intro x hx
    rw [List.any_eq_false] at h0
    simpa using h0 x hx
  rw [this]
end Go.Proofs.Ytekpifobhgjepaa
