/- Labels the other way up: lists and functions. -/
import Derived.Test.YtnnddjanbfamkaaLow1
namespace Go.Proofs.Ytnnddjanbfamkaa
open Go Go.RowKit
set_option linter.unusedVariables false

section
variable {nc nt : Nat} {c1 c2 t1 t2 : Nat → Lab}
theorem lowDo_congr (hc : ∀ u, u < nc → c1 u = c2 u) (ht : ∀ t, t < nt → t1 t = t2 t) (s : MSt) (d : Dd) : lowDo nc nt c1 t1 s d = lowDo nc nt c2 t2 s d := by
  unfold lowDo
  by_cases h0 : deedF nc nt d = 0
  · have hne : ¬ deedF nc nt d ≠ 0 := by simpa using h0
    simp only [if_neg hne]
    rcases deedF_zero h0 with ⟨h3, u, hu, hun⟩ | ⟨h12, u, t, hu, hun, ht2, htn⟩
    · simp only [if_pos h3, hu, Int.toNat_natCast, hc u hun]
    · have h3 : ¬ d.1 = 3 := by omega
      simp only [if_neg h3, hu, ht2, Int.toNat_natCast, ht t htn]
  · have hne : deedF nc nt d ≠ 0 := by simpa using h0
    simp only [if_pos hne]
theorem markDo_congr (hc : ∀ u, u < nc → c1 u = c2 u) (ht : ∀ t, t < nt → t1 t = t2 t) (s : MSt) (d : Dd) : markDo nc nt c1 t1 s d = markDo nc nt c2 t2 s d := by
  unfold markDo
  by_cases h0 : deedF nc nt d = 0
  · have hne : ¬ deedF nc nt d ≠ 0 := by simpa using h0
    simp only [if_neg hne]
    rcases deedF_zero h0 with ⟨h3, u, hu, hun⟩ | ⟨h12, u, t, hu, hun, ht2, htn⟩
    · simp only [if_pos h3]
    · have h3 : ¬ d.1 = 3 := by omega
      simp only [if_neg h3, hu, ht2, Int.toNat_natCast, ht t htn, hc u hun]
  · have hne : deedF nc nt d ≠ 0 := by simpa using h0
    simp only [if_pos hne]
end
end Go.Proofs.Ytnnddjanbfamkaa
