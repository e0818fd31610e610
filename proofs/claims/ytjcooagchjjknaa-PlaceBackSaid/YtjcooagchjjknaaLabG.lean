/- The walks of package label. -/
import Derived.Test.YtjcooagchjjknaaSeat
import Derived.Test.YtjcooagchjjknaaQuiet
import Derived.WalkLawsBesides
import Derived.WalkSpells
namespace Go.Proofs.Ytjcooagchjjknaa
open Go Go.RowKit
set_option linter.unusedVariables false

/-- a label: a level and a set of parts -/
abbrev Lab := Int × BitVec 32
def labOk (a : Lab) : Bool := decide (0 ≤ a.1) && decide (a.1 ≤ 3) && fitB 5 a.2
def labF (a : Lab) : Int := if labOk a then 0 else 4
def bothF (a b : Lab) : Int := if labOk a && labOk b then 0 else 4
theorem labOk_iff {l : Int} {p : BitVec 32} : labOk (l, p) = true ↔ 0 ≤ l ∧ l ≤ 3 ∧ fitB 5 p = true := by
  unfold labOk
  simp [and_assoc]
theorem labF_zero {a : Lab} (h : labOk a = true) : labF a = 0 := by unfold labF; rw [if_pos h]
theorem labF_four {a : Lab} (h : labOk a = false) : labF a = 4 := by unfold labF; rw [h]; rfl
theorem W_ge32 {p : BitVec 32} {b : Bool} (h : fitB 5 p = b) : decide ((32 : Int) ≤ W p) = !b := by
  rw [← h, fitB_lt (by omega)]
  unfold W
  rw [Bool.eq_iff_iff]
  simp [BitVec.lt_def]
  omega
def leB (a b : Lab) : Bool := decide (a.1 ≤ b.1) && subB a.2 b.2
def joinL (a b : Lab) : Lab := (max a.1 b.1, a.2 ||| b.2)
def meetL (a b : Lab) : Lab := (min a.1 b.1, a.2 &&& b.2)

theorem labCheck_any (l : Int) (p : BitVec 32) (w : World) : Calls Try.prog 34 #[.agg #[.int .i64 l, .int .u32 (W p)]] w fun e w' => e = .returned (.int .i64 (labF (l, p))) ∧ Kept w w' := by
  cases hf : fitB 5 p
  · have h32 := W_ge32 hf
    have HF := Lib.hid (show labF (l, p) = 4 from labF_four (by
      cases h : labOk (l, p)
      · rfl
      · rw [labOk_iff] at h; rw [h.2.2] at hf; cases hf))
    clear hf
    by_cases h0 : l < 0
    · have d0 : decide (l < 0) = true := by simpa using h0
      go_enter Try.func34, Try.ntmps34
      go_wp2
      go_ret
      exact ⟨by rw [HF.out]; rfl, (Kept.refl _).alloc _⟩
    · have d0 : decide (l < 0) = false := by simpa using h0
      by_cases h3 : 3 < l
      · have d3 : decide (3 < l) = true := by simpa using h3
        go_enter Try.func34, Try.ntmps34
        go_wp2
        go_ret
        exact ⟨by rw [HF.out]; rfl, (Kept.refl _).alloc _⟩
      · have d3 : decide (3 < l) = false := by simpa using h3
        go_enter Try.func34, Try.ntmps34
        go_wp2
        go_ret
        exact ⟨by rw [HF.out]; rfl, (Kept.refl _).alloc _⟩
  · have h32 := W_ge32 hf
    by_cases h0 : l < 0
    · have HF := Lib.hid (show labF (l, p) = 4 from labF_four (by
        cases h : labOk (l, p)
        · rfl
        · rw [labOk_iff] at h; omega))
      have d0 : decide (l < 0) = true := by simpa using h0
      clear hf
      go_enter Try.func34, Try.ntmps34
      go_wp2
      go_ret
      exact ⟨by rw [HF.out]; rfl, (Kept.refl _).alloc _⟩
    · have d0 : decide (l < 0) = false := by simpa using h0
      by_cases h3 : 3 < l
      · have HF := Lib.hid (show labF (l, p) = 4 from labF_four (by
          cases h : labOk (l, p)
          · rfl
          · rw [labOk_iff] at h; omega))
        have d3 : decide (3 < l) = true := by simpa using h3
        clear hf
        go_enter Try.func34, Try.ntmps34
        go_wp2
        go_ret
        exact ⟨by rw [HF.out]; rfl, (Kept.refl _).alloc _⟩
      · have HF := Lib.hid (show labF (l, p) = 0 from labF_zero (labOk_iff.2 ⟨by omega, by omega, hf⟩))
        have d3 : decide (3 < l) = false := by simpa using h3
        clear hf
        go_enter Try.func34, Try.ntmps34
        go_wp2
        go_ret
        exact ⟨by rw [HF.out]; rfl, (Kept.refl _).alloc _⟩

theorem labFits_any (n : Nat) (hn : n < 32) (x : BitVec 32) (w : World) : Calls Try.prog 31 #[.int .i64 n, .int .u32 (W x)] w fun e w' => e = .returned (.bool (fitB n x)) ∧ w = w' := by
  have h1 : decide (32 ≤ (n : Int)) = false := by simp; omega
  rw [fitB_lt hn]
  go_enter Try.func31, Try.ntmps31
  go_wp2
  go_ret
  exact ⟨rfl, rfl⟩
theorem refLabCheck_any (l : Int) (p : BitVec 32) (w : World) : Calls Try.prog 36 #[.agg #[.int .i64 l, .int .u32 (W p)]] w fun e w' => e = .returned (.int .i64 (labF (l, p))) ∧ Kept w w' := by
  by_cases h0 : l < 0
  · have HF := Lib.hid (show labF (l, p) = 4 from labF_four (by
      cases h : labOk (l, p)
      · rfl
      · rw [labOk_iff] at h; omega))
    have d0 : decide (l < 0) = true := by simpa using h0
    go_enter Try.func36, Try.ntmps36
    go_wp2
    go_ret
    exact ⟨by rw [HF.out]; rfl, (Kept.refl _).alloc _⟩
  · have d0 : decide (l < 0) = false := by simpa using h0
    by_cases h3 : 3 < l
    · have HF := Lib.hid (show labF (l, p) = 4 from labF_four (by
        cases h : labOk (l, p)
        · rfl
        · rw [labOk_iff] at h; omega))
      have d3 : decide (3 < l) = true := by simpa using h3
      go_enter Try.func36, Try.ntmps36
      go_wp2
      go_ret
      exact ⟨by rw [HF.out]; rfl, (Kept.refl _).alloc _⟩
    · have d3 : decide (3 < l) = false := by simpa using h3
      have HF := Lib.hid (show labF (l, p) = if fitB 5 p then 0 else 4 by
        have a1 : decide (0 ≤ l) = true := by simp; omega
        have a2 : decide (l ≤ 3) = true := by simp; omega
        unfold labF labOk
        simp only [a1, a2, Bool.true_and])
      cases hf : fitB 5 p
      all_goals
        have HP := Lib.hid hf
        go_enter Try.func36, Try.ntmps36
        go_wp2_with (go_at_call 31; refine (labFits_any 5 (by omega) _ _).mono ?_; rintro e w' ⟨rfl, rfl⟩)
        go_ret
        exact ⟨by rw [HF.out, HP.out]; rfl, (Kept.refl _).alloc _⟩

theorem least_any (l m : Int) (p q : BitVec 32) (w : World) : Calls Try.prog 35 #[.agg #[.int .i64 l, .int .u32 (W p)], .agg #[.int .i64 m, .int .u32 (W q)]] w fun e w' => e = .returned (.bool (leB (l, p) (m, q))) ∧ Kept w w' := by
  cases h : decide (l ≤ m)
  all_goals
    have H := Lib.hid h
    go_enter Try.func35, Try.ntmps35
    go_wp2
    go_ret
    exact ⟨by unfold leB; rw [H.out]; rfl, ((Kept.refl _).alloc _).alloc _⟩
end Go.Proofs.Ytjcooagchjjknaa
