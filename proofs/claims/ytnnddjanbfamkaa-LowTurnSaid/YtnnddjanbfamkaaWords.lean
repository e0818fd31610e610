/- The walk of Words: are two lists of words the same? -/
import Derived.Test.YtnnddjanbfamkaaSeat
import Derived.Test.YtnnddjanbfamkaaQuiet
namespace Go.Proofs.Ytnnddjanbfamkaa
open Go Go.RowKit
set_option linter.unusedVariables false

theorem nth_ext {xs ys : List (BitVec 32)} (hl : xs.length = ys.length) (h : ∀ k, k < xs.length → nth xs k = nth ys k) : xs = ys := by
  apply List.ext_getElem hl
  intro i h1 h2
  have := h i h1
  rw [nth_eq _ _ h1, nth_eq _ _ h2] at this
  exact this
def NotYetW (xs ys : List (BitVec 32)) (k : Nat) : Prop := ∀ i, i < k → nth xs i = nth ys i
theorem NotYetW.step {xs ys : List (BitVec 32)} {k : Nat} (h : NotYetW xs ys k) (e : nth xs k = nth ys k) : NotYetW xs ys (k + 1) := by
  intro i hi
  by_cases h2 : i = k
  · subst h2; exact e
  · exact h i (by omega)
def wordsF (xs ys : List (BitVec 32)) : Bool := xs == ys
theorem wordsF_self (xs : List (BitVec 32)) : wordsF xs xs = true := by unfold wordsF; simp
set_option maxHeartbeats 400000 in
theorem words_any (A : Option Addr) (n c : Nat) (A2 : Option Addr) (n2 c2 : Nat) (xs ys : List (BitVec 32)) (w : World) (hx : SlW w A n xs) (hy : SlW w A2 n2 ys) (hn : n ≤ maxLen) :
    Calls Try.prog 28 #[.slice A n c, .slice A2 n2 c2] w fun e w' => e = .returned (.bool (wordsF xs ys)) ∧ Kept w w' := by
  unfold maxLen at hn
  have hxl := hx.2
  have hyl := hy.2
  by_cases hne : n = n2
  · subst hne
    have HXL := Lib.hid hxl
    have HYL := Lib.hid hyl
    have hb : ((n : Int) != (n : Int)) = false := by simp
    clear hxl hyl
    go_enter Try.func28, Try.ntmps28
    go_wp2_with fail
    go_loopw [5] (fun t wr => ∃ k : Nat, k ≤ n ∧ t = .int .i64 k ∧ NotYetW xs ys k ∧ Kept w wr) (fun t _ => n - (intOf t).toNat)
    case atStart => exact ⟨0, Nat.zero_le _, rfl, fun i hi => absurd hi (by omega), Kept.refl _⟩
    case round =>
      obtain ⟨k, hk, rfl, hny, hkw⟩ := hrel
      have HNY := Lib.hid hny
      clear hny
      by_cases hlt : k < n
      · obtain ⟨b1, o1, rfl, _, c1'⟩ := (hx.kept hkw).getN k hlt
        obtain ⟨b2, o2, rfl, _, c2'⟩ := (hy.kept hkw).getN k hlt
        have hi1 : (0 : Int) ≤ (k : Int) := by omega
        have hi2 : (k : Int) < (n : Int) := by omega
        go_wp2_with fail
        go_quiet (fail)
        cases hbb : nth xs k != nth ys k
        · have HB := Lib.hid hbb
          clear hbb
          go_wp2_with fail
          go_roundw
          case rel => exact ⟨k + 1, by omega, by go_num, HNY.out.step (by have := HB.out; simpa using this), hkw.drewN nq⟩
          case measure => simp [intOf]; omega
        · have HB := Lib.hid hbb
          clear hbb
          go_wp2_with fail
          go_ret
          refine ⟨?_, hkw.drewN nq⟩
          have : wordsF xs ys = false := by
            unfold wordsF
            rw [beq_eq_false_iff_ne]
            intro e
            have h2 := HB.out
            rw [e] at h2
            simp at h2
          rw [this]
          rfl
      · have : wordsF xs ys = true := by
          unfold wordsF
          rw [beq_iff_eq]
          exact nth_ext (by rw [HXL.out, HYL.out]) fun i hi => HNY.out i (by rw [HXL.out] at hi; omega)
        have HR := Lib.hid this
        clear this
        go_wp2_with fail
        go_ret
        exact ⟨by rw [HR.out]; rfl, hkw⟩
  · have hb : ((n : Int) != (n2 : Int)) = true := by rw [bne_iff_ne]; omega
    have : wordsF xs ys = false := by
      unfold wordsF
      rw [beq_eq_false_iff_ne]
      intro e
      rw [e, hyl] at hxl
      exact hne hxl.symm
    have HR := Lib.hid this
    clear this hne hxl hyl
    go_enter Try.func28, Try.ntmps28
    go_wp2_with fail
    go_ret
    exact ⟨by rw [HR.out]; rfl, Kept.refl _⟩
end Go.Proofs.Ytnnddjanbfamkaa
