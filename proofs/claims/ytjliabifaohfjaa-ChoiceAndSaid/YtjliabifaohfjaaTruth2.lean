/- The walks of package truth: Dual; are two tables the same? -/
import Derived.Test.YtjliabifaohfjaaTruth
namespace Go.Proofs.Ytjliabifaohfjaa
open Go Go.RowKit
set_option linter.unusedVariables false

theorem dualX_ok (n : Int) (A : Option Addr) (len c : Nat) (f : List Bool) (w : World) (hl : len ≤ maxLen) (hf : SlB w A len f) (hc : truthF n f = 0) :
    Calls Try.prog 12 #[.int .i64 n, .slice A len c] w (RetBE w (dualL f)) := by
  have hz := truthF_zero hc
  have hlen : len ≤ 1000 := by
    rw [← hf.2, hz.2.2]
    exact Nat.le_trans (pow_le4 n.toNat (by omega)) (by omega)
  have HC := Lib.hid hc
  clear hc hz
  go_enter Try.func12, Try.ntmps12
  go_wp2_with fail
  refine (truthCheck_any _ _ _ _ f _ hl hf).mono ?_
  rintro e w1 ⟨rfl, rfl⟩
  rw [HC.out]
  go_wp2_with fail
  refine (dual_any _ _ _ f _ hf hlen).mono ?_
  rintro e w2 ⟨A1, c1, rfl, hs, hcap, k1⟩
  go_wp2_with fail
  go_ret2
  exact ⟨A1, c1, rfl, hs, hcap, k1⟩
theorem dualX_no (n : Int) (A : Option Addr) (len c : Nat) (f : List Bool) (w : World) (hl : len ≤ maxLen) (hf : SlB w A len f) (hc : (truthF n f != 0) = true) :
    Calls Try.prog 12 #[.int .i64 n, .slice A len c] w fun e w' => e = .returned (.tuple #[.slice none 0 0, .int .i64 (truthF n f)]) ∧ w = w' := by
  go_enter Try.func12, Try.ntmps12
  go_wp2_with fail
  refine (truthCheck_any _ _ _ _ f _ hl hf).mono ?_
  rintro e w1 ⟨rfl, rfl⟩
  go_wp2_with fail
  go_ret2
  exact ⟨rfl, rfl⟩

def NotYetB (xs ys : List Bool) (k : Nat) : Prop := ∀ i, i < k → bat xs i = bat ys i
theorem NotYetB.step {xs ys : List Bool} {k : Nat} (h : NotYetB xs ys k) (e : bat xs k = bat ys k) : NotYetB xs ys (k + 1) := by
  intro i hi
  by_cases h2 : i = k
  · subst h2; exact e
  · exact h i (by omega)
def boolsF (xs ys : List Bool) : Bool := xs == ys
set_option maxHeartbeats 400000 in
theorem bools_any (A : Option Addr) (n c : Nat) (A2 : Option Addr) (n2 c2 : Nat) (xs ys : List Bool) (w : World) (hx : SlB w A n xs) (hy : SlB w A2 n2 ys) (hn : n ≤ maxLen) :
    Calls Try.prog 14 #[.slice A n c, .slice A2 n2 c2] w fun e w' => e = .returned (.bool (boolsF xs ys)) ∧ Kept w w' := by
  unfold maxLen at hn
  have hxl := hx.2
  have hyl := hy.2
  by_cases hne : n = n2
  · subst hne
    have HXL := Lib.hid hxl
    have HYL := Lib.hid hyl
    have hb : ((n : Int) != (n : Int)) = false := by simp
    clear hxl hyl
    go_enter Try.func14, Try.ntmps14
    go_wp2_with fail
    go_loopw [5] (fun t wr => ∃ k : Nat, k ≤ n ∧ t = .int .i64 k ∧ NotYetB xs ys k ∧ Kept w wr) (fun t _ => n - (intOf t).toNat)
    case atStart => exact ⟨0, Nat.zero_le _, rfl, fun i hi => absurd hi (by omega), Kept.refl _⟩
    case round =>
      obtain ⟨k, hk, rfl, hny, hkw⟩ := hrel
      have HNY := Lib.hid hny
      clear hny
      by_cases hlt : k < n
      · obtain ⟨b1, o1, rfl, _, c1'⟩ := (hx.kept hkw).getN k hlt
        obtain ⟨b2, o2, rfl, _, c2'⟩ := (hy.kept hkw).getN k hlt
        have hi1 : (0 : Int) ≤ (k : Int) := by omega
        have hi2 : (k : Int) < (n : Int) := by omega
        go_wp2_with fail
        go_quiet (fail)
        cases hbb : bat xs k == bat ys k
        · have HB := Lib.hid hbb
          go_wp2_with fail
          go_ret
          refine ⟨?_, hkw.drewN nq⟩
          have : boolsF xs ys = false := by
            unfold boolsF
            rw [beq_eq_false_iff_ne]
            intro e
            have h2 := HB.out
            rw [e] at h2
            simp at h2
          rw [this]
          rfl
        · have HB := Lib.hid hbb
          go_wp2_with fail
          go_roundw
          case rel => exact ⟨k + 1, by omega, by go_num, HNY.out.step (by have := HB.out; simpa using this), hkw.drewN nq⟩
          case measure => simp [intOf]; omega
      · have : boolsF xs ys = true := by
          unfold boolsF
          rw [beq_iff_eq]
          exact bat_ext (by rw [HXL.out, HYL.out]) fun i hi => HNY.out i (by rw [HXL.out] at hi; omega)
        have HR := Lib.hid this
        clear this
        go_wp2_with fail
        go_ret
        exact ⟨by rw [HR.out]; rfl, hkw⟩
  · have hb : ((n : Int) != (n2 : Int)) = true := by rw [bne_iff_ne]; omega
    have : boolsF xs ys = false := by
      unfold boolsF
      rw [beq_eq_false_iff_ne]
      intro e
      rw [e, hyl] at hxl
      exact hne hxl.symm
    have HR := Lib.hid this
    clear this hne hxl hyl
    go_enter Try.func14, Try.ntmps14
    go_wp2_with fail
    go_ret
    exact ⟨by rw [HR.out]; rfl, Kept.refl _⟩
theorem boolsF_self (xs : List Bool) : boolsF xs xs = true := by unfold boolsF; simp
def RetN (w : World) (n : Nat) (xs : List Bool) (e : Ending) (w' : World) : Prop := ∃ A c, e = .returned (.tuple #[.slice A n c, .int .i64 0]) ∧ SlB w' A n xs ∧ n ≤ c ∧ Kept w w'
theorem RetBE.n {w : World} {n : Nat} {xs : List Bool} (hn : xs.length = n) {e : Ending} {w' : World} (h : RetBE w xs e w') : RetN w n xs e w' := by subst hn; exact h
/-- the first k values of 'one and the other', told by g -/
def tabTo (g : Nat → Bool) (k : Nat) : List Bool := (List.range k).map g
theorem tabTo_length (g : Nat → Bool) (k : Nat) : (tabTo g k).length = k := by simp [tabTo]
theorem tabTo_succ (g : Nat → Bool) (k : Nat) : tabTo g (k + 1) = tabTo g k ++ [g k] := by simp [tabTo, List.range_succ]
theorem bat_tabTo (g : Nat → Bool) (n k : Nat) (h : k < n) : bat (tabTo g n) k = g k := bat_map_range g n k h
end Go.Proofs.Ytjliabifaohfjaa
