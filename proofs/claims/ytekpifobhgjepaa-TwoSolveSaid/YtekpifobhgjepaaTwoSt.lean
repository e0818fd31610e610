/- two.Stuck: the word of those that come to each other; plain law. -/
import Derived.Test.YtekpifobhgjepaaTwoSP
import Derived.Test.YtekpifobhgjepaaHornP
namespace Go.Proofs.Ytekpifobhgjepaa
open Go
set_option linter.unusedVariables false

def stuckW (n : Nat) (f : Nat → BitVec 32) : Nat → BitVec 32
  | 0 => 0#32
  | k + 1 => stuckW n f k ||| ((f k >>> (k + n) &&& (f (k + n) >>> k) &&& 1#32) <<< k)
theorem one_at {x : BitVec 32} {k j : Nat} : ((x &&& 1#32) <<< k).getLsbD j = (decide (j = k) && decide (j < 32) && x.getLsbD 0) := by
  rw [BitVec.getLsbD_shiftLeft, BitVec.getLsbD_and, BitVec.getLsbD_one]
  by_cases h : j = k
  · subst h; simp
  · by_cases h2 : j < k
    · simp [h, h2]
    · have : j - k ≠ 0 := by omega
      simp [h, this]
theorem stuckW_bit (n : Nat) (f : Nat → BitVec 32) : ∀ k, k ≤ 32 → ∀ j, (stuckW n f k).getLsbD j = (decide (j < k) && (f j).getLsbD (j + n) && (f (j + n)).getLsbD j)
  | 0, _, j => by simp [stuckW]
  | k + 1, h, j => by
    unfold stuckW
    rw [BitVec.getLsbD_or, stuckW_bit n f k (by omega) j, one_at, BitVec.getLsbD_and, BitVec.getLsbD_ushiftRight, BitVec.getLsbD_ushiftRight]
    by_cases h1 : j = k
    · subst h1; simp; omega
    · by_cases h2 : j < k
      · simp [h1, h2, show j < k + 1 by omega]
      · simp [h1, h2, show ¬ j < k + 1 by omega]
theorem stuckW_zero {n : Nat} (hn : n ≤ 6) {rs : List Ru} (h : stuckW n (toW n rs) n = 0#32) : ∀ v, v < n → ¬ Stuck n rs v := by
  intro v hv ⟨h1, h2⟩
  have := stuckW_bit n (toW n rs) n (by omega) v
  rw [h, toW_bit hn (by omega), toW_bit hn (by omega), h1, h2] at this
  simp [hv] at this
  omega
theorem stuckW_some {n : Nat} (hn : n ≤ 6) {rs : List Ru} (h : stuckW n (toW n rs) n ≠ 0#32) : ∃ v, v < n ∧ Stuck n rs v := by
  by_cases hc : ∃ v, v < n ∧ Stuck n rs v
  · exact hc
  · exfalso
    apply h
    apply BitVec.eq_of_getLsbD_eq
    intro v _
    rw [stuckW_bit n _ n (by omega) v]
    by_cases hv : v < n
    · rw [toW_bit hn (by omega), toW_bit hn (by omega)]
      cases h1 : matE (edgeL n rs) (2 * n) v (v + n)
      · simp
      · cases h2 : matE (edgeL n rs) (2 * n) (v + n) v
        · simp
        · exact absurd ⟨v, hv, h1, h2⟩ hc
    · simp [hv]
/-- what Solve hands back: whether it may, and the word -/
theorem two_says {n : Nat} {rs : List Ru} (ht : Twos n rs) {v : BitVec 32} {ok : Bool} (hr : Res n rs 0#32 0#32 v ok) :
    ok = (stuckW n (toW n rs) n == 0#32) ∧ v = if stuckW n (toW n rs) n = 0#32 then soW n rs n &&& (1#32 <<< n - 1#32) else 0#32 := by
  by_cases h : stuckW n (toW n rs) n = 0#32
  · have := two_res ht (stuckW_zero ht.1 h)
    have hu := Res.uniq hr this
    exact ⟨by rw [hu.2, h]; rfl, by rw [if_pos h]; exact hu.1⟩
  · obtain ⟨u, hu, hs⟩ := stuckW_some ht.1 h
    have := two_none ht hu hs
    have hu := Res.uniq hr this
    exact ⟨by rw [hu.2]; simpa using h, by rw [if_neg h]; exact hu.1⟩
end Go.Proofs.Ytekpifobhgjepaa
