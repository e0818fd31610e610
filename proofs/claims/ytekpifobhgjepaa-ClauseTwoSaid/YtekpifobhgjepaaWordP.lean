/- Words told bit by bit: plain facts. -/
import Derived.Test.YtekpifobhgjepaaSl
namespace Go.Proofs.Ytekpifobhgjepaa
open Go Go.RowKit

/-- the word whose bits below n are told by p -/
def wordN (n : Nat) (p : Nat → Bool) : BitVec 32 := (List.range n).foldl (fun a i => if p i then a ||| 1#32 <<< i else a) 0#32
theorem wordN_succ (n : Nat) (p : Nat → Bool) : wordN (n + 1) p = if p n then wordN n p ||| 1#32 <<< n else wordN n p := by
  unfold wordN
  rw [List.range_succ, List.foldl_append]
  rfl
theorem wordN_bit (p : Nat → Bool) : ∀ (n : Nat), n ≤ 32 → ∀ i, (wordN n p).getLsbD i = (decide (i < n) && p i) := by
  intro n
  induction n with
  | zero => intro _ i; simp [wordN]
  | succ n ih =>
    intro hn i
    rw [wordN_succ]
    by_cases h : i = n
    · subst h
      cases hp : p i
      · simp [ih (by omega)]
      · simp [BitVec.getLsbD_or]
        omega
    · have e : decide (i < n + 1) = decide (i < n) := by
        by_cases h2 : i < n
        · simp [h2]; omega
        · simp [h2]; omega
      rw [e]
      cases hp : p n
      · simp only [Bool.false_eq_true, if_false]
        exact ih (by omega) i
      · simp only [if_true]
        rw [BitVec.getLsbD_or, ih (by omega), getLsbD_bit]
        have : ¬ n = i := fun hc => h hc.symm
        simp [this]
theorem wordN_fit (n : Nat) (p : Nat → Bool) (hn : n ≤ 32) : fitB n (wordN n p) = true := by
  rw [fitB_iff]
  intro i hi
  rw [wordN_bit p n hn, Bool.and_eq_true] at hi
  simpa using hi.1
theorem wordN_congr {n : Nat} {p q : Nat → Bool} (h : ∀ i, i < n → p i = q i) (hn : n ≤ 32) : wordN n p = wordN n q := by
  apply BitVec.eq_of_getLsbD_eq
  intro i _
  rw [wordN_bit p n hn, wordN_bit q n hn]
  by_cases hi : i < n
  · rw [h i hi]
  · simp [hi]
theorem wordN_ext {n : Nat} {x : BitVec 32} {p : Nat → Bool} (hn : n ≤ 32) (hf : fitB n x = true) (h : ∀ i, i < n → x.getLsbD i = p i) : x = wordN n p := by
  apply BitVec.eq_of_getLsbD_eq
  intro i _
  rw [wordN_bit p n hn]
  by_cases hi : i < n
  · simp [hi, h i hi]
  · cases hx : x.getLsbD i
    · simp [hi]
    · exact absurd (fitB_iff.1 hf i hx) hi
theorem not_bit {n : Nat} (s : BitVec 32) {i : Nat} (hi : i < n) (hn : n < 32) : ((1#32 <<< n - 1#32) &&& ~~~s).getLsbD i = !s.getLsbD i := by
  rw [BitVec.getLsbD_and, full_bit n i hn, BitVec.getLsbD_not]
  have : i < 32 := by omega
  simp [hi, this]
theorem not_fit {n : Nat} (s : BitVec 32) (hn : n < 32) : fitB n ((1#32 <<< n - 1#32) &&& ~~~s) = true := by
  rw [fitB_iff]
  intro i hi
  rw [BitVec.getLsbD_and, full_bit n i hn, Bool.and_eq_true, decide_eq_true_eq] at hi
  exact hi.1
theorem full_fit {n : Nat} (hn : n < 32) : fitB n (1#32 <<< n - 1#32) = true := by
  rw [fitB_iff]
  intro i hi
  rw [full_bit n i hn, decide_eq_true_eq] at hi
  exact hi
theorem word_ext {n : Nat} {x y : BitVec 32} (hx : fitB n x = true) (hy : fitB n y = true) (h : ∀ i, i < n → x.getLsbD i = y.getLsbD i) : x = y := by
  apply BitVec.eq_of_getLsbD_eq
  intro i _
  by_cases hi : i < n
  · exact h i hi
  · have e1 : x.getLsbD i = false := by
      cases hb : x.getLsbD i
      · rfl
      · exact absurd (fitB_iff.1 hx i hb) hi
    have e2 : y.getLsbD i = false := by
      cases hb : y.getLsbD i
      · rfl
      · exact absurd (fitB_iff.1 hy i hb) hi
    rw [e1, e2]
theorem any_range (f : Nat → Bool) (k : Nat) : (List.range (k + 1)).any f = ((List.range k).any f || f k) := by
  rw [List.range_succ, List.any_append]
  simp
theorem all_range (f : Nat → Bool) (k : Nat) : (List.range (k + 1)).all f = ((List.range k).all f && f k) := by
  rw [List.range_succ, List.all_append]
  simp
end Go.Proofs.Ytekpifobhgjepaa
