/- The sums of a table, variable by variable: plain facts, with no program in sight. -/
import Derived.Test.YtjliabifaohfjaaArr
namespace Go.Proofs.Ytjliabifaohfjaa
open Go Go.RowKit

/-- one variable's pass -/
def passT (i : Nat) (h : Nat → Bool) (s : Nat) : Bool := if s.testBit i then h s != h (s ^^^ 2 ^ i) else h s
def sumsN (h : Nat → Bool) : Nat → Nat → Bool
  | 0 => h
  | i + 1 => passT i (sumsN h i)
theorem tb_xor_same (s i : Nat) : (s ^^^ 2 ^ i).testBit i = !s.testBit i := by
  rw [Nat.testBit_xor, Nat.testBit_two_pow_self, Bool.xor_true]
theorem tb_xor_other {i j : Nat} (h : i ≠ j) (s : Nat) : (s ^^^ 2 ^ i).testBit j = s.testBit j := by
  rw [Nat.testBit_xor, Nat.testBit_two_pow]
  simp [h]
theorem xor_xor_same (s i : Nat) : s ^^^ 2 ^ i ^^^ 2 ^ i = s := by
  rw [Nat.xor_assoc, Nat.xor_self, Nat.xor_zero]
theorem passT_twice (i : Nat) (h : Nat → Bool) : passT i (passT i h) = h := by
  funext s
  unfold passT
  rw [tb_xor_same]
  cases hb : s.testBit i
  · simp
  · simp only [if_true, Bool.not_true, Bool.false_eq_true, if_false]
    cases h s <;> cases h (s ^^^ 2 ^ i) <;> rfl
theorem passT_comm {i j : Nat} (hij : i ≠ j) (h : Nat → Bool) : passT i (passT j h) = passT j (passT i h) := by
  funext s
  unfold passT
  rw [tb_xor_other hij, tb_xor_other (Ne.symm hij)]
  have e : s ^^^ 2 ^ i ^^^ 2 ^ j = s ^^^ 2 ^ j ^^^ 2 ^ i := by rw [Nat.xor_assoc, Nat.xor_comm (2 ^ i), ← Nat.xor_assoc]
  rw [e]
  cases s.testBit i <;> cases s.testBit j
  · rfl
  · rfl
  · rfl
  · simp only [if_true]
    cases h s <;> cases h (s ^^^ 2 ^ i) <;> cases h (s ^^^ 2 ^ j) <;> cases h (s ^^^ 2 ^ j ^^^ 2 ^ i) <;> rfl
theorem passT_sumsN {i : Nat} (h : Nat → Bool) : ∀ n, n ≤ i → passT i (sumsN h n) = sumsN (passT i h) n := by
  intro n
  induction n with
  | zero => intro _; rfl
  | succ n ih =>
    intro hn
    show passT i (passT n (sumsN h n)) = passT n (sumsN (passT i h) n)
    rw [passT_comm (by omega), ih (by omega)]
theorem sumsN_twice (h : Nat → Bool) : ∀ n, sumsN (sumsN h n) n = h := by
  intro n
  induction n with
  | zero => rfl
  | succ n ih =>
    show passT n (sumsN (passT n (sumsN h n)) n) = h
    rw [passT_sumsN _ n (Nat.le_refl n), passT_twice, ih]
theorem sumsN_xor (f g : Nat → Bool) : ∀ n s, sumsN (fun s => f s != g s) n s = (sumsN f n s != sumsN g n s) := by
  intro n
  induction n with
  | zero => intro s; rfl
  | succ n ih =>
    intro s
    show passT n (sumsN (fun s => f s != g s) n) s = (passT n (sumsN f n) s != passT n (sumsN g n) s)
    unfold passT
    rw [ih, ih]
    cases s.testBit n
    · rfl
    · simp only [if_true]
      cases sumsN f n s <;> cases sumsN g n s <;> cases sumsN f n (s ^^^ 2 ^ n) <;> cases sumsN g n (s ^^^ 2 ^ n) <;> rfl
theorem xor_lt {s i n : Nat} (hs : s < 2 ^ n) (hi : i < n) : s ^^^ 2 ^ i < 2 ^ n := Nat.xor_lt_two_pow hs (Nat.pow_lt_pow_right (by omega) hi)
theorem sumsN_congr {f g : Nat → Bool} {n : Nat} (h : ∀ s, s < 2 ^ n → f s = g s) : ∀ i, i ≤ n → ∀ s, s < 2 ^ n → sumsN f i s = sumsN g i s := by
  intro i
  induction i with
  | zero => intro _ s hs; exact h s hs
  | succ i ih =>
    intro hi s hs
    show passT i (sumsN f i) s = passT i (sumsN g i) s
    unfold passT
    rw [ih (by omega) s hs, ih (by omega) _ (xor_lt hs hi)]
/-- the list of the sums of a table of n variables -/
def sumsL (n : Nat) (f : List Bool) : List Bool := (List.range f.length).map (sumsN (bat f) n)
theorem sumsL_length (n : Nat) (f : List Bool) : (sumsL n f).length = f.length := by simp [sumsL]
theorem bat_sumsL (n : Nat) (f : List Bool) (s : Nat) (h : s < f.length) : bat (sumsL n f) s = sumsN (bat f) n s := bat_map_range _ _ _ h
theorem sumsL_twice {n : Nat} {f : List Bool} (hl : f.length = 2 ^ n) : sumsL n (sumsL n f) = f := by
  apply bat_ext (by rw [sumsL_length, sumsL_length])
  intro k hk
  rw [sumsL_length, sumsL_length] at hk
  rw [bat_sumsL _ _ _ (by rw [sumsL_length]; exact hk)]
  rw [sumsN_congr (g := sumsN (bat f) n) (fun s hs => bat_sumsL n f s (by rw [hl]; exact hs)) n (Nat.le_refl n) k (by rw [← hl]; exact hk), sumsN_twice]
/-- in the midst of a pass: the first k are as they will be -/
def midT (i : Nat) (h : Nat → Bool) (k s : Nat) : Bool := if s < k then passT i h s else h s
theorem xor_lt_of_bit {s i : Nat} (hb : s.testBit i = true) : s ^^^ 2 ^ i < s := by
  have e : (s ^^^ 2 ^ i) ||| 2 ^ i = s := by
    apply Nat.eq_of_testBit_eq
    intro j
    rw [Nat.testBit_or, Nat.testBit_xor, Nat.testBit_two_pow]
    by_cases h : i = j
    · subst h
      simp [hb]
    · simp [h]
  have h1 : s ^^^ 2 ^ i ≤ s := by
    have := Nat.left_le_or (n := s ^^^ 2 ^ i) (m := 2 ^ i)
    rw [e] at this
    exact this
  have h2 : s ^^^ 2 ^ i ≠ s := by
    intro h
    have h3 := tb_xor_same s i
    rw [h, hb] at h3
    cases h3
  omega
theorem midT_other {i k : Nat} (h : Nat → Bool) (hb : k.testBit i = true) : midT i h k (k ^^^ 2 ^ i) = h (k ^^^ 2 ^ i) := by
  unfold midT passT
  rw [if_pos (xor_lt_of_bit hb), tb_xor_same, hb]
  rfl
theorem midT_self (i k : Nat) (h : Nat → Bool) : midT i h k k = h k := by
  unfold midT
  rw [if_neg (by omega)]
end Go.Proofs.Ytjliabifaohfjaa
