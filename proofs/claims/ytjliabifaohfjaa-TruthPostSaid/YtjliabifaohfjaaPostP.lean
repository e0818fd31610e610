/- Post's classes are closed under composition: plain facts, with no program in sight. -/
import Derived.Test.YtjliabifaohfjaaSumsP
namespace Go.Proofs.Ytjliabifaohfjaa
open Go Go.RowKit
set_option linter.unusedVariables false

/-! ### sums of variables -/
def lin (c : Bool) (b : Nat → Bool) (s : Nat) : Nat → Bool
  | 0 => c
  | k + 1 => lin c b s k != (s.testBit k && b k)
theorem lin_congr {c : Bool} {b : Nat → Bool} {s t : Nat} : ∀ k, (∀ i, i < k → s.testBit i = t.testBit i) → lin c b s k = lin c b t k := by
  intro k
  induction k with
  | zero => intro _; rfl
  | succ k ih => intro h; show (lin c b s k != _) = (lin c b t k != _); rw [ih (fun i hi => h i (by omega)), h k (by omega)]
theorem lin_xor (c d : Bool) (b e : Nat → Bool) (s : Nat) : ∀ k, (lin c b s k != lin d e s k) = lin (c != d) (fun i => b i != e i) s k := by
  intro k
  induction k with
  | zero => rfl
  | succ k ih =>
    show ((lin c b s k != (s.testBit k && b k)) != (lin d e s k != (s.testBit k && e k))) = (lin (c != d) (fun i => b i != e i) s k != (s.testBit k && (b k != e k)))
    rw [← ih]
    cases lin c b s k <;> cases lin d e s k <;> cases s.testBit k <;> cases b k <;> cases e k <;> rfl
theorem lin_zero (s : Nat) : ∀ k, lin false (fun _ => false) s k = false := by
  intro k
  induction k with
  | zero => rfl
  | succ k ih => show (lin false _ s k != (s.testBit k && false)) = false; rw [ih, Bool.and_false]; rfl
/-- no two bits -/
def supp (t : Nat) : Bool := t &&& (t - 1) == 0
theorem supp_two : ∀ u : Fin 16, ∀ k j : Fin 4, k ≠ j → u.1.testBit k.1 = true → u.1.testBit j.1 = true → supp u.1 = false := by decide
theorem supp_pow : ∀ k : Fin 4, supp (2 ^ k.1) = true := by decide
/-- the higher bits alone -/
def hi (k s : Nat) : Nat := s >>> k <<< k
theorem hi_bit (k s i : Nat) : (hi k s).testBit i = (decide (k ≤ i) && s.testBit i) := by
  unfold hi
  rw [Nat.testBit_shiftLeft, Nat.testBit_shiftRight]
  by_cases h : k ≤ i
  · simp [h, show k + (i - k) = i by omega]
  · simp [h]
theorem hi_lt {k s n : Nat} (h : s < 2 ^ n) : hi k s < 2 ^ n := by
  apply Nat.lt_of_le_of_lt _ h
  unfold hi
  rw [Nat.shiftRight_eq_div_pow, Nat.shiftLeft_eq]
  exact Nat.div_mul_le_self s (2 ^ k)
theorem lt_pow4 {s n : Nat} (hn : n ≤ 4) (h : s < 2 ^ n) : s < 16 := Nat.lt_of_lt_of_le h (Nat.le_trans (Nat.pow_le_pow_right (by omega) hn) (by omega))
theorem bit_lt {s n i : Nat} (h : s < 2 ^ n) (hb : s.testBit i = true) : i < n := by
  rcases Nat.lt_or_ge i n with h1 | h1
  · exact h1
  · rw [Nat.testBit_lt_two_pow (Nat.lt_of_lt_of_le h (Nat.pow_le_pow_right (by omega) h1))] at hb
    cases hb
theorem exists_bit {u : Nat} (h : u ≠ 0) : ∃ j, u.testBit j = true := Nat.exists_testBit_of_ne_zero h
/-- behind k passes -/
theorem sumsN_supp {n : Nat} (hn : n ≤ 4) (h : Nat → Bool) (hs : ∀ t, t < 2 ^ n → supp t = false → h t = false) : ∀ k, k ≤ n → ∀ s, s < 2 ^ n → sumsN h k s = if hi k s = 0 then lin (h 0) (fun i => h (2 ^ i)) s k else h (hi k s) := by
  intro k
  induction k with
  | zero =>
    intro _ s hlt
    have e : hi 0 s = s := by unfold hi; simp
    rw [e]
    split
    · rename_i e0; subst e0; rfl
    · rfl
  | succ k ih =>
    intro hk s hlt
    show passT k (sumsN h k) s = _
    unfold passT
    have hx : s ^^^ 2 ^ k < 2 ^ n := xor_lt hlt (by omega)
    have hsame : hi (k + 1) (s ^^^ 2 ^ k) = hi (k + 1) s := by
      apply Nat.eq_of_testBit_eq
      intro i
      rw [hi_bit, hi_bit]
      by_cases hi2 : k + 1 ≤ i
      · rw [tb_xor_other (by omega)]
      · simp [hi2]
    cases hb : s.testBit k
    · -- the bit is not there
      have e : hi (k + 1) s = hi k s := by
        apply Nat.eq_of_testBit_eq
        intro i
        rw [hi_bit, hi_bit]
        by_cases e : i = k
        · subst e; simp [hb]
        · by_cases h1 : k ≤ i
          · have : k + 1 ≤ i := by omega
            simp [h1, this]
          · have : ¬ k + 1 ≤ i := by omega
            simp [h1, this]
      simp only [Bool.false_eq_true, if_false]
      rw [ih (by omega) s hlt, e]
      split
      · show _ = (lin (h 0) (fun i => h (2 ^ i)) s k != (s.testBit k && h (2 ^ k)))
        rw [hb]
        simp
      · rfl
    · simp only [if_true]
      rw [ih (by omega) s hlt, ih (by omega) _ hx]
      have hne : hi k s ≠ 0 := fun e => by
        have := hi_bit k s k
        rw [e, hb] at this
        simp at this
      have e2 : hi k (s ^^^ 2 ^ k) = hi (k + 1) s := by
        apply Nat.eq_of_testBit_eq
        intro i
        rw [hi_bit, hi_bit]
        by_cases e : i = k
        · subst e; rw [tb_xor_same, hb]; simp
        · rw [tb_xor_other (fun h => e h.symm)]
          by_cases h1 : k ≤ i
          · have : k + 1 ≤ i := by omega
            simp [h1, this]
          · have : ¬ k + 1 ≤ i := by omega
            simp [h1, this]
      rw [if_neg hne, e2]
      by_cases h0 : hi (k + 1) s = 0
      · rw [if_pos h0, if_pos h0]
        have e3 : hi k s = 2 ^ k := by
          apply Nat.eq_of_testBit_eq
          intro i
          rw [hi_bit, Nat.testBit_two_pow]
          by_cases e : k = i
          · subst e; simp [hb]
          · simp only [e, decide_false]
            by_cases h1 : k ≤ i
            · have := hi_bit (k + 1) s i
              rw [h0] at this
              have h2 : k + 1 ≤ i := by omega
              simp [h2] at this
              simp [h1, this]
            · simp [h1]
        rw [e3, lin_congr (s := s ^^^ 2 ^ k) (t := s) k (fun i hi2 => tb_xor_other (by omega) s)]
        show _ = (lin (h 0) (fun i => h (2 ^ i)) s k != (s.testBit k && h (2 ^ k)))
        rw [hb]
        cases h (2 ^ k) <;> cases lin (h 0) (fun i => h (2 ^ i)) s k <;> rfl
      · rw [if_neg h0, if_neg h0]
        obtain ⟨j, hj⟩ := exists_bit h0
        have hlt2 := hi_lt (k := k) hlt
        have hbk : (hi k s).testBit k = true := by rw [hi_bit, hb]; simp
        rw [hi_bit, Bool.and_eq_true, decide_eq_true_eq] at hj
        have hbj : (hi k s).testBit j = true := by
          rw [hi_bit, hj.2]
          have : k ≤ j := by omega
          simp [this]
        have hjn := bit_lt hlt2 hbj
        have hz := hs _ hlt2 (supp_two ⟨hi k s, lt_pow4 hn hlt2⟩ ⟨k, by omega⟩ ⟨j, by omega⟩ (by intro e; injection e; omega) hbk hbj)
        rw [hz]
        cases h (hi (k + 1) s) <;> rfl
theorem hi_none {n s : Nat} (h : s < 2 ^ n) : hi n s = 0 := by
  unfold hi
  rw [Nat.shiftRight_eq_div_pow, Nat.div_eq_of_lt h]
  simp
/-- what has only sums of single variables -/
def IsLin (n : Nat) (f : Nat → Bool) : Prop := ∃ c b, ∀ s, s < 2 ^ n → f s = lin c b s n
def LinF (n : Nat) (f : Nat → Bool) : Prop := ∀ s, s < 2 ^ n → sumsN f n s = true → supp s = true
theorem LinF.is {n : Nat} (hn : n ≤ 4) {f : Nat → Bool} (h : LinF n f) : IsLin n f := by
  refine ⟨sumsN f n 0, fun i => sumsN f n (2 ^ i), fun s hs => ?_⟩
  have e := sumsN_supp hn (sumsN f n) (fun t ht h0 => by
    cases hb : sumsN f n t
    · rfl
    · rw [h t ht hb] at h0; cases h0) n (Nat.le_refl n) s hs
  rw [sumsN_twice, hi_none hs, if_pos rfl] at e
  exact e
theorem IsLin.linF {n : Nat} (hn : n ≤ 4) {f : Nat → Bool} (h : IsLin n f) : LinF n f := by
  obtain ⟨c, b, hf⟩ := h
  let g : Nat → Bool := fun t => if t = 0 then c else (List.range n).any fun i => decide (t = 2 ^ i) && b i
  have hg2 : ∀ i, i < n → g (2 ^ i) = b i := by
    intro i hi2
    have hp : (2 : Nat) ^ i ≠ 0 := Nat.pos_iff_ne_zero.1 (Nat.two_pow_pos i)
    show (if (2 : Nat) ^ i = 0 then c else _) = b i
    rw [if_neg hp]
    cases hb : b i
    · rw [List.any_eq_false]
      intro j _ hj
      rw [Bool.and_eq_true, decide_eq_true_eq] at hj
      have : i = j := (Nat.pow_right_inj (by omega)).1 hj.1
      subst this
      rw [hb] at hj
      cases hj.2
    · rw [List.any_eq_true]
      exact ⟨i, List.mem_range.2 hi2, by simp [hb]⟩
  have hgs : ∀ t, t < 2 ^ n → supp t = false → g t = false := by
    intro t ht h0
    cases hb : g t
    · rfl
    · have hb : (if t = 0 then c else (List.range n).any fun i => decide (t = 2 ^ i) && b i) = true := hb
      split at hb
      · rename_i e; subst e; cases h0
      · rw [List.any_eq_true] at hb
        obtain ⟨i, hi1, hi2⟩ := hb
        rw [Bool.and_eq_true, decide_eq_true_eq] at hi2
        have := supp_pow ⟨i, by have := List.mem_range.1 hi1; omega⟩
        rw [hi2.1] at h0
        rw [this] at h0
        cases h0
  have e : ∀ s, s < 2 ^ n → sumsN g n s = f s := by
    intro s hs
    rw [sumsN_supp hn g hgs n (Nat.le_refl n) s hs, hi_none hs, if_pos rfl, hf s hs]
    have hb : ∀ k, k ≤ n → lin (g 0) (fun i => g (2 ^ i)) s k = lin c b s k := by
      intro k
      induction k with
      | zero => intro _; rfl
      | succ k ih => intro hk; show (lin _ _ s k != (s.testBit k && g (2 ^ k))) = _; rw [ih (by omega), hg2 k (by omega)]; rfl
    exact hb n (Nat.le_refl n)
  intro s hs ht
  rw [← sumsN_congr e n (Nat.le_refl n) s hs, sumsN_twice] at ht
  cases hb : supp s
  · rw [hgs s hs hb] at ht; cases ht
  · rfl
theorem IsLin.none (n : Nat) : IsLin n fun _ => false := ⟨false, fun _ => false, fun s _ => (lin_zero s n).symm⟩
theorem IsLin.xor {n : Nat} {f g : Nat → Bool} (hf : IsLin n f) (hg : IsLin n g) : IsLin n fun s => f s != g s := by
  obtain ⟨c, b, h1⟩ := hf
  obtain ⟨d, e, h2⟩ := hg
  exact ⟨c != d, fun i => b i != e i, fun s hs => by show (f s != g s) = _; rw [h1 s hs, h2 s hs, lin_xor]⟩
theorem IsLin.one (n : Nat) (c : Bool) : IsLin n fun _ => c := by
  refine ⟨c, fun _ => false, fun s _ => ?_⟩
  have h := lin_xor c false (fun _ => false) (fun _ => false) s n
  rw [lin_zero] at h
  have : ∀ k, lin c (fun _ => false) s k = c := by
    intro k
    induction k with
    | zero => rfl
    | succ k ih => show (lin c _ s k != (s.testBit k && false)) = c; rw [ih, Bool.and_false]; cases c <;> rfl
  exact (this n).symm
theorem IsLin.congr {n : Nat} {f g : Nat → Bool} (hf : IsLin n f) (h : ∀ s, s < 2 ^ n → g s = f s) : IsLin n g := by
  obtain ⟨c, b, h1⟩ := hf
  exact ⟨c, b, fun s hs => by rw [h s hs, h1 s hs]⟩
/-! ### one put into another one -/
/-- the number whose bits are these -/
def inN (g : Nat → Nat → Bool) (s : Nat) : Nat → Nat
  | 0 => 0
  | v + 1 => if g v s then inN g s v + 2 ^ v else inN g s v
theorem inN_lt (g : Nat → Nat → Bool) (s : Nat) : ∀ v, inN g s v < 2 ^ v := by
  intro v
  induction v with
  | zero => exact Nat.one_pos
  | succ v ih =>
    show (if g v s then inN g s v + 2 ^ v else inN g s v) < 2 ^ (v + 1)
    rw [Nat.pow_succ]
    split <;> omega
theorem inN_bit (g : Nat → Nat → Bool) (s : Nat) : ∀ v i, (inN g s v).testBit i = (decide (i < v) && g i s) := by
  intro v
  induction v with
  | zero => intro i; show (0 : Nat).testBit i = _; simp
  | succ v ih =>
    intro i
    have hlt := inN_lt g s v
    show (if g v s then inN g s v + 2 ^ v else inN g s v).testBit i = _
    cases hg : g v s
    · simp only [Bool.false_eq_true, if_false]
      rw [ih]
      by_cases e : i = v
      · subst e; simp [hg]
      · by_cases h : i < v
        · have : i < v + 1 := by omega
          simp [h, this]
        · have : ¬ i < v + 1 := by omega
          simp [h, this]
    · simp only [if_true]
      rw [Nat.add_comm]
      by_cases e : i = v
      · subst e
        rw [Nat.testBit_two_pow_add_eq, Nat.testBit_lt_two_pow hlt]
        simp [hg]
      · rcases Nat.lt_or_gt_of_ne e with h | h
        · rw [Nat.testBit_two_pow_add_gt h, ih]
          have : i < v + 1 := by omega
          simp [h, this]
        · have h2 : 2 ^ v + inN g s v < 2 ^ i := by
            have : 2 ^ (v + 1) ≤ 2 ^ i := Nat.pow_le_pow_right (by omega) (by omega)
            rw [Nat.pow_succ] at this
            omega
          rw [Nat.testBit_lt_two_pow h2]
          have : ¬ i < v + 1 := by omega
          simp [this]
theorem lin_in (n : Nat) (g : Nat → Nat → Bool) (c : Bool) (b : Nat → Bool) (hg : ∀ v, v < n → IsLin n (g v)) : ∀ k, k ≤ n → IsLin n fun s => lin c b (inN g s n) k := by
  intro k
  induction k with
  | zero => intro _; exact IsLin.one n c
  | succ k ih =>
    intro hk
    cases hb : b k
    · refine (ih (by omega)).congr fun s hs => ?_
      show (lin c b (inN g s n) k != ((inN g s n).testBit k && b k)) = _
      rw [hb, Bool.and_false]
      simp
    · refine ((ih (by omega)).xor (hg k (by omega))).congr fun s hs => ?_
      show (lin c b (inN g s n) k != ((inN g s n).testBit k && b k)) = _
      rw [hb, Bool.and_true, inN_bit]
      have : k < n := by omega
      simp [this]
/-! ### the classes -/
def MonoF (n : Nat) (f : Nat → Bool) : Prop := ∀ s i, s < 2 ^ n → i < n → f s = true → f (s ||| 2 ^ i) = true
theorem or_lt2 {s i n : Nat} (hs : s < 2 ^ n) (hi2 : i < n) : s ||| 2 ^ i < 2 ^ n := Nat.or_lt_two_pow hs (Nat.pow_lt_pow_right (by omega) hi2)
theorem MonoF.all {n : Nat} {f : Nat → Bool} (h : MonoF n f) {s t : Nat} (hs : s < 2 ^ n) (ht : t < 2 ^ n) (hst : ∀ i, s.testBit i = true → t.testBit i = true) (hf : f s = true) : f t = true := by
  have key : ∀ k, k ≤ n → ∃ u, u < 2 ^ n ∧ f u = true ∧ ∀ i, u.testBit i = (s.testBit i || (decide (i < k) && t.testBit i)) := by
    intro k
    induction k with
    | zero => intro _; exact ⟨s, hs, hf, fun i => by simp⟩
    | succ k ih =>
      intro hk
      obtain ⟨u, hu, hfu, hbu⟩ := ih (by omega)
      cases hb : t.testBit k
      · refine ⟨u, hu, hfu, fun i => ?_⟩
        rw [hbu]
        by_cases e : i = k
        · subst e; simp [hb]
        · by_cases h1 : i < k
          · have : i < k + 1 := by omega
            simp [h1, this]
          · have : ¬ i < k + 1 := by omega
            simp [h1, this]
      · refine ⟨u ||| 2 ^ k, or_lt2 hu (by omega), h u k hu (by omega) hfu, fun i => ?_⟩
        rw [Nat.testBit_or, hbu, Nat.testBit_two_pow]
        by_cases e : k = i
        · subst e; simp [hb]
        · by_cases h1 : i < k
          · have : i < k + 1 := by omega
            simp [h1, this, e]
          · have : ¬ i < k + 1 := by omega
            simp [h1, this, e]
  obtain ⟨u, hu, hfu, hbu⟩ := key n (Nat.le_refl n)
  have : u = t := by
    apply Nat.eq_of_testBit_eq
    intro i
    rw [hbu]
    cases hb : s.testBit i
    · by_cases h1 : i < n
      · simp [h1]
      · simp [h1]
        exact (Nat.testBit_lt_two_pow (Nat.lt_of_lt_of_le ht (Nat.pow_le_pow_right (by omega) (show n ≤ i by omega))))
    · rw [hst i hb]; rfl
  rw [← this]
  exact hfu
theorem MonoF.put {n : Nat} {f : Nat → Bool} {g : Nat → Nat → Bool} (h : MonoF n f) (hg : ∀ v, v < n → MonoF n (g v)) : MonoF n fun s => f (inN g s n) := by
  intro s i hs hi2 hf
  refine h.all (inN_lt g s n) (inN_lt g _ n) (fun v hv => ?_) hf
  rw [inN_bit, Bool.and_eq_true, decide_eq_true_eq] at hv ⊢
  exact ⟨hv.1, hg v hv.1 s i hs hi2 hv.2⟩
theorem LinF.put {n : Nat} (hn : n ≤ 4) {f : Nat → Bool} {g : Nat → Nat → Bool} (h : LinF n f) (hg : ∀ v, v < n → LinF n (g v)) : LinF n fun s => f (inN g s n) := by
  obtain ⟨c, b, hf⟩ := h.is hn
  refine IsLin.linF hn ?_
  refine (lin_in n g c b (fun v hv => (hg v hv).is hn) n (Nat.le_refl n)).congr fun s hs => hf _ (inN_lt g s n)
def DualF (n : Nat) (f : Nat → Bool) : Prop := ∀ s, s < 2 ^ n → f s = !f (2 ^ n - 1 - s)
theorem not_tb {n s i : Nat} (h : s < 2 ^ n) : (2 ^ n - 1 - s).testBit i = (decide (i < n) && !s.testBit i) := by
  rw [show 2 ^ n - 1 - s = 2 ^ n - (s + 1) by omega]
  exact Nat.testBit_two_pow_sub_succ h i
theorem in_not {n s : Nat} {g : Nat → Nat → Bool} (hs : s < 2 ^ n) (hg : ∀ v, v < n → DualF n (g v)) : inN g (2 ^ n - 1 - s) n = 2 ^ n - 1 - inN g s n := by
  apply Nat.eq_of_testBit_eq
  intro i
  rw [inN_bit, not_tb (inN_lt g s n), inN_bit]
  by_cases h : i < n
  · simp only [h, decide_true, Bool.true_and]
    have := hg i h s hs
    rw [this]
    simp
  · simp [h]
theorem DualF.put {n : Nat} {f : Nat → Bool} {g : Nat → Nat → Bool} (h : DualF n f) (hg : ∀ v, v < n → DualF n (g v)) : DualF n fun s => f (inN g s n) := by
  intro s hs
  show f (inN g s n) = !f (inN g (2 ^ n - 1 - s) n)
  rw [in_not hs hg]
  exact h _ (inN_lt g s n)
theorem in_none {n : Nat} {g : Nat → Nat → Bool} (hg : ∀ v, v < n → g v 0 = false) : inN g 0 n = 0 := by
  apply Nat.eq_of_testBit_eq
  intro i
  rw [inN_bit, Nat.zero_testBit]
  by_cases h : i < n
  · rw [hg i h, Bool.and_false]
  · simp [h]
theorem in_all {n : Nat} {g : Nat → Nat → Bool} (hg : ∀ v, v < n → g v (2 ^ n - 1) = true) : inN g (2 ^ n - 1) n = 2 ^ n - 1 := by
  apply Nat.eq_of_testBit_eq
  intro i
  rw [inN_bit, Nat.testBit_two_pow_sub_one]
  by_cases h : i < n
  · rw [hg i h, Bool.and_true]
  · simp [h]
end Go.Proofs.Ytjliabifaohfjaa
