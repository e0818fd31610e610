/- Maps of sets of n things, as lists of words: plain facts, with no program in sight. -/
import Derived.Test.YtmdlfngdmlhpmaaOwn
namespace Go.Proofs.Ytmdlfngdmlhpmaa
open Go Go.RowKit

/-- a greater set goes to a greater one -/
def risesB (f : List (BitVec 32)) : Bool := (List.range f.length).all fun a => (List.range f.length).all fun b => !(a ||| b == b) || subB (nth f a) (nth f b)
/-- with one thing more -/
def stepsB (n : Nat) (f : List (BitVec 32)) : Bool := (List.range f.length).all fun s => (List.range n).all fun i => subB (nth f s) (nth f (s ||| 2 ^ i))
def mapF (n : Int) (f : List (BitVec 32)) : Int := if n < 1 ∨ 5 < n then 1 else if f.length ≠ 2 ^ n.toNat then 3 else if f.all (fitB n.toNat) then 0 else 4
theorem mapF_zero {n : Int} {f : List (BitVec 32)} (h : mapF n f = 0) : 1 ≤ n ∧ n ≤ 5 ∧ f.length = 2 ^ n.toNat ∧ f.all (fitB n.toNat) = true := by
  unfold mapF at h
  split at h
  · omega
  · split at h
    · omega
    · split at h
      · rename_i h1 h2 h3
        exact ⟨by omega, by omega, by simpa using h2, h3⟩
      · omega
theorem risesB_iff {f : List (BitVec 32)} : risesB f = true ↔ ∀ a b, a < f.length → b < f.length → a ||| b = b → subB (nth f a) (nth f b) = true := by
  unfold risesB
  rw [List.all_eq_true]
  constructor
  · intro h a b ha hb hab
    have h1 := h a (List.mem_range.2 ha)
    rw [List.all_eq_true] at h1
    have h2 := h1 b (List.mem_range.2 hb)
    simpa [hab] using h2
  · intro h a ha
    rw [List.all_eq_true]
    intro b hb
    rw [List.mem_range] at ha hb
    by_cases hab : a ||| b = b
    · rw [h a b ha hb hab, Bool.or_true]
    · simp [hab]
theorem stepsB_iff {n : Nat} {f : List (BitVec 32)} : stepsB n f = true ↔ ∀ s i, s < f.length → i < n → subB (nth f s) (nth f (s ||| 2 ^ i)) = true := by
  unfold stepsB
  rw [List.all_eq_true]
  constructor
  · intro h s i hs hi
    have h1 := h s (List.mem_range.2 hs)
    rw [List.all_eq_true] at h1
    exact h1 i (List.mem_range.2 hi)
  · intro h s hs
    rw [List.all_eq_true]
    intro i hi
    rw [List.mem_range] at hs hi
    exact h s i hs hi
theorem mod_succ (b j : Nat) : b % 2 ^ (j + 1) = b % 2 ^ j ||| (if b.testBit j then 2 ^ j else 0) := by
  apply Nat.eq_of_testBit_eq
  intro i
  rw [Nat.testBit_or, Nat.testBit_mod_two_pow, Nat.testBit_mod_two_pow]
  by_cases hb : b.testBit j
  · rw [if_pos hb, Nat.testBit_two_pow]
    by_cases h : i = j
    · subst h
      simp [hb]
    · have h1 : decide (j = i) = false := by simp; omega
      rw [h1, Bool.or_false]
      by_cases h2 : i < j
      · have h3 : i < j + 1 := by omega
        simp [h2, h3]
      · have h3 : ¬ i < j + 1 := by omega
        simp [h2, h3]
  · rw [if_neg hb, Nat.zero_testBit, Bool.or_false]
    by_cases h : i = j
    · subst h
      simp [hb]
    · by_cases h2 : i < j
      · have h3 : i < j + 1 := by omega
        simp [h2, h3]
      · have h3 : ¬ i < j + 1 := by omega
        simp [h2, h3]
theorem steps_rises {n : Nat} {f : List (BitVec 32)} (hl : f.length = 2 ^ n) : stepsB n f = risesB f := by
  rw [Bool.eq_iff_iff, stepsB_iff, risesB_iff, hl]
  constructor
  · intro h a b ha hb hab
    have key : ∀ j, j ≤ n → subB (nth f a) (nth f (a ||| b % 2 ^ j)) = true := by
      intro j
      induction j with
      | zero =>
        intro _
        rw [Nat.pow_zero, Nat.mod_one, Nat.or_zero]
        exact subB_refl _
      | succ j ih =>
        intro hj
        refine subB_trans (ih (by omega)) ?_
        rw [mod_succ, ← Nat.or_assoc]
        split
        · refine h _ j ?_ (by omega)
          exact Nat.or_lt_two_pow ha (Nat.lt_of_le_of_lt (Nat.mod_le _ _) hb)
        · rw [Nat.or_zero]
          exact subB_refl _
    have := key n (Nat.le_refl _)
    rw [Nat.mod_eq_of_lt hb, hab] at this
    exact this
  · intro h s i hs hi
    refine h s _ hs (Nat.or_lt_two_pow hs (Nat.pow_lt_pow_right (by omega) hi)) ?_
    rw [← Nat.or_assoc, Nat.or_self]

/-! ### going on from a set -/
theorem fit_toNat {n : Nat} (hn : n < 32) {x : BitVec 32} : fitB n x = true ↔ x.toNat < 2 ^ n := by
  rw [fitB_lt hn, decide_eq_true_eq, BitVec.lt_def, one_shl_toNat n hn]
def go1 (f : List (BitVec 32)) (t : BitVec 32) : BitVec 32 := nth f (wn t)
/-- f is a rising map of sets of n things -/
def MapOk (n : Nat) (f : List (BitVec 32)) : Prop := n < 32 ∧ f.length = 2 ^ n ∧ (∀ x ∈ f, fitB n x = true) ∧ ∀ a b, fitB n a = true → fitB n b = true → subB a b = true → subB (go1 f a) (go1 f b) = true
theorem mapOk {n : Nat} {f : List (BitVec 32)} (hn : n < 32) (hl : f.length = 2 ^ n) (hf : f.all (fitB n) = true) (hr : risesB f = true) : MapOk n f := by
  refine ⟨hn, hl, by simpa using hf, fun a b ha hb hab => ?_⟩
  rw [risesB_iff] at hr
  refine hr _ _ (by rw [hl]; exact (fit_toNat hn).1 ha) (by rw [hl]; exact (fit_toNat hn).1 hb) ?_
  unfold wn
  rw [← BitVec.toNat_or]
  unfold subB at hab
  rw [beq_iff_eq] at hab
  rw [hab]
theorem MapOk.fit {n : Nat} {f : List (BitVec 32)} (h : MapOk n f) {a : BitVec 32} (ha : fitB n a = true) : fitB n (go1 f a) = true := by
  have hlt : wn a < f.length := by rw [h.2.1]; exact (fit_toNat h.1).1 ha
  unfold go1
  rw [nth_eq _ _ hlt]
  exact h.2.2.1 _ (List.getElem_mem hlt)
/-- on the way up from nothing (up = true), or down from all -/
def FInv (up : Bool) (n : Nat) (f : List (BitVec 32)) (t : BitVec 32) : Prop :=
  fitB n t = true ∧ (if up then subB t (go1 f t) = true ∧ ∀ u, fitB n u = true → subB (go1 f u) u = true → subB t u = true
    else subB (go1 f t) t = true ∧ ∀ u, fitB n u = true → subB u (go1 f u) = true → subB u t = true)
theorem FInv.step {up : Bool} {n : Nat} {f : List (BitVec 32)} {t : BitVec 32} (hm : MapOk n f) (h : FInv up n f t) : FInv up n f (go1 f t) := by
  refine ⟨hm.fit h.1, ?_⟩
  cases up
  · obtain ⟨h1, h2, h3⟩ := h
    refine ⟨hm.2.2.2 _ _ (hm.fit h1) h1 h2, fun u hu hpre => ?_⟩
    exact subB_trans hpre (hm.2.2.2 _ _ hu h1 (h3 u hu hpre))
  · obtain ⟨h1, h2, h3⟩ := h
    refine ⟨hm.2.2.2 _ _ h1 (hm.fit h1) h2, fun u hu hpre => ?_⟩
    exact subB_trans (hm.2.2.2 _ _ h1 hu (h3 u hu hpre)) hpre
def fMeas (up : Bool) (t : Int) : Nat := if up then 4294967296 - t.toNat else t.toNat
theorem FInv.meas {up : Bool} {n : Nat} {f : List (BitVec 32)} {t : BitVec 32} (h : FInv up n f t) (hne : (go1 f t != t) = true) : fMeas up (W (go1 f t)) < fMeas up (W t) := by
  have hne' : go1 f t ≠ t := by simpa using hne
  unfold fMeas W
  have h1 := t.isLt
  have h2 := (go1 f t).isLt
  cases up
  · have := subB_lt h.2.1 hne'
    simpa using this
  · have := subB_lt h.2.1 (fun e => hne' e.symm)
    simp
    omega
theorem FInv.start_up {n : Nat} {f : List (BitVec 32)} : FInv true n f 0#32 := ⟨fitB_zero n, subB_zero _, fun _ _ _ => subB_zero _⟩
theorem fit_full {n : Nat} (hn : n < 32) : fitB n (1#32 <<< n - 1#32) = true := fitB_iff.2 fun i hi => by rw [full_bit n i hn, decide_eq_true_eq] at hi; exact hi
theorem sub_full {n : Nat} (hn : n < 32) {a : BitVec 32} (h : fitB n a = true) : subB a (1#32 <<< n - 1#32) = true := subB_iff.2 fun i hi => by rw [full_bit n i hn, decide_eq_true_eq]; exact fitB_iff.1 h i hi
theorem FInv.start_down {n : Nat} {f : List (BitVec 32)} (hm : MapOk n f) : FInv false n f (1#32 <<< n - 1#32) :=
  ⟨fit_full hm.1, sub_full hm.1 (hm.fit (fit_full hm.1)), fun _ hu _ => sub_full hm.1 hu⟩
end Go.Proofs.Ytmdlfngdmlhpmaa
