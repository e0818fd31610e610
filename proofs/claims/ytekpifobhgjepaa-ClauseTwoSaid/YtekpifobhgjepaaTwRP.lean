/- Resolution is complete: plain law (Robinson; Davis, Putnam). -/
import Derived.Test.YtekpifobhgjepaaResolveP
import Derived.Test.YtekpifobhgjepaaHornP
namespace Go.Proofs.Ytekpifobhgjepaa
open Go
set_option linter.unusedVariables false

/-- the lowest bit -/
def lowB (x : BitVec 32) : Option Nat := (List.range 32).find? fun i => x.getLsbD i
/-- what two clauses make -/
def resO (a b : Ru) : Option Ru := (lowB (a.1 &&& b.2)).map (resAt a b)
def tautB (c : Ru) : Bool := c.1 &&& c.2 != 0#32
theorem lowB_none {x : BitVec 32} : lowB x = none ↔ x = 0#32 := by
  unfold lowB
  rw [List.find?_eq_none]
  constructor
  · intro h
    apply BitVec.eq_of_getLsbD_eq
    intro i hi
    have := h i (List.mem_range.2 hi)
    simp at this ⊢
    exact this
  · intro h i _
    subst h
    simp
theorem lowB_some {x : BitVec 32} {i : Nat} (h : lowB x = some i) : i < 32 ∧ x.getLsbD i = true := by
  unfold lowB at h
  have h1 := List.find?_some h
  have h2 := List.mem_of_find?_eq_some h
  exact ⟨List.mem_range.1 h2, h1⟩
/-- where just one bit is set it is the lowest -/
theorem lowB_only {x : BitVec 32} {k : Nat} (hk : k < 32) (h : x.getLsbD k = true) (hu : ∀ i, x.getLsbD i = true → i = k) : lowB x = some k := by
  cases hl : lowB x with
  | none => rw [lowB_none.1 hl] at h; simp at h
  | some i => rw [hu i (lowB_some hl).2]
def ClosedR (A : List Ru) : Prop := ∀ a ∈ A, ∀ b ∈ A, ∀ c, resO a b = some c → tautB c = false → c ∈ A
theorem tautB_no {c : Ru} (h : ∀ i, c.1.getLsbD i = true → c.2.getLsbD i = true → False) : tautB c = false := by
  unfold tautB
  cases hh : (c.1 &&& c.2 != 0#32) with
  | false => rfl
  | true =>
    obtain ⟨i, h1, h2⟩ := and_ne.1 hh
    exact (h i h1 h2).elim
theorem holdB_no {s : BitVec 32} {r : Ru} : holdB s r = false ↔ (∀ i, r.1.getLsbD i = true → s.getLsbD i = false) ∧ ∀ i, r.2.getLsbD i = true → s.getLsbD i = true := by
  constructor
  · intro h
    constructor
    · intro i hi
      cases hs : s.getLsbD i with
      | false => rfl
      | true => rw [holdB_iff.2 (.inl ⟨i, hi, hs⟩)] at h; cases h
    · intro i hi
      cases hs : s.getLsbD i with
      | true => rfl
      | false => rw [holdB_iff.2 (.inr ⟨i, hi, hs⟩)] at h; cases h
  · rintro ⟨h1, h2⟩
    cases hh : holdB s r with
    | false => rfl
    | true =>
      rcases holdB_iff.1 hh with ⟨i, a, b⟩ | ⟨i, a, b⟩
      · rw [h1 i a] at b; cases b
      · rw [h2 i a] at b; cases b
theorem bit_off {s : BitVec 32} {k i : Nat} (hk : k < 32) : (s ||| 1#32 <<< k).getLsbD i = (s.getLsbD i || decide (i = k)) := by
  rw [BitVec.getLsbD_or, getLsbD_bit]
  by_cases e : k = i
  · subst e; simp [hk]
  · have : ¬ i = k := fun h => e h.symm
    simp [e, this]
theorem res_bit1 {a b : Ru} {k i : Nat} (hk : k < 32) : (resAt a b k).1.getLsbD i = true ↔ (a.1.getLsbD i = true ∧ i ≠ k) ∨ b.1.getLsbD i = true := by
  unfold resAt
  simp only [BitVec.getLsbD_or, Bool.or_eq_true]
  rw [bit_andNot, getLsbD_bit]
  constructor
  · rintro (⟨h1, h2⟩ | h)
    · refine .inl ⟨h1, fun e => ?_⟩
      subst e
      simp [hk] at h2
    · exact .inr h
  · rintro (⟨h1, h2⟩ | h)
    · exact .inl ⟨h1, by have : ¬ k = i := fun e => h2 e.symm; simp [this]⟩
    · exact .inr h
theorem res_bit2 {a b : Ru} {k i : Nat} (hk : k < 32) : (resAt a b k).2.getLsbD i = true ↔ a.2.getLsbD i = true ∨ (b.2.getLsbD i = true ∧ i ≠ k) := by
  unfold resAt
  simp only [BitVec.getLsbD_or, Bool.or_eq_true]
  rw [bit_andNot, getLsbD_bit]
  constructor
  · rintro (h | ⟨h1, h2⟩)
    · exact .inl h
    · refine .inr ⟨h1, fun e => ?_⟩
      subst e
      simp [hk] at h2
  · rintro (h | ⟨h1, h2⟩)
    · exact .inl h
    · exact .inr ⟨h1, by have : ¬ k = i := fun e => h2 e.symm; simp [this]⟩
theorem complete {A : List Ru} {n : Nat} (hn : n ≤ 32) (hcl : ClosedR A) (hfit : ∀ r ∈ A, fitB n (r.1 ||| r.2) = true) (hemp : ((0#32, 0#32) : Ru) ∉ A) : ∃ s, fitB n s = true ∧ trueB A s = true := by
  have key : ∀ k, k ≤ n → ∃ s : BitVec 32, fitB k s = true ∧ ∀ r ∈ A, fitB k (r.1 ||| r.2) = true → holdB s r = true := by
    intro k
    induction k with
    | zero =>
      intro _
      refine ⟨0#32, fitB_zero 0, fun r hr hf => ?_⟩
      exfalso
      have h0 : r.1 ||| r.2 = 0#32 := by
        apply BitVec.eq_of_getLsbD_eq
        intro i _
        cases h : (r.1 ||| r.2).getLsbD i with
        | false => simp
        | true => have := fitB_iff.1 hf i h; omega
      have h1 : r.1 = 0#32 := by
        apply BitVec.eq_of_getLsbD_eq
        intro i hi
        have := congrArg (fun x : BitVec 32 => x.getLsbD i) h0
        simp at this ⊢
        exact this.1
      have h2 : r.2 = 0#32 := by
        apply BitVec.eq_of_getLsbD_eq
        intro i hi
        have := congrArg (fun x : BitVec 32 => x.getLsbD i) h0
        simp at this ⊢
        exact this.2
      exact hemp (by
        have : r = ((0#32, 0#32) : Ru) := Prod.ext h1 h2
        rw [← this]
        exact hr)
    | succ k ih =>
      intro hk
      obtain ⟨s, hs, hh⟩ := ih (by omega)
      have hk32 : k < 32 := by omega
      have skf : s.getLsbD k = false := by
        cases h : s.getLsbD k with
        | false => rfl
        | true => have := fitB_iff.1 hs k h; omega
      have vars : ∀ r : Ru, fitB (k + 1) (r.1 ||| r.2) = true → (∀ i, r.1.getLsbD i = true → i < k + 1) ∧ ∀ i, r.2.getLsbD i = true → i < k + 1 := fun r hr =>
        ⟨fun i hi => fitB_iff.1 hr i (by rw [BitVec.getLsbD_or, hi]; rfl), fun i hi => fitB_iff.1 hr i (by rw [BitVec.getLsbD_or, hi]; simp)⟩
      have small : ∀ r : Ru, fitB (k + 1) (r.1 ||| r.2) = true → r.1.getLsbD k = false → r.2.getLsbD k = false → fitB k (r.1 ||| r.2) = true := fun r hr h1 h2 => by
        rw [fitB_iff]
        intro i hi
        have h3 := fitB_iff.1 hr i hi
        by_cases e : i = k
        · subst e
          rw [BitVec.getLsbD_or, h1, h2] at hi
          cases hi
        · omega
      refine Classical.byContradiction fun hno => ?_
      have f0 : fitB (k + 1) s = true := fitB_iff.2 fun i hi => by have := fitB_iff.1 hs i hi; omega
      have f1 : fitB (k + 1) (s ||| 1#32 <<< k) = true := fitB_iff.2 fun i hi => by
        rw [bit_off hk32, Bool.or_eq_true, decide_eq_true_eq] at hi
        rcases hi with hi | hi
        · have := fitB_iff.1 hs i hi; omega
        · omega
      have n0 : ∃ r ∈ A, fitB (k + 1) (r.1 ||| r.2) = true ∧ holdB s r = false := by
        refine Classical.byContradiction fun h => hno ⟨s, f0, fun r hr hf => ?_⟩
        cases hb : holdB s r with
        | true => rfl
        | false => exact absurd ⟨r, hr, hf, hb⟩ h
      have n1 : ∃ r ∈ A, fitB (k + 1) (r.1 ||| r.2) = true ∧ holdB (s ||| 1#32 <<< k) r = false := by
        refine Classical.byContradiction fun h => hno ⟨_, f1, fun r hr hf => ?_⟩
        cases hb : holdB (s ||| 1#32 <<< k) r with
        | true => rfl
        | false => exact absurd ⟨r, hr, hf, hb⟩ h
      obtain ⟨a, ha, fa, na⟩ := n0
      obtain ⟨b, hb, fb, nb⟩ := n1
      obtain ⟨a1, a2⟩ := holdB_no.1 na
      obtain ⟨b1, b2⟩ := holdB_no.1 nb
      have b1' : ∀ i, b.1.getLsbD i = true → s.getLsbD i = false ∧ i ≠ k := fun i hi => by
        have := b1 i hi
        rw [bit_off hk32, Bool.or_eq_false_iff, decide_eq_false_iff_not] at this
        exact this
      have a2k : a.2.getLsbD k = false := by
        cases h : a.2.getLsbD k with
        | false => rfl
        | true => have := a2 k h; rw [skf] at this; cases this
      have b1k : b.1.getLsbD k = false := by
        cases h : b.1.getLsbD k with
        | false => rfl
        | true => exact absurd rfl (b1' k h).2
      have a1k : a.1.getLsbD k = true := by
        cases h : a.1.getLsbD k with
        | true => rfl
        | false => have := hh a ha (small a fa h a2k); rw [na] at this; cases this
      have b2k : b.2.getLsbD k = true := by
        cases h : b.2.getLsbD k with
        | true => rfl
        | false =>
          have h1 := hh b hb (small b fb b1k h)
          have h2 : holdB s b = false := holdB_no.2 ⟨fun i hi => (b1' i hi).1, fun i hi => by
            have := b2 i hi
            rw [bit_off hk32, Bool.or_eq_true, decide_eq_true_eq] at this
            rcases this with this | e
            · exact this
            · subst e; rw [h] at hi; cases hi⟩
          rw [h2] at h1; cases h1
      have hlow : lowB (a.1 &&& b.2) = some k := lowB_only hk32 (by rw [BitVec.getLsbD_and, a1k, b2k]; rfl) fun i hi => by
        rw [BitVec.getLsbD_and, Bool.and_eq_true] at hi
        have h1 := a1 i hi.1
        have h2 := b2 i hi.2
        rw [bit_off hk32, h1] at h2
        simpa using h2
      have hres : resO a b = some (resAt a b k) := by unfold resO; rw [hlow]; rfl
      have c1 : ∀ i, (resAt a b k).1.getLsbD i = true → s.getLsbD i = false ∧ i < k := fun i hi => by
        rcases (res_bit1 hk32).1 hi with ⟨h1, h2⟩ | h1
        · exact ⟨a1 i h1, by have := (vars a fa).1 i h1; omega⟩
        · have := b1' i h1
          exact ⟨this.1, by have := (vars b fb).1 i h1; omega⟩
      have c2 : ∀ i, (resAt a b k).2.getLsbD i = true → s.getLsbD i = true ∧ i < k := fun i hi => by
        rcases (res_bit2 hk32).1 hi with h1 | ⟨h1, h2⟩
        · have h3 := a2 i h1
          have : i ≠ k := fun e => by subst e; rw [skf] at h3; cases h3
          exact ⟨h3, by have := (vars a fa).2 i h1; omega⟩
        · have h3 := b2 i h1
          rw [bit_off hk32, Bool.or_eq_true, decide_eq_true_eq] at h3
          exact ⟨h3.resolve_right h2, by have := (vars b fb).2 i h1; omega⟩
      have hmem := hcl a ha b hb _ hres (tautB_no fun i h1 h2 => by
        have := (c1 i h1).1
        rw [(c2 i h2).1] at this
        cases this)
      have h1 := hh _ hmem (fitB_iff.2 fun i hi => by
        rw [BitVec.getLsbD_or, Bool.or_eq_true] at hi
        rcases hi with hi | hi
        · exact (c1 i hi).2
        · exact (c2 i hi).2)
      have h2 : holdB s (resAt a b k) = false := holdB_no.2 ⟨fun i hi => (c1 i hi).1, fun i hi => (c2 i hi).1⟩
      rw [h2] at h1
      cases h1
  obtain ⟨s, hs, hh⟩ := key n (Nat.le_refl _)
  exact ⟨s, hs, trueB_iff.2 fun r hr => hh r hr (hfit r hr)⟩
end Go.Proofs.Ytekpifobhgjepaa
