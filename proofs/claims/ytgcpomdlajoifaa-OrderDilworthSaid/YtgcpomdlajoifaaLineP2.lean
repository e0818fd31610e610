/- How a line grows: plain facts, with no program in sight. -/
import Derived.Test.YtgcpomdlajoifaaLineP
namespace Go.Proofs.Ytgcpomdlajoifaa
open Go Go.RowKit

/-- is thing j no hindrance to i? -/
noncomputable def lets (ps : List Pr) (left : BitVec 32) (i j : Nat) : Bool := j == i || !left.getLsbD j || !under ps j i
noncomputable def freeTo (ps : List Pr) (left : BitVec 32) (i k : Nat) : Bool := left.getLsbD i && (List.range k).all (lets ps left i)
theorem freeTo_succ (ps : List Pr) (left : BitVec 32) (i k : Nat) : freeTo ps left i (k + 1) = (freeTo ps left i k && lets ps left i k) := by
  unfold freeTo
  rw [List.range_succ, List.all_append, Bool.and_assoc]
  simp
theorem freeTo_iff {ps : List Pr} {left : BitVec 32} {i n : Nat} : freeTo ps left i n = true ↔ left.getLsbD i = true ∧ ∀ j, j < n → left.getLsbD j = true → under ps j i = true → j = i := by
  unfold freeTo
  rw [Bool.and_eq_true, List.all_eq_true]
  constructor
  · rintro ⟨h1, h2⟩
    refine ⟨h1, fun j hj hl hu => ?_⟩
    have := h2 j (List.mem_range.2 hj)
    unfold lets at this
    rw [hl, hu] at this
    simpa using this
  · rintro ⟨h1, h2⟩
    refine ⟨h1, fun j hj => ?_⟩
    rw [List.mem_range] at hj
    unfold lets
    cases hl : left.getLsbD j
    · simp
    · cases hu : under ps j i
      · simp
      · simp [h2 j hj hl hu]
/-- the line so far, and what is left -/
def LInv (n : Nat) (ps : List Pr) (l : List Int) (left : BitVec 32) : Prop :=
  fitB n left = true ∧ (∀ j : Nat, j < n → (left.getLsbD j = true ↔ (j : Int) ∉ l)) ∧ IsLine n ps l ∧ ∀ x ∈ l, ∀ j : Nat, j < n → left.getLsbD j = true → under ps j x = false
theorem LInv.start (n : Nat) (hn : n < 32) (ps : List Pr) : LInv n ps [] (1#32 <<< n - 1#32) := by
  refine ⟨?_, fun j hj => ?_, ⟨by simp, by simp, by simp⟩, by simp⟩
  · rw [fitB_iff]
    intro i hi
    rw [full_bit n i hn] at hi
    simpa using hi
  · rw [full_bit n j hn]
    simp [hj]
theorem LInv.add {n : Nat} {ps : List Pr} {l : List Int} {left : BitVec 32} (h : LInv n ps l left) {i : Nat} (hi : i < n) (hn : n < 32) (hf : freeTo ps left i n = true) : LInv n ps (l ++ [(i : Int)]) (left &&& ~~~(1#32 <<< i)) := by
  obtain ⟨h1, h2, ⟨h3, h4, h5⟩, h6⟩ := h
  obtain ⟨f1, f2⟩ := freeTo_iff.1 hf
  have hbit : ∀ j, j < n → ((left &&& ~~~(1#32 <<< i)).getLsbD j = true ↔ left.getLsbD j = true ∧ j ≠ i) := by
    intro j hj
    rw [BitVec.getLsbD_and, BitVec.getLsbD_not, getLsbD_bit]
    have e : decide (j < 32) = true := by simp; omega
    rw [e]
    by_cases hij : i = j
    · subst hij
      simp
    · have : j ≠ i := fun h => hij h.symm
      simp [hij, this]
  have hnot : (i : Int) ∉ l := (h2 i hi).1 f1
  refine ⟨?_, fun j hj => ?_, ⟨?_, ?_, ?_⟩, ?_⟩
  · refine fitB_sub (subB_iff.2 fun j hj => ?_) h1
    rw [BitVec.getLsbD_and, Bool.and_eq_true] at hj
    exact hj.1
  · rw [hbit j hj, h2 j hj, List.mem_append, List.mem_singleton]
    constructor
    · rintro ⟨a, b⟩ (c | c)
      · exact a c
      · omega
    · intro hc
      exact ⟨fun a => hc (.inl a), fun e => hc (.inr (by rw [e]))⟩
  · intro x hx
    rw [List.mem_append, List.mem_singleton] at hx
    rcases hx with hx | rfl
    · exact h3 x hx
    · omega
  · rw [List.nodup_append]
    refine ⟨h4, by simp, ?_⟩
    intro x hx y hy e
    rw [List.mem_singleton] at hy
    subst hy e
    exact hnot hx
  · rw [List.pairwise_append]
    refine ⟨h5, by simp, ?_⟩
    intro x hx y hy
    rw [List.mem_singleton] at hy
    subst hy
    exact h6 x hx i hi f1
  · intro x hx j hj hl
    obtain ⟨hl1, hl2⟩ := (hbit j hj).1 hl
    rw [List.mem_append, List.mem_singleton] at hx
    rcases hx with hx | rfl
    · exact h6 x hx j hj hl1
    · cases hu : under ps j i
      · rfl
      · exact absurd (f2 j hj hl1 hu) hl2
theorem LInv.done {n : Nat} {ps : List Pr} {l : List Int} (h : LInv n ps l 0#32) : l.length = n := by
  obtain ⟨_, h2, ⟨h3, h4, _⟩, _⟩ := h
  have e1 := nodup_len l ((List.range n).map fun x : Nat => (x : Int)) h4 (fun x hx => by
    obtain ⟨a, b⟩ := h3 x hx
    obtain ⟨y, rfl⟩ := Int.eq_ofNat_of_zero_le a
    exact List.mem_map.2 ⟨y, List.mem_range.2 (by omega), rfl⟩)
  have hnd : ((List.range n).map fun x : Nat => (x : Int)).Nodup := by
    unfold List.Nodup
    rw [List.pairwise_map]
    exact List.nodup_range.imp fun hne e => hne (by omega)
  have e2 := nodup_len _ l hnd (fun x hx => by
    obtain ⟨j, hj, rfl⟩ := List.mem_map.1 hx
    rw [List.mem_range] at hj
    refine Decidable.byContradiction fun hc => ?_
    have := (h2 j hj).2 hc
    simp at this)
  simp at e1 e2
  omega
theorem filter_sub {α : Type} (p q : α → Bool) (h : ∀ x, p x = true → q x = true) : ∀ l : List α, (l.filter p).Sublist (l.filter q) := by
  intro l
  induction l with
  | nil => exact List.Sublist.refl _
  | cons a l ih =>
    rw [List.filter_cons, List.filter_cons]
    cases hp : p a
    · cases hq : q a
      · simpa using ih
      · simpa using ih.cons a
    · rw [h a hp]
      simpa using ih
/-- there is a free one, as long as one is left -/
theorem free_some {n : Nat} {ps : List Pr} (hanti : ∀ i j : Nat, (i : Int) < (n : Int) → (j : Int) < (n : Int) → under ps i j = true → under ps j i = true → i = j) (left : BitVec 32) :
    ∀ k i : Nat, i < n → left.getLsbD i = true → ((List.range n).filter fun j : Nat => under ps j i).length ≤ k → ∃ m, m < n ∧ freeTo ps left m n = true := by
  intro k
  induction k with
  | zero =>
    intro i hi _ hk
    exfalso
    have : i ∈ (List.range n).filter fun j : Nat => under ps j i := List.mem_filter.2 ⟨List.mem_range.2 hi, under_iff.2 (Reach.refl _)⟩
    have := List.length_pos_of_mem this
    omega
  | succ k ih =>
    intro i hi hl hk
    by_cases hf : freeTo ps left i n = true
    · exact ⟨i, hi, hf⟩
    · have : ∃ j, j < n ∧ left.getLsbD j = true ∧ under ps j i = true ∧ j ≠ i := by
        refine Decidable.byContradiction fun hc => hf (freeTo_iff.2 ⟨hl, fun j hj h1 h2 => ?_⟩)
        exact Decidable.byContradiction fun hne => hc ⟨j, hj, h1, h2, hne⟩
      obtain ⟨j, hj, h1, h2, hne⟩ := this
      refine ih j hj h1 ?_
      have hlt : ((List.range n).filter fun x : Nat => under ps x j).length < ((List.range n).filter fun x : Nat => under ps x i).length := by
        have hsub : ((List.range n).filter fun x : Nat => under ps x j).Sublist (((List.range n).filter fun x : Nat => under ps x i).filter fun x => x != i) := by
          rw [List.filter_filter]
          refine filter_sub _ _ (fun x hx => ?_) _
          have hxi : under ps x i = true := under_iff.2 ((under_iff.1 hx).trans (under_iff.1 h2))
          have hxn : x ≠ i := by
            rintro rfl
            exact hne (hanti j x (by omega) (by omega) h2 hx)
          simp [hxi, hxn]
        have h4 := hsub.length_le
        have h5 : (((List.range n).filter fun x : Nat => under ps x i).filter fun x => x != i).length < ((List.range n).filter fun x : Nat => under ps x i).length := by
          rw [List.length_filter_lt_length_iff_exists]
          exact ⟨i, List.mem_filter.2 ⟨List.mem_range.2 hi, under_iff.2 (Reach.refl _)⟩, by simp⟩
        omega
      omega
end Go.Proofs.Ytgcpomdlajoifaa
