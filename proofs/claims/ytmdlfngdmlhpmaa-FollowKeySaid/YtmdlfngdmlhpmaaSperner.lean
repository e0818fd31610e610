/- Sperner's theorem for sets of at most six things: the sets fall into as many chains as there are sets of half of the things. -/
import Derived.Test.YtmdlfngdmlhpmaaSl
namespace Go.Proofs.Ytmdlfngdmlhpmaa

/-- of each set the chain that it lies in -/
def chainTab : List (List Nat) := [[0], [0, 0], [0, 0, 1, 0], [0, 0, 1, 0, 2, 2, 1, 0], [0, 0, 1, 0, 2, 2, 1, 0, 3, 3, 4, 3, 5, 2, 1, 0], [0, 0, 1, 0, 2, 2, 1, 0, 3, 3, 4, 3, 5, 2, 1, 0, 6, 6, 7, 6, 8, 8, 7, 6, 9, 9, 4, 3, 5, 2, 1, 0], [0, 0, 1, 0, 2, 2, 1, 0, 3, 3, 4, 3, 5, 2, 1, 0, 6, 6, 7, 6, 8, 8, 7, 6, 9, 9, 4, 3, 5, 2, 1, 0, 10, 10, 11, 10, 12, 12, 11, 10, 13, 13, 14, 13, 15, 12, 11, 10, 16, 16, 17, 16, 18, 8, 7, 6, 19, 9, 4, 3, 5, 2, 1, 0]]
def mostTab : List Nat := [1, 1, 2, 3, 6, 10, 20]
def chainOf (n s : Nat) : Nat := (chainTab.getD n []).getD s 0
def chainOk (n : Nat) : Bool := (List.range (2 ^ n)).all fun a => decide (chainOf n a < mostTab.getD n 0) && (List.range (2 ^ n)).all fun b => chainOf n a != chainOf n b || (a &&& b == a) || (a &&& b == b)
theorem chains_ok : (List.range 7).all chainOk = true := by decide +kernel

theorem nodup_bound : ∀ (m : Nat) (l : List Nat), l.Nodup → (∀ x ∈ l, x < m) → l.length ≤ m := by
  intro m
  induction m with
  | zero =>
    intro l _ h
    cases l with
    | nil => simp
    | cons a t => exact absurd (h a (by simp)) (by omega)
  | succ m ih =>
    intro l hl h
    have h1 := ih (l.filter fun x => x != m) (List.Pairwise.filter _ hl) (fun x hx => by
      rw [List.mem_filter] at hx
      have h2 := h x hx.1
      have h3 : x ≠ m := by simpa using hx.2
      omega)
    have h2 : l.length ≤ (l.filter fun x => x != m).length + 1 := by
      clear h1 h ih
      induction l with
      | nil => simp
      | cons a t iht =>
        rw [List.nodup_cons] at hl
        rw [List.filter_cons]
        by_cases e : a = m
        · subst e
          have : (t.filter fun x => x != a) = t := by
            rw [List.filter_eq_self]
            intro x hx
            simp
            intro e
            subst e
            exact hl.1 hx
          simp [this]
        · have h3 := iht hl.2
          simp [e]
          omega
    omega

/-- none within another one -/
def Anti (xs : List (BitVec 32)) : Prop := xs.Pairwise fun a b => subB a b = false ∧ subB b a = false
theorem sperner {n : Nat} (hn : n ≤ 6) {xs : List (BitVec 32)} (hf : ∀ x ∈ xs, fitB n x = true) (ha : Anti xs) : xs.length ≤ mostTab.getD n 0 := by
  have hok : chainOk n = true := by
    have := chains_ok
    rw [List.all_eq_true] at this
    exact this n (by simp; omega)
  unfold chainOk at hok
  rw [List.all_eq_true] at hok
  have hlt : ∀ x ∈ xs, x.toNat < 2 ^ n := by
    intro x hx
    have h := hf x hx
    unfold fitB at h
    rw [beq_iff_eq, ← BitVec.toNat_inj, BitVec.toNat_ushiftRight, Nat.shiftRight_eq_div_pow] at h
    have hp : 0 < 2 ^ n := Nat.pow_pos (by omega)
    have h2 : x.toNat / 2 ^ n = 0 := h
    exact (Nat.div_eq_zero_iff_lt hp).1 h2
  have h1 : (xs.map fun x => chainOf n x.toNat).length ≤ mostTab.getD n 0 := by
    refine nodup_bound _ _ ?_ ?_
    · unfold List.Nodup
      rw [List.pairwise_map]
      refine List.Pairwise.imp_of_mem ?_ ha
      intro a b hma hmb hab e
      have h2 := hok a.toNat (List.mem_range.2 (hlt a hma))
      rw [Bool.and_eq_true, List.all_eq_true] at h2
      have h3 := h2.2 b.toNat (List.mem_range.2 (hlt b hmb))
      rw [e] at h3
      simp only [bne_self_eq_false, Bool.false_or, Bool.or_eq_true, beq_iff_eq] at h3
      rw [← BitVec.toNat_and] at h3
      rcases h3 with h3 | h3
      · have h4 : a &&& b = a := BitVec.toNat_inj.1 h3
        have : subB a b = true := subB_iff.2 fun i hi => by rw [← h4, BitVec.getLsbD_and, Bool.and_eq_true] at hi; exact hi.2
        rw [hab.1] at this
        cases this
      · have h4 : a &&& b = b := BitVec.toNat_inj.1 h3
        have : subB b a = true := subB_iff.2 fun i hi => by rw [← h4, BitVec.getLsbD_and, Bool.and_eq_true] at hi; exact hi.1
        rw [hab.2] at this
        cases this
    · intro x hx
      obtain ⟨y, hy, rfl⟩ := List.mem_map.1 hx
      have h2 := hok y.toNat (List.mem_range.2 (hlt y hy))
      rw [Bool.and_eq_true] at h2
      simpa using h2.1
  simpa using h1
end Go.Proofs.Ytmdlfngdmlhpmaa
