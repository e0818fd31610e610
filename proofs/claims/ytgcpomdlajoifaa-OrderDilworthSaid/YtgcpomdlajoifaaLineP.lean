/- Linear lists of an order: plain facts, with no program in sight. -/
import Derived.Test.YtgcpomdlajoifaaOrderP
namespace Go.Proofs.Ytgcpomdlajoifaa
open Go Go.RowKit

/-- l: things below n, none twice, none ahead of one that is under it -/
def IsLine (n : Nat) (ps : List Pr) (l : List Int) : Prop := (∀ x ∈ l, 0 ≤ x ∧ x < (n : Int)) ∧ l.Nodup ∧ l.Pairwise fun x y => under ps y x = false
/-- neighbours, as pairs: the first k -/
def chainTo (l : List Int) (k : Nat) : List Pr := (List.range k).map fun i => (l.getD i 0, l.getD (i + 1) 0)
theorem chainTo_succ (l : List Int) (k : Nat) : chainTo l (k + 1) = chainTo l k ++ [(l.getD k 0, l.getD (k + 1) 0)] := by simp [chainTo, List.range_succ]
theorem chainTo_length (l : List Int) (k : Nat) : (chainTo l k).length = k := by simp [chainTo]
theorem mem_chain {l : List Int} {k : Nat} {p : Pr} (h : p ∈ chainTo l k) : ∃ i, i < k ∧ p = (l.getD i 0, l.getD (i + 1) 0) := by
  unfold chainTo at h
  obtain ⟨i, hi, rfl⟩ := List.mem_map.1 h
  exact ⟨i, List.mem_range.1 hi, rfl⟩
theorem getD_eq {l : List Int} {i : Nat} (h : i < l.length) : l.getD i 0 = l[i] := by
  rw [List.getD_eq_getElem?_getD, List.getElem?_eq_getElem h]
  rfl
theorem chain_up {l : List Int} {k i : Nat} : ∀ d, i + d ≤ k → Reach (chainTo l k) (l.getD i 0) (l.getD (i + d) 0) := by
  intro d
  induction d with
  | zero => intro _; exact Reach.refl _
  | succ d ih =>
    intro h
    have hm : (l.getD (i + d) 0, l.getD (i + d + 1) 0) ∈ chainTo l k := List.mem_map.2 ⟨i + d, List.mem_range.2 (by omega), rfl⟩
    exact (ih (by omega)).step hm
theorem nodup_at {l : List Int} (hn : l.Nodup) {i j : Nat} (hi : i < l.length) (hj : j < l.length) (h : l.getD i 0 = l.getD j 0) : i = j := by
  rw [getD_eq hi, getD_eq hj] at h
  rcases Nat.lt_trichotomy i j with hlt | e | hlt
  · exact absurd h (List.pairwise_iff_getElem.1 hn i j hi hj hlt)
  · exact e
  · exact absurd h.symm (List.pairwise_iff_getElem.1 hn j i hj hi hlt)
theorem chain_down {l : List Int} (hn : l.Nodup) {k i : Nat} (hk : k + 1 = l.length) (hi : i < l.length) {y : Int} (h : Reach (chainTo l k) (l.getD i 0) y) : ∃ j, i ≤ j ∧ j < l.length ∧ y = l.getD j 0 := by
  refine h (fun z => ∃ j, i ≤ j ∧ j < l.length ∧ z = l.getD j 0) ⟨i, Nat.le_refl _, hi, rfl⟩ ?_
  rintro p hp ⟨j, hij, hj, e⟩
  obtain ⟨m, hm, rfl⟩ := mem_chain hp
  have : m = j := nodup_at hn (by omega) hj e
  subst this
  exact ⟨m + 1, by omega, by omega, rfl⟩
/-- each thing has its place -/
theorem line_has {n : Nat} {ps : List Pr} {l : List Int} (h : IsLine n ps l) (hl : l.length = n) (i : Nat) (hi : i < n) : ∃ a, a < l.length ∧ l.getD a 0 = (i : Int) := by
  have hmem : (i : Int) ∈ l := by
    refine Decidable.byContradiction fun hc => ?_
    have h1 := nodup_len ((i : Int) :: l) ((List.range n).map fun x : Nat => (x : Int)) (List.nodup_cons.2 ⟨hc, h.2.1⟩) (fun x hx => by
      rw [List.mem_cons] at hx
      rw [List.mem_map]
      rcases hx with rfl | hx
      · exact ⟨i, List.mem_range.2 hi, rfl⟩
      · obtain ⟨h2, h3⟩ := h.1 x hx
        obtain ⟨y, rfl⟩ := Int.eq_ofNat_of_zero_le h2
        exact ⟨y, List.mem_range.2 (by omega), rfl⟩)
    simp at h1
    omega
  obtain ⟨a, ha, e⟩ := List.getElem_of_mem hmem
  exact ⟨a, ha, by rw [getD_eq ha, e]⟩
theorem line_under {n : Nat} {ps : List Pr} {l : List Int} (h : IsLine n ps l) (hl : l.length = n) {k : Nat} (hk : k + 1 = n) {i j : Nat} (hi : i < n) (hj : j < n) (hu : under ps i j = true) : under (chainTo l k) i j = true := by
  obtain ⟨a, ha, ea⟩ := line_has h hl i hi
  obtain ⟨b, hb, eb⟩ := line_has h hl j hj
  rw [under_iff, ← ea, ← eb]
  by_cases hab : a ≤ b
  · have := chain_up (l := l) (k := k) (i := a) (b - a) (by omega)
    rwa [show a + (b - a) = b by omega] at this
  · have h3 := List.pairwise_iff_getElem.1 h.2.2 b a hb ha (by omega)
    rw [← getD_eq ha, ← getD_eq hb, ea, eb, hu] at h3
    cases h3
theorem chain_ord {n : Nat} {ps : List Pr} {l : List Int} (h : IsLine n ps l) (hl : l.length = n) {k : Nat} (hk : k + 1 = n) (hn : n ≤ 6) : ordF n (chainTo l k) = 0 := by
  have hr : (chainTo l k).all (prOk n) = true := by
    rw [List.all_eq_true]
    intro p hp
    obtain ⟨i, hi, rfl⟩ := mem_chain hp
    rw [prOk_iff, getD_eq (by omega : i < l.length), getD_eq (by omega : i + 1 < l.length)]
    exact ⟨h.1 _ (List.getElem_mem _), h.1 _ (List.getElem_mem _)⟩
  unfold ordF
  rw [if_neg (by rw [chainTo_length]; omega), hr, if_neg (by simp), if_neg]
  intro hc
  rw [List.any_eq_true] at hc
  obtain ⟨i, hi, hc⟩ := hc
  rw [List.any_eq_true] at hc
  obtain ⟨j, hj, hc⟩ := hc
  rw [List.mem_range] at hi hj
  unfold twin at hc
  rw [Bool.and_eq_true, under_iff, under_iff] at hc
  obtain ⟨a, ha, ea⟩ := line_has h hl i (by omega)
  obtain ⟨b, hb, eb⟩ := line_has h hl j (by omega)
  rw [← ea, ← eb] at hc
  obtain ⟨c, h1, h2, h3⟩ := chain_down h.2.1 (by omega) ha hc.1
  obtain ⟨d, h4, h5, h6⟩ := chain_down h.2.1 (by omega) hb hc.2
  have e1 := nodup_at h.2.1 hb h2 h3
  have e2 := nodup_at h.2.1 ha h5 h6
  have : a = b := by omega
  subst this
  rw [ea] at eb
  omega
end Go.Proofs.Ytgcpomdlajoifaa
