/- A set apart that is as great as there are chains has one of each: plain law (Dilworth). -/
import Derived.Test.YtgcpomdlajoifaaDilS
namespace Go.Proofs.Ytgcpomdlajoifaa
open Go Go.RowKit
set_option linter.unusedVariables false

theorem hit_all {p q : Nat → Bool} (n : Nat) (g : Nat → Nat) (hg : ∀ v, v < n → p v = true → g v < n ∧ q (g v) = true) (hi : ∀ u v, u < n → v < n → p u = true → p v = true → g u = g v → u = v) (hc : ((List.range n).filter q).length ≤ ((List.range n).filter p).length) : ∀ r, r < n → q r = true → ∃ v, v < n ∧ p v = true ∧ g v = r := by
  intro r hr hq
  refine Classical.byContradiction fun hno => ?_
  have h1 := len_of_inj (p := p) (q := fun v => q v && !(v == r)) n g (fun v hv hp => by
    obtain ⟨a, b⟩ := hg v hv hp
    refine ⟨a, ?_⟩
    have : (g v == r) = false := by
      rw [beq_eq_false_iff_ne]
      exact fun e => hno ⟨v, hv, hp, e⟩
    rw [b, this]
    rfl) hi
  have h2 : ((List.range n).filter fun v => q v && !(v == r)).length < ((List.range n).filter q).length := by
    have e : ((List.range n).filter fun v => q v && !(v == r)) = ((List.range n).filter q).filter fun v => !(v == r) := by
      rw [List.filter_filter]
      apply List.filter_congr
      intro x _
      exact Bool.and_comm _ _
    rw [e]
    rw [List.length_filter_lt_length_iff_exists]
    exact ⟨r, List.mem_filter.2 ⟨List.mem_range.2 hr, hq⟩, by simp⟩
  omega
theorem bits_range {n : Nat} {s : BitVec 32} (hn : n ≤ 32) (hf : fitB n s = true) : bitsN s 32 = ((List.range n).filter fun i => s.getLsbD i).length := by
  have key : ∀ k, bitsN s k = ((List.range k).filter fun i => s.getLsbD i).length := by
    intro k
    induction k with
    | zero => rfl
    | succ k ih =>
      show bitsN s k + (if s.getLsbD k then 1 else 0) = _
      rw [ih, List.range_succ, List.filter_append, List.length_append]
      congr 1
      cases h : s.getLsbD k <;> simp [h]
  rw [key, ← filter_range_le (fun i => s.getLsbD i) n 32 hn]
  congr 1
  apply List.filter_congr
  intro i _
  cases h : s.getLsbD i with
  | false => simp
  | true =>
    have := fitB_iff.1 hf i h
    simp [this]
/-- one of each chain -/
theorem KInv.each {n : Nat} {ps : List Pr} {last : Ls} {S : Nat → Prop} (hn : n ≤ 6) (hanti : ∀ i j : Nat, (i : Int) < (n : Int) → (j : Int) < (n : Int) → under ps i j = true → under ps j i = true → i = j) (h : KInv (ov ps) n last n S) :
    bitsN (apartS n ps) 32 = ((List.range n).filter (headB last)).length ∧ ∀ r, r < n → last r < 0 → ∃ v, v < n ∧ (apartS n ps).getLsbD v = true ∧ upN last n v = r ∧ ∀ u, u < n → (apartS n ps).getLsbD u = true → upN last n u = r → u = v := by
  have hm : MatO n ps last := ⟨h.ok, h.inj⟩
  have hfit : fitB n (apartS n ps) = true := bestF_lt hn _ (Nat.le_refl _)
  have hfree : freeF n ps (apartS n ps) = true := bestF_free (by
    rw [freeF_iff]
    intro i j _ _ si
    simp at si) _
  have hfr := freeF_iff.1 hfree
  have hcnt : ∀ v, cntU n ps v ≤ n := fun v => by
    unfold cntU
    have := List.length_filter_le (fun u => ov ps u v) (List.range n)
    simpa using this
  have hg : ∀ v, v < n → (apartS n ps).getLsbD v = true → upN last n v < n ∧ headB last (upN last n v) = true := fun v hv _ => ⟨(hm.upK n v hv).1, by unfold headB; rw [decide_eq_true_eq]; exact hm.root hanti n v hv (hcnt v)⟩
  have hi : ∀ u v, u < n → v < n → (apartS n ps).getLsbD u = true → (apartS n ps).getLsbD v = true → upN last n u = upN last n v → u = v := fun u v hu hv su sv e => hm.one hu hv e (fun i j hi hj ei ej hij => hfr i j hi hj (by rcases ei with rfl | rfl <;> assumption) (by rcases ej with rfl | rfl <;> assumption) hij)
  have h1 := h.apart hn
  have h2 := bits_range (by omega) hfit
  have h3 := len_of_inj (p := fun i => (apartS n ps).getLsbD i) (q := headB last) n (upN last n) hg hi
  refine ⟨by omega, fun r hr hl => ?_⟩
  obtain ⟨v, hv, sv, e⟩ := hit_all (p := fun i => (apartS n ps).getLsbD i) (q := headB last) n (upN last n) hg hi (by omega) r hr (by unfold headB; rw [decide_eq_true_eq]; exact hl)
  exact ⟨v, hv, sv, e, fun u hu su e2 => hi u v hu hv su sv (e2.trans e.symm)⟩
end Go.Proofs.Ytgcpomdlajoifaa
