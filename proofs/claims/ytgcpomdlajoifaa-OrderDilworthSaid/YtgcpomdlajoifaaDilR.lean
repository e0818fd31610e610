/- Koenig's set is great enough: plain law. -/
import Derived.Test.YtgcpomdlajoifaaDilQ
namespace Go.Proofs.Ytgcpomdlajoifaa
open Go Go.RowKit
set_option linter.unusedVariables false

theorem len_of_inj {p q : Nat → Bool} (n : Nat) (g : Nat → Nat) (hg : ∀ v, v < n → p v = true → g v < n ∧ q (g v) = true) (hi : ∀ u v, u < n → v < n → p u = true → p v = true → g u = g v → u = v) : ((List.range n).filter p).length ≤ ((List.range n).filter q).length := by
  have h1 : (((List.range n).filter p).map fun v => ((g v : Nat) : Int)).Nodup := by
    unfold List.Nodup
    rw [List.pairwise_map]
    refine List.Pairwise.imp_of_mem ?_ (List.Pairwise.filter p (List.pairwise_lt_range (n := n)))
    intro a b ha hb hab e
    rw [List.mem_filter, List.mem_range] at ha hb
    have := hi a b ha.1 hb.1 ha.2 hb.2 (by omega)
    omega
  have h2 := nodup_len _ (((List.range n).filter q).map fun v : Nat => (v : Int)) h1 (fun x hx => by
    obtain ⟨v, hv, rfl⟩ := List.mem_map.1 hx
    rw [List.mem_filter, List.mem_range] at hv
    obtain ⟨a, b⟩ := hg v hv.1 hv.2
    exact List.mem_map.2 ⟨g v, List.mem_filter.2 ⟨List.mem_range.2 a, b⟩, rfl⟩)
  simpa using h2
theorem len_split (p : Nat → Bool) (n : Nat) : ((List.range n).filter p).length + ((List.range n).filter fun v => !p v).length = n := by
  induction n with
  | zero => rfl
  | succ n ih =>
    rw [List.range_succ, List.filter_append, List.filter_append, List.length_append, List.length_append]
    cases h : p n <;> simp [h] <;> omega
open Classical in
noncomputable def kset (E : Nat → Nat → Bool) (n : Nat) (S : Nat → Prop) (v : Nat) : Bool := decide (KSet E n S v)
theorem kset_iff {E : Nat → Nat → Bool} {n : Nat} {S : Nat → Prop} {v : Nat} : kset E n S v = true ↔ KSet E n S v := by
  unfold kset
  exact @decide_eq_true_iff _ (_)
/-- nobody goes on to it -/
def headB (last : Ls) (j : Nat) : Bool := decide (last j < 0)
theorem KInv.many {E : Nat → Nat → Bool} {n : Nat} {last : Ls} {S : Nat → Prop} (h : KInv E n last n S) : ((List.range n).filter (headB last)).length ≤ ((List.range n).filter (kset E n S)).length := by
  have hc : ∀ v, v < n → kset E n S v = false → ∃ j, j < n ∧ 0 ≤ last j ∧ ((S v ∧ j = v) ∨ (¬ S v ∧ ¬ S j ∧ last j = (v : Int))) := fun v hv hk => h.other hv (fun hh => by rw [kset_iff.2 hh] at hk; cases hk)
  have : ∀ v, ∃ j, v < n → kset E n S v = false → j < n ∧ 0 ≤ last j ∧ ((S v ∧ j = v) ∨ (¬ S v ∧ ¬ S j ∧ last j = (v : Int))) := fun v => by
    by_cases hv : v < n ∧ kset E n S v = false
    · obtain ⟨j, hj⟩ := hc v hv.1 hv.2
      exact ⟨j, fun _ _ => hj⟩
    · exact ⟨0, fun h1 h2 => absurd ⟨h1, h2⟩ hv⟩
  obtain ⟨g, hg⟩ := Classical.axiomOfChoice this
  have hle := len_of_inj (p := fun v => !kset E n S v) (q := fun j => !headB last j) n g (fun v hv hk => by
    obtain ⟨a, b, _⟩ := hg v hv (by simpa using hk)
    refine ⟨a, ?_⟩
    unfold headB
    have : decide (last (g v) < 0) = false := by rw [decide_eq_false_iff_not]; omega
    rw [this]
    rfl) (fun u v hu hv pu pv e => by
    obtain ⟨_, _, a⟩ := hg u hu (by simpa using pu)
    obtain ⟨_, _, b⟩ := hg v hv (by simpa using pv)
    rcases a with ⟨a1, a2⟩ | ⟨a1, a2, a3⟩
    · rcases b with ⟨b1, b2⟩ | ⟨b1, b2, b3⟩
      · omega
      · exfalso
        apply b2
        rw [← e, a2]
        exact a1
    · rcases b with ⟨b1, b2⟩ | ⟨b1, b2, b3⟩
      · exfalso
        apply a2
        rw [e, b2]
        exact b1
      · rw [e] at a3
        omega)
  have h1 := len_split (kset E n S) n
  have h2 := len_split (headB last) n
  omega
/-- as many are apart as there are heads -/
theorem KInv.apart {n : Nat} {ps : List Pr} {last : Ls} {S : Nat → Prop} (hn : n ≤ 6) (h : KInv (ov ps) n last n S) : ((List.range n).filter (headB last)).length ≤ bitsN (apartS n ps) 32 := by
  have h3 := apart_ge (ps := ps) hn (s := wordN n (kset (ov ps) n S)) (wordN_fit n _ (by omega)) (by
    rw [freeF_iff]
    intro i j hi hj si sj hu
    rw [wordN_bit _ _ (by omega), Bool.and_eq_true] at si sj
    refine Decidable.byContradiction fun hne => ?_
    have := (kset_iff.1 si.2).free (kset_iff.1 sj.2) hj
    rw [ov_iff.2 ⟨fun e => hne e.symm, hu⟩] at this
    cases this)
  rw [bits_wordN _ (by omega), filter_range_le _ n 32 (by omega)] at h3
  exact Nat.le_trans h.many h3
end Go.Proofs.Ytgcpomdlajoifaa
