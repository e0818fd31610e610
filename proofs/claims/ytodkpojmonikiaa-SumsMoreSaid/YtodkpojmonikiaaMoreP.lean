/- One more question: plain facts. -/
import Derived.Test.YtodkpojmonikiaaToldP
namespace Go.Proofs.Ytodkpojmonikiaa
open Go
set_option linter.unusedVariables false

theorem rowsQ_congr {qs rs : List (BitVec 32)} : ∀ k, (∀ i, i < k → nth qs i = nth rs i) → rowsQ qs k = rowsQ rs k := by
  intro k
  induction k with
  | zero => intro _; rfl
  | succ k ih =>
    intro h
    show addQ (rowsQ qs k) k (nth qs k) = addQ (rowsQ rs k) k (nth rs k)
    rw [ih (fun i hi => h i (by omega)), h k (by omega)]
theorem nth_left (qs rs : List (BitVec 32)) {i : Nat} (h : i < qs.length) : nth (qs ++ rs) i = nth qs i := by
  rw [nth_eq _ _ (by simp; omega), nth_eq _ _ h, List.getElem_append_left h]
theorem nth_last (qs : List (BitVec 32)) (q : BitVec 32) : nth (qs ++ [q]) qs.length = q := by
  rw [nth_eq _ _ (by simp), List.getElem_append_right (Nat.le_refl _)]
  simp
theorem rowsM_snoc (qs : List (BitVec 32)) (q : BitVec 32) : rowsQ (qs ++ [q]) (qs.length + 1) = addQ (rowsQ qs qs.length) qs.length q := by
  show addQ (rowsQ (qs ++ [q]) qs.length) qs.length (nth (qs ++ [q]) qs.length) = _
  rw [rowsQ_congr (rs := qs) qs.length (fun i hi => nth_left qs [q] hi), nth_last]
theorem cut_fst (o : Ru) (q a b : BitVec 32) : (cut1 (q, a) o).1 = (cut1 (q, b) o).1 := by unfold cut1; split <;> rfl
theorem less_fst : ∀ (l : List Ru) (r s : Ru), r.1 = s.1 → (lessR l r).1 = (lessR l s).1 := by
  intro l
  induction l with
  | nil => intro r s h; exact h
  | cons o l ih =>
    intro r s h
    refine ih _ _ ?_
    obtain ⟨q, a⟩ := r
    obtain ⟨q2, b⟩ := s
    have h : q = q2 := h
    subst h
    exact cut_fst o q a b
section
variable {n : Nat} {qs : List (BitVec 32)} {q : BitVec 32}
theorem more_none (h : (lessR (rowsQ qs qs.length) (q, 0#32)).1 = 0#32) : rowsQ (qs ++ [q]) (qs.length + 1) = rowsQ qs qs.length := by
  rw [rowsM_snoc]
  unfold addQ
  rw [less_fst _ (q, 1#32 <<< qs.length) (q, 0#32) rfl, h]
  rfl
theorem more_some (hn : n ≤ 8) (hq : ∀ q ∈ qs, fitB n q = true) (hf : fitB n q = true) (h : (lessR (rowsQ qs qs.length) (q, 0#32)).1 ≠ 0#32) :
    (rowsQ (qs ++ [q]) (qs.length + 1)).length = (rowsQ qs qs.length).length + 1 ∧ subB (toldR (rowsQ qs qs.length)) (toldR (rowsQ (qs ++ [q]) (qs.length + 1))) = true := by
  have href := rowsQ_ref (n := n) (qs := qs) hn hq qs.length (Nat.le_refl _)
  rw [rowsM_snoc]
  rw [less_fst _ (q, 0#32) (q, 1#32 <<< qs.length) rfl] at h
  generalize rowsQ qs qs.length = l at h href ⊢
  unfold addQ
  have hne : ((lessR l (q, 1#32 <<< qs.length)).1 == 0#32) = false := by simpa using h
  obtain ⟨hx1, hx2⟩ := less_all (r := (q, 1#32 <<< qs.length)) href hn hf
  rw [hne]
  generalize lessR l (q, 1#32 <<< qs.length) = x at h hx1 hx2 ⊢
  simp only [Bool.false_eq_true, if_false]
  refine ⟨by rw [List.length_append, fixR_length]; rfl, ?_⟩
  rw [subB_iff]
  intro k hk
  obtain ⟨r, hr, h1, h2⟩ := toldR_bit.1 hk
  refine toldR_bit.2 ⟨r, ?_, h1, h2⟩
  obtain ⟨i, hi, rfl⟩ := List.getElem_of_mem hr
  have e := oneB_single (fit_eight hn (href.1 i hi).2) h1 h2
  obtain ⟨_, _, ht1, ht2⟩ := href.top hn hi
  have htk : topN l[i].1 = k := by
    rw [e, getLsbD_bit, Bool.and_eq_true, decide_eq_true_eq] at ht1
    rw [e]
    exact ht1.1.symm
  have hxk := hx2 i hi
  rw [htk] at hxk
  obtain ⟨_, _, hxt, _⟩ := top_spec (fit_eight hn hx1) h
  have hcut : cut1 l[i] x = l[i] := by
    unfold cut1
    have : l[i].1.getLsbD (topN x.1) = false := by
      rw [e, getLsbD_bit]
      have : ¬ k = topN x.1 := fun e2 => by rw [← e2, hxk] at hxt; cases hxt
      simp [this]
    rw [this]
    rfl
  rw [List.mem_append]
  left
  have hat : (fixR x l.length l)[i]'(by rw [fixR_length]; exact hi) = l[i] := by rw [fixR_at hi, if_pos hi, hcut]
  have := List.getElem_mem (l := fixR x l.length l) (n := i) (by rw [fixR_length]; exact hi)
  rw [hat] at this
  exact this
end
end Go.Proofs.Ytodkpojmonikiaa
