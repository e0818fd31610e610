/- Raising comes to an end: plain laws. -/
import Derived.Test.YtnnddjanbfamkaaFlowP
import Derived.Test.YtnnddjanbfamkaaLabel
namespace Go.Proofs.Ytnnddjanbfamkaa
open Go
set_option linter.unusedVariables false

theorem updLb_same (lab : Nat → Lab) (i : Nat) (x : Lab) : updLb lab i x i = x := by unfold updLb; rw [if_pos rfl]
theorem updLb_other {lab : Nat → Lab} {i j : Nat} {x : Lab} (h : j ≠ i) : updLb lab i x j = lab j := by unfold updLb; rw [if_neg h]
theorem joinL_ok {a b : Lab} (ha : labOk a = true) (hb : labOk b = true) : labOk (joinL a b) = true := by
  obtain ⟨al, ap⟩ := a
  obtain ⟨bl, bp⟩ := b
  rw [labOk_iff] at ha hb
  unfold joinL
  rw [labOk_iff]
  refine ⟨?_, ?_, ?_⟩
  · show 0 ≤ max al bl; omega
  · show max al bl ≤ 3; omega
  · rw [fitB_or, ha.2.2, hb.2.2]; rfl
theorem ofL_ok {n : Int} {lab : Nat → Lab} {c : Lab} {i : Int} (hl : ∀ j : Nat, (j : Int) < n → labOk (lab j) = true) (hc : labOk c = true) (hi : i < 0 ∨ i < n) : labOk (ofL lab c i) = true := by
  unfold ofL
  by_cases h : i < 0
  · rw [if_pos h]; exact hc
  · rw [if_neg h]; exact joinL_ok hc (hl _ (by omega))
/-- nothing is raised outside, and what may be a label stays one -/
def KeepN (n : Int) (s s' : Nat → Lab) : Prop := (∀ j : Nat, n ≤ (j : Int) → s' j = s j) ∧ ((∀ j : Nat, (j : Int) < n → labOk (s j) = true) → ∀ j : Nat, (j : Int) < n → labOk (s' j) = true)
theorem KeepN.refl (n : Int) (s : Nat → Lab) : KeepN n s s := ⟨fun _ _ => rfl, fun h => h⟩
theorem KeepN.trans {n : Int} {s t u : Nat → Lab} (h : KeepN n s t) (k : KeepN n t u) : KeepN n s u := ⟨fun j hj => (k.1 j hj).trans (h.1 j hj), fun hs => k.2 (h.2 hs)⟩
theorem rsG_keep {n : Int} : ∀ (p : Ln) (c : Lab) (s : Bool × (Nat → Lab)), lnF n p = 0 → labOk c = true → (∀ j : Nat, (j : Int) < n → labOk (s.2 j) = true) → KeepN n s.2 (rsG p c s).2 := by
  intro p
  induction p with
  | nil => intro c s _ _ _; exact KeepN.refl _ _
  | cons k t a b v bA bc body eA ec els rest ihb ihe ihr =>
    intro c s hln hc hs
    obtain ⟨hk3, harg, l1, l2, l3⟩ := lnF_zero hln
    show KeepN n s.2 (rsG rest c (stepS (fun l c => rsG body c (true, l)) (fun l c => rsG els c (true, l)) k t a b c s)).2
    have hstep : KeepN n s.2 (stepS (fun l c => rsG body c (true, l)) (fun l c => rsG els c (true, l)) k t a b c s).2 := by
      unfold stepS
      by_cases hk : k = 1
      · rw [if_pos hk]
        have ha := argB_set harg hk
        split
        · exact KeepN.refl _ _
        · refine ⟨fun j hj => updLb_other (by omega), fun _ j hj => ?_⟩
          show labOk (updLb s.2 t.toNat _ j) = true
          by_cases e : j = t.toNat
          · subst e
            rw [updLb_same]
            exact joinL_ok (hs _ hj) (joinL_ok (ofL_ok hs hc (by omega)) (ofL_ok hs hc (by omega)))
          · rw [updLb_other e]; exact hs j hj
      · rw [if_neg hk]
        have ha := argB_other harg hk
        have ho : labOk (ofL s.2 c a) = true := ofL_ok hs hc (by omega)
        have h1 := ihb (ofL s.2 c a) (true, s.2) l1 ho hs
        split
        · exact h1.trans (ihe (ofL s.2 c a) (true, _) l2 ho (h1.2 hs))
        · exact h1
    exact hstep.trans (ihr c _ l3 hc (hstep.2 hs))
/-- how high labels are, all together -/
def rkL (lab : Nat → Lab) : Nat → Nat
  | 0 => 0
  | i + 1 => rkL lab i + ((lab i).1.toNat * 32 + (lab i).2.toNat)
theorem rkL_le {lab : Nat → Lab} : ∀ n, (∀ j, j < n → labOk (lab j) = true) → rkL lab n ≤ n * 127 := by
  intro n
  induction n with
  | zero => intro _; exact Nat.le_refl _
  | succ n ih =>
    intro h
    have h1 := ih fun j hj => h j (by omega)
    have h2 := h n (by omega)
    obtain ⟨⟨l, q⟩, hq⟩ : ∃ x, lab n = x := ⟨_, rfl⟩
    rw [hq, labOk_iff] at h2
    have h3 : q.toNat < 32 := by
      have := h2.2.2
      rw [fitB_lt (by omega), decide_eq_true_eq, BitVec.lt_def] at this
      simpa using this
    show rkL lab n + ((lab n).1.toNat * 32 + (lab n).2.toNat) ≤ (n + 1) * 127
    rw [hq]
    simp only
    omega
theorem one_le {a b : Lab} (h : leB a b = true) (ha : 0 ≤ a.1) : a.1.toNat * 32 + a.2.toNat ≤ b.1.toNat * 32 + b.2.toNat := by
  have h1 := leB_iff.1 h
  have h2 := subB_le h1.2
  omega
theorem one_lt {a b : Lab} (h : leB a b = true) (ha : 0 ≤ a.1) (hn : leB b a = false) : a.1.toNat * 32 + a.2.toNat < b.1.toNat * 32 + b.2.toNat := by
  have h1 := leB_iff.1 h
  have h2 := subB_le h1.2
  by_cases e : a.2 = b.2
  · have h3 : ¬ b.1 ≤ a.1 := fun h3 => by
      have : leB b a = true := leB_iff.2 ⟨h3, by rw [e]; exact subB_refl _⟩
      rw [this] at hn
      cases hn
    omega
  · have := subB_lt h1.2 e
    omega
theorem rkL_mono {l m : Nat → Lab} (h : LeL l m) : ∀ n, (∀ j, j < n → 0 ≤ (l j).1) → rkL l n ≤ rkL m n := by
  intro n
  induction n with
  | zero => intro _; exact Nat.le_refl _
  | succ n ih =>
    intro hp
    have h1 := ih fun j hj => hp j (by omega)
    have h2 := one_le (h n) (hp n (by omega))
    show rkL l n + _ ≤ rkL m n + _
    omega
theorem rkL_lt {l m : Nat → Lab} (h : LeL l m) : ∀ n, (∀ j, j < n → 0 ≤ (l j).1) → (∃ i, i < n ∧ leB (m i) (l i) = false) → rkL l n < rkL m n := by
  intro n
  induction n with
  | zero => intro _ ⟨i, hi, _⟩; omega
  | succ n ih =>
    intro hp ⟨i, hi, hb⟩
    have h2 := one_le (h n) (hp n (by omega))
    show rkL l n + _ < rkL m n + _
    by_cases e : i = n
    · subst e
      have h1 := rkL_mono h i fun j hj => hp j (by omega)
      have h3 := one_lt (h i) (hp i (by omega)) hb
      omega
    · have h1 := ih (fun j hj => hp j (by omega)) ⟨i, by omega, hb⟩
      omega
def lab0 : Lab := (0, 0#32)
theorem lab0_ok : labOk lab0 = true := by
  unfold lab0
  rw [labOk_iff]
  exact ⟨by omega, by omega, fitB_zero 5⟩
/-- what the loop of Raise keeps -/
structure RsI (n : Nat) (p : Ln) (l0 l : Nat → Lab) : Prop where
  ge : LeL l0 l
  ok : ∀ j : Nat, (j : Int) < (n : Int) → labOk (l j) = true
  least : ∀ more, clP more p lab0 → LeL l0 more → LeL l more
  out : ∀ j : Nat, (n : Int) ≤ (j : Int) → l j = l0 j
section
variable {n : Nat} {p : Ln} {l0 l : Nat → Lab}
theorem RsI.start (h : ∀ j : Nat, (j : Int) < (n : Int) → labOk (l0 j) = true) : RsI n p l0 l0 := ⟨LeL.refl _, h, fun _ _ h => h, fun _ _ => rfl⟩
theorem RsI.step (h : RsI n p l0 l) (hln : lnF (n : Int) p = 0) : RsI n p l0 (rsL p l lab0).2 :=
  ⟨h.ge.trans (rsG_ge p lab0 (true, l)), (rsG_keep p lab0 (true, l) hln lab0_ok h.ok).2 h.ok, fun more hc hm => rsG_least p lab0 lab0 (true, l) hc (leB_refl _) (h.least more hc hm), fun j hj => ((rsG_keep p lab0 (true, l) hln lab0_ok h.ok).1 j hj).trans (h.out j hj)⟩
theorem RsI.less (h : RsI n p l0 l) (hln : lnF (n : Int) p = 0) (hf : (rsL p l lab0).1 = false) : rkL l n < rkL (rsL p l lab0).2 n := by
  have hk := rsG_keep p lab0 (true, l) hln lab0_ok h.ok
  refine rkL_lt (rsG_ge p lab0 (true, l)) n (fun j hj => ?_) ?_
  · have := h.ok j (by omega)
    obtain ⟨⟨x, y⟩, hq⟩ : ∃ z, l j = z := ⟨_, rfl⟩
    show 0 ≤ (l j).1
    rw [hq] at this ⊢
    rw [labOk_iff] at this
    exact this.1
  · rcases rsG_raised p lab0 (true, l) hf with h1 | ⟨i, hi⟩
    · cases h1
    · refine ⟨i, ?_, hi⟩
      rcases Nat.lt_or_ge i n with hlt | hge
      · exact hlt
      · have e := hk.1 i (by omega)
        rw [e, leB_refl] at hi
        cases hi
theorem RsI.small (h : RsI n p l0 l) : rkL l n ≤ n * 127 := rkL_le n fun j hj => h.ok j (by omega)
end
end Go.Proofs.Ytnnddjanbfamkaa
