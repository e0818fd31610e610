/- Each thing lies in one chain: plain law. -/
import Derived.Test.YtgcpomdlajoifaaDilR
namespace Go.Proofs.Ytgcpomdlajoifaa
open Go Go.RowKit
set_option linter.unusedVariables false

/-- who goes on to it, or itself -/
def up1 (last : Ls) (v : Nat) : Nat := if last v < 0 then v else (last v).toNat
def upN (last : Ls) : Nat → Nat → Nat
  | 0, v => v
  | k + 1, v => upN last k (up1 last v)
theorem upN_last (last : Ls) : ∀ k v, upN last (k + 1) v = up1 last (upN last k v) := by
  intro k
  induction k with
  | zero => intro v; rfl
  | succ k ih => intro v; exact ih (up1 last v)
def Anc (last : Ls) (u v : Nat) : Prop := ∃ t, upN last t v = u
section
variable {n : Nat} {ps : List Pr} {last : Ls}
/-- matchings over the order -/
structure MatO (n : Nat) (ps : List Pr) (last : Ls) : Prop where
  ok : ∀ j, j < n → last j < 0 ∨ ∃ x : Nat, x < n ∧ last j = (x : Int) ∧ ov ps x j = true
  inj : ∀ j k, j < n → k < n → last j = last k → 0 ≤ last j → j = k
theorem MatO.up (h : MatO n ps last) {v : Nat} (hv : v < n) : up1 last v < n ∧ under ps (up1 last v) v = true := by
  unfold up1
  rcases h.ok v hv with h1 | ⟨x, hx, e, ho⟩
  · rw [if_pos h1]
    exact ⟨hv, under_iff.2 (Reach.refl _)⟩
  · rw [if_neg (by omega), e, Int.toNat_natCast]
    exact ⟨hx, (ov_iff.1 ho).2⟩
theorem MatO.upK (h : MatO n ps last) : ∀ k v, v < n → upN last k v < n ∧ under ps (upN last k v) v = true := by
  intro k
  induction k with
  | zero => intro v hv; exact ⟨hv, under_iff.2 (Reach.refl _)⟩
  | succ k ih =>
    intro v hv
    obtain ⟨a, b⟩ := h.up hv
    obtain ⟨c, d⟩ := ih _ a
    exact ⟨c, under_iff.2 ((under_iff.1 d).trans (under_iff.1 b))⟩
theorem MatO.anc_up (h : MatO n ps last) {u v : Nat} (hu : u < n) (hv : v < n) (hl : 0 ≤ last u) : ∀ t, up1 last u = upN last t v → Anc last u v ∨ Anc last v u := by
  intro t
  have hup : up1 last u = (last u).toNat := by unfold up1; rw [if_neg (by omega)]
  induction t with
  | zero =>
    intro e
    exact .inr ⟨1, e⟩
  | succ t ih =>
    intro e
    rw [upN_last] at e
    have hw := (h.upK t v hv).1
    by_cases hneg : last (upN last t v) < 0
    · have : up1 last (upN last t v) = upN last t v := by unfold up1; rw [if_pos hneg]
      rw [this] at e
      exact ih e
    · have e2 : up1 last (upN last t v) = (last (upN last t v)).toNat := by unfold up1; rw [if_neg hneg]
      rw [hup, e2] at e
      exact .inl ⟨t, (h.inj _ _ hw hu (by omega) (by omega))⟩
theorem MatO.anc (h : MatO n ps last) : ∀ k l u v, u < n → v < n → upN last k u = upN last l v → Anc last u v ∨ Anc last v u := by
  intro k
  induction k with
  | zero => intro l u v _ _ e; exact .inl ⟨l, e.symm⟩
  | succ k ih =>
    intro l u v hu hv e
    rcases ih l (up1 last u) v (h.up hu).1 hv e with ⟨t, et⟩ | ⟨t, et⟩
    · by_cases hl : last u < 0
      · have : up1 last u = u := by unfold up1; rw [if_pos hl]
        rw [this] at et
        exact .inl ⟨t, et⟩
      · exact h.anc_up hu hv (by omega) t et.symm
    · exact .inr ⟨t + 1, et⟩
/-- two of one chain that are apart are one -/
theorem MatO.one (h : MatO n ps last) {k l u v : Nat} (hu : u < n) (hv : v < n) (e : upN last k u = upN last l v) (hf : ∀ i j, i < n → j < n → (i = u ∨ i = v) → (j = u ∨ j = v) → under ps i j = true → i = j) : u = v := by
  rcases h.anc k l u v hu hv e with ⟨t, et⟩ | ⟨t, et⟩
  · exact hf u v hu hv (.inl rfl) (.inr rfl) (by rw [← et]; exact (h.upK t v hv).2)
  · exact (hf v u hv hu (.inr rfl) (.inl rfl) (by rw [← et]; exact (h.upK t u hu).2)).symm
/-- how many are under it -/
noncomputable def cntU (n : Nat) (ps : List Pr) (v : Nat) : Nat := ((List.range n).filter fun u => ov ps u v).length
theorem cntU_lt (hanti : ∀ i j : Nat, (i : Int) < (n : Int) → (j : Int) < (n : Int) → under ps i j = true → under ps j i = true → i = j) {x v : Nat} (hx : x < n) (hv : v < n) (ho : ov ps x v = true) : cntU n ps x < cntU n ps v := by
  obtain ⟨o1, o2⟩ := ov_iff.1 ho
  have hsub : ∀ l : List Nat, (∀ u ∈ l, u < n) → (l.filter fun u => ov ps u x).length + (l.filter fun u => u == x).length ≤ (l.filter fun u => ov ps u v).length + 0 := by
    intro l
    induction l with
    | nil => intro _; simp
    | cons a l ih =>
      intro hl
      have hi := ih (fun u hu => hl u (List.mem_cons_of_mem _ hu))
      have ha := hl a (List.mem_cons_self ..)
      rw [List.filter_cons, List.filter_cons, List.filter_cons]
      by_cases e : a = x
      · subst e
        have h1 : ov ps a a = false := by unfold ov; simp
        rw [h1, ho]
        simp
        omega
      · have h2 : (a == x) = false := by simpa using e
        rw [h2]
        cases h3 : ov ps a x with
        | false =>
          simp
          split
          · simp; omega
          · omega
        | true =>
          obtain ⟨q1, q2⟩ := ov_iff.1 h3
          have h4 : ov ps a v = true := ov_iff.2 ⟨fun e2 => by subst e2; exact e (hanti v x (by omega) (by omega) q2 o2), under_iff.2 ((under_iff.1 q2).trans (under_iff.1 o2))⟩
          rw [h4]
          simp
          omega
  have h := hsub (List.range n) (fun u hu => List.mem_range.1 hu)
  have hmem : x ∈ (List.range n).filter fun u => u == x := List.mem_filter.2 ⟨List.mem_range.2 hx, by simp⟩
  have hpos := List.length_pos_of_mem hmem
  unfold cntU
  omega
theorem MatO.root (h : MatO n ps last) (hanti : ∀ i j : Nat, (i : Int) < (n : Int) → (j : Int) < (n : Int) → under ps i j = true → under ps j i = true → i = j) : ∀ k v, v < n → cntU n ps v ≤ k → last (upN last k v) < 0 := by
  intro k
  induction k with
  | zero =>
    intro v hv hc
    rcases h.ok v hv with h1 | ⟨x, hx, e, ho⟩
    · exact h1
    · have := cntU_lt hanti hx hv ho
      omega
  | succ k ih =>
    intro v hv hc
    rcases h.ok v hv with h1 | ⟨x, hx, e, ho⟩
    · have e1 : up1 last v = v := by unfold up1; rw [if_pos h1]
      have : ∀ t, upN last t v = v := by
        intro t
        induction t with
        | zero => rfl
        | succ t iht => show upN last t (up1 last v) = v; rw [e1]; exact iht
      rw [this]
      exact h1
    · have e1 : up1 last v = x := by unfold up1; rw [if_neg (by omega), e, Int.toNat_natCast]
      show last (upN last k (up1 last v)) < 0
      rw [e1]
      have := cntU_lt hanti hx hv ho
      exact ih x hx (by omega)
end
end Go.Proofs.Ytgcpomdlajoifaa
