/- Programs, what they do, and what they let through: plain laws (Denning; Volpano, Smith, Irvine). -/
import Derived.Test.YtnnddjanbfamkaaLn
import Derived.Test.YtnnddjanbfamkaaLabS
namespace Go.Proofs.Ytnnddjanbfamkaa
open Go Go.RowKit
set_option linter.unusedVariables false

def Ln.wt : Ln → Nat
  | .nil => 0
  | .cons _ _ _ _ _ _ _ body _ _ els rest => body.wt + els.wt + rest.wt + 1
/-! ### how many, how deep -/
def szS (go : Nat → Int × Nat → Int × Nat) (len deep : Nat) : Int × Nat := if 12 < len ∨ 4 < deep then ((len : Int), deep) else go deep ((len : Int), deep)
def szA (len : Nat) (s md : Int × Nat) : Int × Nat := if 0 < len then (wrap64 (md.1 + s.1), max md.2 s.2) else md
def szG : Ln → Nat → Int × Nat → Int × Nat
  | .nil, _, md => md
  | .cons _ _ _ _ _ _ _ body _ _ els rest, deep, md => szG rest deep (szA els.len (szS (szG els) els.len (deep + 1)) (szA body.len (szS (szG body) body.len (deep + 1)) md))
def sz (p : Ln) (deep : Nat) : Int × Nat := szS (szG p) p.len deep
/-! ### what is wrong -/
def vB (n x : Int) : Bool := decide (0 ≤ x) && decide (x < n)
def argB (n k t a b : Int) : Bool := if k = 1 then !vB n t || ((a != -1) && !vB n a) || ((b != -1) && !vB n b) else !vB n a
def lnF (n : Int) : Ln → Int
  | .nil => 0
  | .cons k t a b _ _ _ body _ _ els rest => if k < 1 ∨ 3 < k then 6 else if argB n k t a b = true then 2 else if lnF n body ≠ 0 then lnF n body else if lnF n els ≠ 0 then lnF n els else lnF n rest
def wrF (n : Int) (p : Ln) : Int := if n < 1 ∨ 6 < n ∨ 12 < (sz p 1).1 ∨ 4 < (sz p 1).2 then 1 else lnF n p
section
variable {n k t a b v : Int} {bA eA : Option Addr} {bc ec : Nat} {body els rest : Ln}
theorem vB_iff {n x : Int} : vB n x = true ↔ 0 ≤ x ∧ x < n := by unfold vB; simp
theorem lnF_zero (h : lnF n (.cons k t a b v bA bc body eA ec els rest) = 0) : (1 ≤ k ∧ k ≤ 3) ∧ argB n k t a b = false ∧ lnF n body = 0 ∧ lnF n els = 0 ∧ lnF n rest = 0 := by
  unfold lnF at h
  by_cases h1 : k < 1 ∨ 3 < k
  · rw [if_pos h1] at h; cases h
  · rw [if_neg h1] at h
    cases h2 : argB n k t a b
    · rw [h2] at h
      simp only [Bool.false_eq_true, if_false] at h
      by_cases h3 : lnF n body ≠ 0
      · rw [if_pos h3] at h; exact absurd h h3
      · rw [if_neg h3] at h
        by_cases h4 : lnF n els ≠ 0
        · rw [if_pos h4] at h; exact absurd h h4
        · rw [if_neg h4] at h
          exact ⟨by omega, rfl, Decidable.not_not.1 h3, Decidable.not_not.1 h4, h⟩
    · rw [h2] at h; simp at h
theorem argB_set (h : argB n k t a b = false) (hk : k = 1) : (0 ≤ t ∧ t < n) ∧ (a = -1 ∨ 0 ≤ a ∧ a < n) ∧ (b = -1 ∨ 0 ≤ b ∧ b < n) := by
  unfold argB at h
  rw [if_pos hk] at h
  simp only [Bool.or_eq_false_iff, Bool.not_eq_false', Bool.and_eq_false_iff, vB_iff] at h
  obtain ⟨⟨h1, h2⟩, h3⟩ := h
  refine ⟨h1, ?_, ?_⟩
  · rcases h2 with h2 | h2
    · exact .inl (by simpa using h2)
    · exact .inr h2
  · rcases h3 with h3 | h3
    · exact .inl (by simpa using h3)
    · exact .inr h3
theorem argB_other (h : argB n k t a b = false) (hk : k ≠ 1) : 0 ≤ a ∧ a < n := by
  unfold argB at h
  rw [if_neg hk] at h
  simp only [Bool.not_eq_false', vB_iff] at h
  exact h
end
/-! ### what a program does -/
def and7 (x : Int) : Int := bits .and .i64 x 7
def valI (vs : Nat → Int) (i : Int) : Int := if i < 0 then 0 else vs i.toNat
def setF (x y v : Int) : Int := and7 (wrap64 (wrap64 (x + y) + and7 v))
def updI (vs : Nat → Int) (i : Nat) (x : Int) : Nat → Int := fun j => if j = i then x else vs j
def iterI (f : (Nat → Int) → (Nat → Int)) : Nat → (Nat → Int) → (Nat → Int)
  | 0, vs => vs
  | m + 1, vs => f (iterI f m vs)
def stepR (fb fe : (Nat → Int) → (Nat → Int)) (k t a b v : Int) (vs : Nat → Int) : Nat → Int :=
  if k = 1 then updI vs t.toNat (setF (valI vs a) (valI vs b) v) else if k = 2 then (if vs a.toNat ≠ 0 then fb vs else fe vs) else if k = 3 then iterI fb (vs a.toNat).toNat vs else vs
def runL : Ln → (Nat → Int) → (Nat → Int)
  | .nil, vs => vs
  | .cons k t a b v _ _ body _ _ els rest, vs => runL rest (stepR (runL body) (runL els) k t a b v vs)
/-! ### labels -/
def updLb (lab : Nat → Lab) (i : Nat) (x : Lab) : Nat → Lab := fun j => if j = i then x else lab j
def ofL (lab : Nat → Lab) (c : Lab) (i : Int) : Lab := if i < 0 then c else joinL c (lab i.toNat)
def stepS (fb fe : (Nat → Lab) → Lab → Bool × (Nat → Lab)) (k t a b : Int) (c : Lab) (s : Bool × (Nat → Lab)) : Bool × (Nat → Lab) :=
  if k = 1 then (if leB (joinL (ofL s.2 c a) (ofL s.2 c b)) (s.2 t.toNat) = true then s else (false, updLb s.2 t.toNat (joinL (s.2 t.toNat) (joinL (ofL s.2 c a) (ofL s.2 c b)))))
  else if k = 2 then ((fe (fb s.2 (ofL s.2 c a)).2 (ofL s.2 c a)).1 && ((fb s.2 (ofL s.2 c a)).1 && s.1), (fe (fb s.2 (ofL s.2 c a)).2 (ofL s.2 c a)).2)
  else ((fb s.2 (ofL s.2 c a)).1 && s.1, (fb s.2 (ofL s.2 c a)).2)
def rsG : Ln → Lab → Bool × (Nat → Lab) → Bool × (Nat → Lab)
  | .nil, _, s => s
  | .cons k t a b _ _ _ body _ _ els rest, c, s => rsG rest c (stepS (fun l c => rsG body c (true, l)) (fun l c => rsG els c (true, l)) k t a b c s)
def rsL (p : Ln) (lab : Nat → Lab) (c : Lab) : Bool × (Nat → Lab) := rsG p c (true, lab)
theorem leB_iff {a b : Lab} : leB a b = true ↔ a.1 ≤ b.1 ∧ subB a.2 b.2 = true := by unfold leB; simp
theorem leB_refl (a : Lab) : leB a a = true := leB_iff.2 ⟨by omega, subB_refl _⟩
theorem leB_trans {a b c : Lab} (h : leB a b = true) (k : leB b c = true) : leB a c = true := leB_iff.2 ⟨Int.le_trans (leB_iff.1 h).1 (leB_iff.1 k).1, subB_trans (leB_iff.1 h).2 (leB_iff.1 k).2⟩
theorem joinL_iff {a b c : Lab} : leB (joinL a b) c = true ↔ leB a c = true ∧ leB b c = true := by
  rw [leB_iff, leB_iff, leB_iff]
  unfold joinL
  simp only [subB_or, Bool.and_eq_true]
  constructor
  · rintro ⟨h1, h2, h3⟩; exact ⟨⟨by omega, h2⟩, by omega, h3⟩
  · rintro ⟨⟨h1, h2⟩, h3, h4⟩; exact ⟨by omega, h2, h4⟩
theorem joinL_left (a b : Lab) : leB a (joinL a b) = true := (joinL_iff.1 (leB_refl _)).1
theorem joinL_right (a b : Lab) : leB b (joinL a b) = true := (joinL_iff.1 (leB_refl _)).2
/-- labels below others -/
def LeL (l m : Nat → Lab) : Prop := ∀ i, leB (l i) (m i) = true
theorem LeL.refl (l : Nat → Lab) : LeL l l := fun i => leB_refl _
theorem LeL.trans {l m o : Nat → Lab} (h : LeL l m) (k : LeL m o) : LeL l o := fun i => leB_trans (h i) (k i)
theorem ofL_ge (lab : Nat → Lab) (c : Lab) (i : Int) : leB c (ofL lab c i) = true := by
  unfold ofL
  split
  · exact leB_refl _
  · exact joinL_left _ _
theorem ofL_mono {l m : Nat → Lab} {c d : Lab} (h : LeL l m) (k : leB c d = true) (i : Int) : leB (ofL l c i) (ofL m d i) = true := by
  unfold ofL
  split
  · exact k
  · exact joinL_iff.2 ⟨leB_trans k (joinL_left _ _), leB_trans (h _) (joinL_right _ _)⟩
theorem LeL.upd {l : Nat → Lab} {i : Nat} {x : Lab} (h : leB (l i) x = true) : LeL l (updLb l i x) := fun j => by
  unfold updLb
  split
  · rename_i e; rw [e]; exact h
  · exact leB_refl _
theorem LeL.upd_le {l m : Nat → Lab} {i : Nat} {x : Lab} (h : LeL l m) (k : leB x (m i) = true) : LeL (updLb l i x) m := fun j => by
  unfold updLb
  split
  · rename_i e; rw [e]; exact k
  · exact h j
/-- raising raises -/
theorem rsG_ge : ∀ (p : Ln) (c : Lab) (s : Bool × (Nat → Lab)), LeL s.2 (rsG p c s).2 := by
  intro p
  induction p with
  | nil => intro c s; exact LeL.refl _
  | cons k t a b v bA bc body eA ec els rest ihb ihe ihr =>
    intro c s
    unfold rsG
    refine LeL.trans ?_ (ihr c _)
    unfold stepS
    by_cases h1 : k = 1
    · rw [if_pos h1]
      split
      · exact LeL.refl _
      · exact LeL.upd (joinL_left _ _)
    · rw [if_neg h1]
      split
      · exact LeL.trans (ihb (ofL s.2 c a) (true, s.2)) (ihe (ofL s.2 c a) (true, (rsG body (ofL s.2 c a) (true, s.2)).2))
      · exact ihb (ofL s.2 c a) (true, s.2)
/-- what clean lines are -/
def clP (lab : Nat → Lab) : Ln → Lab → Prop
  | .nil, _ => True
  | .cons k t a b _ _ _ body _ _ els rest, c => (k = 1 → leB (joinL (ofL lab c a) (ofL lab c b)) (lab t.toNat) = true) ∧ (k ≠ 1 → clP lab body (ofL lab c a)) ∧ (k = 2 → clP lab els (ofL lab c a)) ∧ clP lab rest c
theorem rsG_clean : ∀ (p : Ln) (c : Lab) (s : Bool × (Nat → Lab)), (rsG p c s).1 = true → s.1 = true ∧ (rsG p c s).2 = s.2 ∧ clP s.2 p c := by
  intro p
  induction p with
  | nil => intro c s h; exact ⟨h, rfl, trivial⟩
  | cons k t a b v bA bc body eA ec els rest ihb ihe ihr =>
    intro c s h
    unfold rsG at h ⊢
    obtain ⟨h1, h2, h3⟩ := ihr c _ h
    rw [h2]
    by_cases hk : k = 1
    · unfold stepS at h1 h3 ⊢
      rw [if_pos hk] at h1 h3 ⊢
      by_cases hl : leB (joinL (ofL s.2 c a) (ofL s.2 c b)) (s.2 t.toNat) = true
      · rw [if_pos hl] at h1 h3 ⊢
        exact ⟨h1, rfl, fun _ => hl, fun h => absurd hk h, fun h => by omega, h3⟩
      · rw [if_neg hl] at h1
        cases h1
    · by_cases hk2 : k = 2
      · have e : stepS (fun l c => rsG body c (true, l)) (fun l c => rsG els c (true, l)) k t a b c s = ((rsG els (ofL s.2 c a) (true, (rsG body (ofL s.2 c a) (true, s.2)).2)).1 && ((rsG body (ofL s.2 c a) (true, s.2)).1 && s.1), (rsG els (ofL s.2 c a) (true, (rsG body (ofL s.2 c a) (true, s.2)).2)).2) := by
          unfold stepS
          rw [if_neg hk, if_pos hk2]
        rw [e] at h1 h3 ⊢
        simp only [Bool.and_eq_true] at h1
        obtain ⟨g1, g2, g3⟩ := h1
        obtain ⟨_, b2, b3⟩ := ihb _ _ g2
        obtain ⟨_, c2, c3⟩ := ihe _ _ g1
        simp only [b2] at c2 c3 h3 ⊢
        simp only [c2] at h3 ⊢
        exact ⟨g3, trivial, fun h => absurd h hk, fun _ => b3, fun _ => c3, h3⟩
      · have e : stepS (fun l c => rsG body c (true, l)) (fun l c => rsG els c (true, l)) k t a b c s = ((rsG body (ofL s.2 c a) (true, s.2)).1 && s.1, (rsG body (ofL s.2 c a) (true, s.2)).2) := by
          unfold stepS
          rw [if_neg hk, if_neg hk2]
        rw [e] at h1 h3 ⊢
        simp only [Bool.and_eq_true] at h1
        obtain ⟨g1, g2⟩ := h1
        obtain ⟨_, b2, b3⟩ := ihb _ _ g1
        simp only [b2] at h3 ⊢
        exact ⟨g2, trivial, fun h => absurd h hk, fun _ => b3, fun h => absurd h hk2, h3⟩
/-- raising stays below whatever is clean -/
theorem rsG_least {more : Nat → Lab} : ∀ (p : Ln) (c d : Lab) (s : Bool × (Nat → Lab)), clP more p d → leB c d = true → LeL s.2 more → LeL (rsG p c s).2 more := by
  intro p
  induction p with
  | nil => intro c d s _ _ h; exact h
  | cons k t a b v bA bc body eA ec els rest ihb ihe ihr =>
    intro c d s hcl hcd hle
    obtain ⟨q1, q2, q3, q4⟩ := hcl
    unfold rsG
    refine ihr c d _ q4 hcd ?_
    unfold stepS
    by_cases hk : k = 1
    · rw [if_pos hk]
      have hq := q1 hk
      rw [joinL_iff] at hq
      split
      · exact hle
      · refine hle.upd_le (joinL_iff.2 ⟨hle _, joinL_iff.2 ⟨leB_trans (ofL_mono hle hcd a) hq.1, leB_trans (ofL_mono hle hcd b) hq.2⟩⟩)
    · rw [if_neg hk]
      have hb := ihb (ofL s.2 c a) (ofL more d a) (true, s.2) (q2 hk) (ofL_mono hle hcd a) hle
      split
      · rename_i hk2
        exact ihe (ofL s.2 c a) (ofL more d a) (true, _) (q3 hk2) (ofL_mono hle hcd a) hb
      · exact hb
/-- if it was not clean something was raised -/
theorem rsG_raised : ∀ (p : Ln) (c : Lab) (s : Bool × (Nat → Lab)), (rsG p c s).1 = false → s.1 = false ∨ ∃ i, leB ((rsG p c s).2 i) (s.2 i) = false := by
  intro p
  induction p with
  | nil => intro c s h; exact .inl h
  | cons k t a b v bA bc body eA ec els rest ihb ihe ihr =>
    intro c s h
    unfold rsG at h ⊢
    have hge := rsG_ge rest c (stepS (fun l c => rsG body c (true, l)) (fun l c => rsG els c (true, l)) k t a b c s)
    have lift : ∀ {m : Nat → Lab}, LeL s.2 m → (∃ i, leB ((rsG rest c (stepS (fun l c => rsG body c (true, l)) (fun l c => rsG els c (true, l)) k t a b c s)).2 i) (m i) = false) → ∃ i, leB ((rsG rest c (stepS (fun l c => rsG body c (true, l)) (fun l c => rsG els c (true, l)) k t a b c s)).2 i) (s.2 i) = false := fun hm ⟨i, hi⟩ => ⟨i, by
      cases hc : leB ((rsG rest c (stepS (fun l c => rsG body c (true, l)) (fun l c => rsG els c (true, l)) k t a b c s)).2 i) (s.2 i) with
      | false => rfl
      | true => rw [leB_trans hc (hm i)] at hi; cases hi⟩
    have low : ∀ {m : Nat → Lab}, LeL m (rsG rest c (stepS (fun l c => rsG body c (true, l)) (fun l c => rsG els c (true, l)) k t a b c s)).2 → (∃ i, leB (m i) (s.2 i) = false) → ∃ i, leB ((rsG rest c (stepS (fun l c => rsG body c (true, l)) (fun l c => rsG els c (true, l)) k t a b c s)).2 i) (s.2 i) = false := fun hm ⟨i, hi⟩ => ⟨i, by
      cases hc : leB ((rsG rest c (stepS (fun l c => rsG body c (true, l)) (fun l c => rsG els c (true, l)) k t a b c s)).2 i) (s.2 i) with
      | false => rfl
      | true => rw [leB_trans (hm i) hc] at hi; cases hi⟩
    rcases ihr c _ h with h1 | h1
    · by_cases hk : k = 1
      · have e : stepS (fun l c => rsG body c (true, l)) (fun l c => rsG els c (true, l)) k t a b c s = if leB (joinL (ofL s.2 c a) (ofL s.2 c b)) (s.2 t.toNat) = true then s else (false, updLb s.2 t.toNat (joinL (s.2 t.toNat) (joinL (ofL s.2 c a) (ofL s.2 c b)))) := by
          unfold stepS
          rw [if_pos hk]
        rw [e] at h1
        by_cases hl : leB (joinL (ofL s.2 c a) (ofL s.2 c b)) (s.2 t.toNat) = true
        · rw [if_pos hl] at h1; exact .inl h1
        · rw [if_neg hl] at e
          refine .inr (low hge ⟨t.toNat, ?_⟩)
          rw [e]
          show leB (updLb s.2 t.toNat _ t.toNat) _ = false
          unfold updLb
          rw [if_pos rfl]
          cases hc : leB (joinL (s.2 t.toNat) (joinL (ofL s.2 c a) (ofL s.2 c b))) (s.2 t.toNat) with
          | false => rfl
          | true => exact absurd (joinL_iff.1 hc).2 hl
      · by_cases hk2 : k = 2
        · have e : stepS (fun l c => rsG body c (true, l)) (fun l c => rsG els c (true, l)) k t a b c s = ((rsG els (ofL s.2 c a) (true, (rsG body (ofL s.2 c a) (true, s.2)).2)).1 && ((rsG body (ofL s.2 c a) (true, s.2)).1 && s.1), (rsG els (ofL s.2 c a) (true, (rsG body (ofL s.2 c a) (true, s.2)).2)).2) := by
            unfold stepS
            rw [if_neg hk, if_pos hk2]
          rw [e] at h1 hge
          simp only [Bool.and_eq_false_iff] at h1
          rcases h1 with h1 | h1 | h1
          · rcases ihe _ _ h1 with h2 | ⟨i, hi⟩
            · cases h2
            · right
              rw [e]
              refine ⟨i, ?_⟩
              have g1 := rsG_ge body (ofL s.2 c a) (true, s.2) i
              have g2 := hge i
              cases hc : leB ((rsG rest c ((rsG els (ofL s.2 c a) (true, (rsG body (ofL s.2 c a) (true, s.2)).2)).1 && ((rsG body (ofL s.2 c a) (true, s.2)).1 && s.1), (rsG els (ofL s.2 c a) (true, (rsG body (ofL s.2 c a) (true, s.2)).2)).2)).2 i) (s.2 i) with
              | false => rfl
              | true =>
                have := leB_trans (leB_trans g2 hc) g1
                rw [this] at hi
                cases hi
          · rcases ihb _ _ h1 with h2 | ⟨i, hi⟩
            · cases h2
            · right
              rw [e]
              refine ⟨i, ?_⟩
              have g1 := rsG_ge els (ofL s.2 c a) (true, (rsG body (ofL s.2 c a) (true, s.2)).2) i
              have g2 := hge i
              cases hc : leB ((rsG rest c ((rsG els (ofL s.2 c a) (true, (rsG body (ofL s.2 c a) (true, s.2)).2)).1 && ((rsG body (ofL s.2 c a) (true, s.2)).1 && s.1), (rsG els (ofL s.2 c a) (true, (rsG body (ofL s.2 c a) (true, s.2)).2)).2)).2 i) (s.2 i) with
              | false => rfl
              | true =>
                have := leB_trans g1 (leB_trans g2 hc)
                rw [this] at hi
                cases hi
          · exact .inl h1
        · have e : stepS (fun l c => rsG body c (true, l)) (fun l c => rsG els c (true, l)) k t a b c s = ((rsG body (ofL s.2 c a) (true, s.2)).1 && s.1, (rsG body (ofL s.2 c a) (true, s.2)).2) := by
            unfold stepS
            rw [if_neg hk, if_neg hk2]
          rw [e] at h1 hge
          simp only [Bool.and_eq_false_iff] at h1
          rcases h1 with h1 | h1
          · rcases ihb _ _ h1 with h2 | ⟨i, hi⟩
            · cases h2
            · right
              rw [e]
              refine ⟨i, ?_⟩
              have g2 := hge i
              cases hc : leB ((rsG rest c ((rsG body (ofL s.2 c a) (true, s.2)).1 && s.1, (rsG body (ofL s.2 c a) (true, s.2)).2)).2 i) (s.2 i) with
              | false => rfl
              | true =>
                rw [leB_trans g2 hc] at hi
                cases hi
          · exact .inl h1
    · refine .inr (lift ?_ h1)
      have h0 := rsG_ge (.cons k t a b v bA bc body eA ec els .nil) c s
      unfold rsG at h0
      unfold rsG at h0
      exact h0
/-! ### what may be known -/
def EqW (who : Lab) (lab : Nat → Lab) (u v : Nat → Int) : Prop := ∀ i, leB (lab i) who = true → u i = v i
theorem EqW.refl (who : Lab) (lab : Nat → Lab) (u : Nat → Int) : EqW who lab u u := fun _ _ => rfl
theorem EqW.trans {who : Lab} {lab : Nat → Lab} {u v w : Nat → Int} (h : EqW who lab u v) (k : EqW who lab v w) : EqW who lab u w := fun i hi => (h i hi).trans (k i hi)
theorem EqW.symm {who : Lab} {lab : Nat → Lab} {u v : Nat → Int} (h : EqW who lab u v) : EqW who lab v u := fun i hi => (h i hi).symm
theorem high_of {who c d : Lab} (h : leB c who = false) (k : leB c d = true) : leB d who = false := by
  cases hc : leB d who with
  | false => rfl
  | true => rw [leB_trans k hc] at h; cases h
theorem iter_same {who : Lab} {lab : Nat → Lab} {f : (Nat → Int) → (Nat → Int)} (h : ∀ u, EqW who lab (f u) u) : ∀ m u, EqW who lab (iterI f m u) u := by
  intro m
  induction m with
  | zero => intro u; exact EqW.refl _ _ _
  | succ m ih => intro u; exact (h _).trans (ih u)
/-- under a label that may not be known nothing changes that may -/
theorem run_high {who : Lab} {lab : Nat → Lab} : ∀ (p : Ln) (c : Lab), clP lab p c → leB c who = false → ∀ u, EqW who lab (runL p u) u := by
  intro p
  induction p with
  | nil => intro c _ _ u; exact EqW.refl _ _ _
  | cons k t a b v bA bc body eA ec els rest ihb ihe ihr =>
    intro c hcl hc u
    obtain ⟨q1, q2, q3, q4⟩ := hcl
    unfold runL
    refine (ihr c q4 hc _).trans ?_
    unfold stepR
    by_cases hk : k = 1
    · rw [if_pos hk]
      intro i hi
      unfold updI
      split
      · rename_i e
        subst e
        have := high_of (high_of (high_of hc (ofL_ge lab c a)) (joinL_left _ _)) (q1 hk)
        rw [this] at hi
        cases hi
      · rfl
    · rw [if_neg hk]
      have hb := ihb _ (q2 hk) (high_of hc (ofL_ge lab c a))
      by_cases hk2 : k = 2
      · rw [if_pos hk2]
        split
        · exact hb u
        · exact ihe _ (q3 hk2) (high_of hc (ofL_ge lab c a)) u
      · rw [if_neg hk2]
        split
        · exact iter_same hb _ u
        · exact EqW.refl _ _ _
theorem iter_eqW {who : Lab} {lab : Nat → Lab} {f : (Nat → Int) → (Nat → Int)} (h : ∀ u w, EqW who lab u w → EqW who lab (f u) (f w)) : ∀ m u w, EqW who lab u w → EqW who lab (iterI f m u) (iterI f m w) := by
  intro m
  induction m with
  | zero => intro u w h; exact h
  | succ m ih => intro u w hw; exact h _ _ (ih u w hw)
theorem ofL_low {who : Lab} {lab : Nat → Lab} {c : Lab} {i : Int} (h : leB (ofL lab c i) who = true) (hi : 0 ≤ i) : leB (lab i.toNat) who = true := by
  unfold ofL at h
  rw [if_neg (by omega)] at h
  exact (joinL_iff.1 h).2
theorem valI_eq {who : Lab} {lab : Nat → Lab} {c : Lab} {i : Int} {u w : Nat → Int} (h : leB (ofL lab c i) who = true) (he : EqW who lab u w) : valI u i = valI w i := by
  unfold valI
  split
  · rfl
  · exact he _ (ofL_low h (by omega))
/-- in a clean program what may be known depends on what may be known -/
theorem run_low {who : Lab} {lab : Nat → Lab} {n : Int} : ∀ (p : Ln) (c : Lab), clP lab p c → lnF n p = 0 → ∀ u w, EqW who lab u w → EqW who lab (runL p u) (runL p w) := by
  intro p
  induction p with
  | nil => intro c _ _ u w h; exact h
  | cons k t a b v bA bc body eA ec els rest ihb ihe ihr =>
    intro c hcl hln u w he
    obtain ⟨q1, q2, q3, q4⟩ := hcl
    obtain ⟨hk3, harg, l1, l2, l3⟩ := lnF_zero hln
    unfold runL
    refine ihr c q4 l3 _ _ ?_
    unfold stepR
    by_cases hk : k = 1
    · rw [if_pos hk, if_pos hk]
      intro i hi
      unfold updI
      split
      · rename_i e
        subst e
        have := leB_trans (q1 hk) hi
        rw [joinL_iff] at this
        rw [valI_eq this.1 he, valI_eq this.2 he]
      · exact he i hi
    · rw [if_neg hk, if_neg hk]
      have ha := argB_other harg hk
      have hb := ihb _ (q2 hk) l1
      cases hlow : leB (ofL lab c a) who with
      | true =>
        have hva := he _ (ofL_low hlow ha.1)
        rw [hva]
        by_cases hk2 : k = 2
        · rw [if_pos hk2, if_pos hk2]
          split
          · exact hb u w he
          · exact ihe _ (q3 hk2) l2 u w he
        · rw [if_neg hk2, if_neg hk2]
          split
          · exact iter_eqW hb _ u w he
          · exact he
      | false =>
        have hbh := run_high body _ (q2 hk) hlow
        by_cases hk2 : k = 2
        · rw [if_pos hk2, if_pos hk2]
          have heh := run_high els _ (q3 hk2) hlow
          have one : ∀ z : Nat → Int, EqW who lab (if z a.toNat ≠ 0 then runL body z else runL els z) z := fun z => by
            split
            · exact hbh z
            · exact heh z
          exact (one u).trans (he.trans (one w).symm)
        · rw [if_neg hk2, if_neg hk2]
          have one : ∀ z : Nat → Int, EqW who lab (if k = 3 then iterI (runL body) (z a.toNat).toNat z else z) z := fun z => by
            split
            · exact iter_same hbh _ z
            · exact EqW.refl _ _ _
          exact (one u).trans (he.trans (one w).symm)
end Go.Proofs.Ytnnddjanbfamkaa
