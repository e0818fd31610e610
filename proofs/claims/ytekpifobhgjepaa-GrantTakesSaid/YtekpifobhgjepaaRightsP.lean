/- Matrices of rights, closed under chains: what one round does, and the closure. Plain law, no program. -/
import Derived.Test.YtekpifobhgjepaaSl
namespace Go.Proofs.Ytekpifobhgjepaa
open Go Go.RowKit

/-- a matrix, by its places -/
abbrev Mx := Nat → Nat → BitVec 32
/-- a chain: whoever has the first over one that has the second over a third has the third over that -/
abbrev Ch := BitVec 32 × BitVec 32 × BitVec 32
def leM (n : Nat) (a b : Mx) : Prop := ∀ i j, i < n → j < n → subB (a i j) (b i j) = true
def eqM (n : Nat) (a b : Mx) : Prop := ∀ i j, i < n → j < n → a i j = b i j
def fires (m : Mx) (c : Ch) (i j k : Nat) : Bool := subB c.1 (m i j) && subB c.2.1 (m j k)
def closedM (n : Nat) (cs : List Ch) (m : Mx) : Prop := ∀ i j k, i < n → j < n → k < n → ∀ c ∈ cs, fires m c i j k = true → subB c.2.2 (m i k) = true
/-- the least closed matrix above m -/
def IsClose (n : Nat) (cs : List Ch) (m a : Mx) : Prop := leM n m a ∧ closedM n cs a ∧ ∀ d, leM n m d → closedM n cs d → leM n a d
def setM (m : Mx) (i k : Nat) (v : BitVec 32) : Mx := fun a b => if a = i ∧ b = k then v else m a b
theorem leM_refl (n : Nat) (a : Mx) : leM n a a := fun _ _ _ _ => subB_refl _
theorem leM_trans {n : Nat} {a b c : Mx} (h : leM n a b) (k : leM n b c) : leM n a c := fun i j hi hj => subB_trans (h i j hi hj) (k i j hi hj)
theorem leM_antisymm {n : Nat} {a b : Mx} (h : leM n a b) (k : leM n b a) : eqM n a b := fun i j hi hj => subB_antisymm (h i j hi hj) (k i j hi hj)
theorem eqM_le {n : Nat} {a b : Mx} (h : eqM n a b) : leM n a b := fun i j hi hj => by rw [h i j hi hj]; exact subB_refl _
theorem eqM_symm {n : Nat} {a b : Mx} (h : eqM n a b) : eqM n b a := fun i j hi hj => (h i j hi hj).symm
theorem closed_eq {n : Nat} {cs : List Ch} {a b : Mx} (h : eqM n a b) (k : closedM n cs a) : closedM n cs b := by
  intro i j l hi hj hl c hc hf
  rw [← h i l hi hl]
  refine k i j l hi hj hl c hc ?_
  unfold fires at hf ⊢
  rw [h i j hi hj, h j l hj hl]
  exact hf
/-- a chain fires above, where it fires below -/
theorem fires_mono {n : Nat} {m d : Mx} (h : leM n m d) {c : Ch} {i j k : Nat} (hi : i < n) (hj : j < n) (hk : k < n) (hf : fires m c i j k = true) : fires d c i j k = true := by
  unfold fires at hf ⊢
  rw [Bool.and_eq_true] at hf ⊢
  exact ⟨subB_trans hf.1 (h i j hi hj), subB_trans hf.2 (h j k hj hk)⟩

/-! ### one round -/
/-- what the matrix of a round, begun at m, is -/
def RInv (n : Nat) (cs : List Ch) (m nx : Mx) (more : Bool) : Prop :=
  leM n m nx ∧ (∀ d, leM n m d → closedM n cs d → leM n nx d) ∧ (more = false → eqM n nx m) ∧ (more = true → ¬ eqM n nx m)
def okAt (cs : List Ch) (m nx : Mx) (i j k : Nat) : Prop := ∀ c ∈ cs, fires m c i j k = true → subB c.2.2 (nx i k) = true
def D0 (n : Nat) (cs : List Ch) (m nx : Mx) (i : Nat) : Prop := ∀ i' j k, i' < i → j < n → k < n → okAt cs m nx i' j k
def D1 (n : Nat) (cs : List Ch) (m nx : Mx) (i j : Nat) : Prop := D0 n cs m nx i ∧ ∀ j' k, j' < j → k < n → okAt cs m nx i j' k
def D2 (n : Nat) (cs : List Ch) (m nx : Mx) (i j k : Nat) : Prop := D1 n cs m nx i j ∧ ∀ k', k' < k → okAt cs m nx i j k'
def D3 (n : Nat) (cs : List Ch) (m nx : Mx) (i j k q : Nat) : Prop := D2 n cs m nx i j k ∧ okAt (cs.take q) m nx i j k
section
variable {n : Nat} {cs : List Ch} {m nx nx' : Mx} {more : Bool} {i j k q : Nat}
theorem okAt.mono (h : okAt cs m nx i j k) (hg : subB (nx i k) (nx' i k) = true) : okAt cs m nx' i j k := fun c hc hf => subB_trans (h c hc hf) hg
theorem D2.mono (h : D2 n cs m nx i j k) (hg : ∀ a b, subB (nx a b) (nx' a b) = true) : D2 n cs m nx' i j k :=
  ⟨⟨fun a b c h1 h2 h3 => (h.1.1 a b c h1 h2 h3).mono (hg _ _), fun b c h2 h3 => (h.1.2 b c h2 h3).mono (hg _ _)⟩, fun c h3 => (h.2 c h3).mono (hg _ _)⟩
theorem RInv.start : RInv n cs m m false := ⟨leM_refl _ _, fun _ h _ => h, fun _ _ _ _ _ => rfl, fun h => by cases h⟩
theorem RInv.same {nx2 : Mx} (h : RInv n cs m nx more) (e : eqM n nx2 nx) : RInv n cs m nx2 more :=
  ⟨leM_trans h.1 (eqM_le (eqM_symm e)), fun d h1 h2 => leM_trans (eqM_le e) (h.2.1 d h1 h2), fun hm i j hi hj => (e i j hi hj).trans (h.2.2.1 hm i j hi hj), fun hm he => h.2.2.2 hm fun i j hi hj => (e i j hi hj).symm.trans (he i j hi hj)⟩
theorem D0.start : D0 n cs m nx 0 := fun _ _ _ h => absurd h (Nat.not_lt_zero _)
theorem D0.down (h : D0 n cs m nx i) : D1 n cs m nx i 0 := ⟨h, fun _ _ h => absurd h (Nat.not_lt_zero _)⟩
theorem D1.down (h : D1 n cs m nx i j) : D2 n cs m nx i j 0 := ⟨h, fun _ h => absurd h (Nat.not_lt_zero _)⟩
theorem D2.down (h : D2 n cs m nx i j k) : D3 n cs m nx i j k 0 := ⟨h, fun c hc => by simp at hc⟩
theorem D3.up (h : D3 n cs m nx i j k q) (hq : cs.length ≤ q) : D2 n cs m nx i j (k + 1) := by
  refine ⟨h.1.1, fun k' hk => ?_⟩
  by_cases e : k' = k
  · subst e
    have := h.2
    rw [List.take_of_length_le hq] at this
    exact this
  · exact h.1.2 k' (by omega)
theorem D2.up (h : D2 n cs m nx i j n) : D1 n cs m nx i (j + 1) := by
  refine ⟨h.1.1, fun j' k hj hk => ?_⟩
  by_cases e : j' = j
  · subst e; exact h.2 k hk
  · exact h.1.2 j' k (by omega) hk
theorem D1.up (h : D1 n cs m nx i n) : D0 n cs m nx (i + 1) := by
  intro i' j k hi hj hk
  by_cases e : i' = i
  · subst e; exact h.2 j k hj hk
  · exact h.1 i' j k (by omega) hj hk
theorem D0.all (h : D0 n cs m nx n) (hr : RInv n cs m nx more) (hm : more = false) : closedM n cs m := by
  intro i j k hi hj hk c hc hf
  rw [← hr.2.2.1 hm i k hi hk]
  exact h i j k hi hj hk c hc hf
/-- a chain that does not fire, or says nothing new -/
theorem D3.skip (h : D3 n cs m nx i j k q) (hq : q < cs.length) (hs : fires m cs[q] i j k = true → subB cs[q].2.2 (nx i k) = true) : D3 n cs m nx i j k (q + 1) := by
  refine ⟨h.1, fun c hc hf => ?_⟩
  rw [take_snoc cs q hq, List.mem_append, List.mem_singleton] at hc
  rcases hc with hc | rfl
  · exact h.2 c hc hf
  · exact hs hf
theorem setM_grows (c : BitVec 32) (a b : Nat) : subB (nx a b) (setM nx i k (nx i k ||| c) a b) = true := by
  unfold setM
  split
  · rename_i e; rw [e.1, e.2]; exact subB_or_left _ _
  · exact subB_refl _
theorem setM_at (v : BitVec 32) : setM nx i k v i k = v := by simp [setM]
/-- a chain that fires -/
theorem D3.fire (h : D3 n cs m nx i j k q) (hq : q < cs.length) : D3 n cs m (setM nx i k (nx i k ||| cs[q].2.2)) i j k (q + 1) := by
  refine D3.skip ⟨h.1.mono (setM_grows _), h.2.mono (setM_grows _ _ _)⟩ hq fun _ => ?_
  rw [setM_at]
  exact subB_or_right _ _
theorem RInv.fire (h : RInv n cs m nx more) (hi : i < n) (hj : j < n) (hk : k < n) (hq : q < cs.length) (hf : fires m cs[q] i j k = true) (hs : subB cs[q].2.2 (nx i k) = false) : RInv n cs m (setM nx i k (nx i k ||| cs[q].2.2)) true := by
  refine ⟨leM_trans h.1 fun a b _ _ => setM_grows _ a b, fun d h1 h2 a b ha hb => ?_, (fun h => by cases h), fun _ he => ?_⟩
  · unfold setM
    split
    · rename_i e
      obtain ⟨rfl, rfl⟩ := e
      rw [subB_or, h.2.1 d h1 h2 a b ha hb, h2 a j b ha hj hb _ (List.getElem_mem hq) (fires_mono h1 ha hj hb hf)]
      rfl
    · exact h.2.1 d h1 h2 a b ha hb
  · have e1 := he i k hi hk
    rw [setM_at] at e1
    have h2 := h.1 i k hi hk
    rw [← e1] at h2
    have h3 : subB cs[q].2.2 (nx i k) = true := subB_trans (subB_or_right _ _) h2
    rw [hs] at h3
    cases h3
end

/-! ### round by round -/
/-- what is still free in a matrix -/
def slackRow (m : Mx) (i : Nat) : Nat → Nat
  | 0 => 0
  | j + 1 => slackRow m i j + (4294967296 - (m i j).toNat)
def slack (n : Nat) (m : Mx) : Nat → Nat
  | 0 => 0
  | i + 1 => slack n m i + slackRow m i n
theorem subB_toNat {a b : BitVec 32} (h : subB a b = true) : a.toNat ≤ b.toNat := by
  have e : a ||| b = b := by simpa [subB] using h
  rw [← e, BitVec.toNat_or]
  exact Nat.left_le_or
section
variable {n : Nat} {cs : List Ch} {m a b : Mx}
theorem slackRow_le {i : Nat} (h : leM n a b) (hi : i < n) : ∀ j, j ≤ n → slackRow b i j ≤ slackRow a i j := by
  intro j
  induction j with
  | zero => intro _; exact Nat.le_refl _
  | succ j ih =>
    intro hj
    have h1 := ih (by omega)
    have h2 := subB_toNat (h i j hi (by omega))
    show slackRow b i j + (4294967296 - (b i j).toNat) ≤ slackRow a i j + (4294967296 - (a i j).toNat)
    omega
theorem slackRow_lt {i : Nat} (h : leM n a b) (hi : i < n) {k : Nat} (hne : a i k ≠ b i k) : ∀ j, j ≤ n → k < j → slackRow b i j < slackRow a i j := by
  intro j
  induction j with
  | zero => intro _ h; omega
  | succ j ih =>
    intro hj hk
    have h2 := subB_toNat (h i j hi (by omega))
    show slackRow b i j + (4294967296 - (b i j).toNat) < slackRow a i j + (4294967296 - (a i j).toNat)
    by_cases e : k = j
    · subst e
      have h1 := slackRow_le h hi k (by omega)
      have h3 : (a i k).toNat ≠ (b i k).toNat := fun e => hne (BitVec.eq_of_toNat_eq e)
      have h4 := (b i k).isLt
      omega
    · have h1 := ih (by omega) (by omega)
      omega
theorem slack_le (h : leM n a b) : ∀ i, i ≤ n → slack n b i ≤ slack n a i := by
  intro i
  induction i with
  | zero => intro _; exact Nat.le_refl _
  | succ i ih =>
    intro hi
    exact Nat.add_le_add (ih (by omega)) (slackRow_le h (by omega) n (Nat.le_refl _))
theorem slack_lt (h : leM n a b) {r c : Nat} (hr : r < n) (hc : c < n) (hne : a r c ≠ b r c) : ∀ i, i ≤ n → r < i → slack n b i < slack n a i := by
  intro i
  induction i with
  | zero => intro _ h; omega
  | succ i ih =>
    intro hi hri
    show slack n b i + slackRow b i n < slack n a i + slackRow a i n
    by_cases e : r = i
    · subst e
      exact Nat.add_lt_add_of_le_of_lt (slack_le h r (by omega)) (slackRow_lt h hr hne n (Nat.le_refl _) hc)
    · exact Nat.add_lt_add_of_lt_of_le (ih (by omega) (by omega)) (slackRow_le h (by omega) n (Nat.le_refl _))
theorem slack_more (h : leM n a b) (hne : ¬ eqM n b a) : slack n b n < slack n a n := by
  have : ∃ i j, i < n ∧ j < n ∧ a i j ≠ b i j := by
    refine Classical.byContradiction fun hc => hne fun i j hi hj => ?_
    refine Classical.byContradiction fun hd => hc ⟨i, j, hi, hj, fun e => hd e.symm⟩
  obtain ⟨i, j, hi, hj, hd⟩ := this
  exact slack_lt h hi hj hd n (Nat.le_refl _) hi
/-- what the matrix of the rounds so far is: above m, below every closed one above m -/
def CInv (n : Nat) (cs : List Ch) (m cur : Mx) (more : Bool) : Prop :=
  leM n m cur ∧ (∀ d, leM n m d → closedM n cs d → leM n cur d) ∧ (more = false → closedM n cs cur)
theorem CInv.round {cur nx : Mx} {more : Bool} (h : leM n m cur ∧ ∀ d, leM n m d → closedM n cs d → leM n cur d) (hr : RInv n cs cur nx more) (hd : D0 n cs cur nx n) : CInv n cs m nx more :=
  ⟨leM_trans h.1 hr.1, fun d h1 h2 => hr.2.1 d (h.2 d h1 h2) h2, fun hm => closed_eq (eqM_symm (hr.2.2.1 hm)) (hd.all hr hm)⟩
theorem CInv.done {cur : Mx} (h : CInv n cs m cur false) : IsClose n cs m cur := ⟨h.1, h.2.2 rfl, h.2.1⟩
/-! ### the statement -/
theorem close_twice (h : IsClose n cs m a) (k : IsClose n cs a b) : eqM n a b := leM_antisymm k.1 (k.2.2 a (leM_refl _ _) h.2.1)
theorem close_more {ds : List Ch} (h : IsClose n cs m a) (k : IsClose n (cs ++ ds) m b) : leM n a b :=
  h.2.2 b k.1 fun i j l hi hj hl c hc hf => k.2.1 i j l hi hj hl c (List.mem_append_left _ hc) hf
end
/-- a measure for what is told by a number that is not seen -/
theorem measure_of {α β : Type} (R : Nat → α → β → Prop) : ∃ M : α → β → Nat, ∀ t w k, R k t w → R (M t w) t w ∧ M t w ≤ k := by
  have least : ∀ (t : α) (w : β) (k : Nat), R k t w → ∃ k0, R k0 t w ∧ ∀ j, R j t w → k0 ≤ j := by
    intro t w k
    induction k using Nat.strongRecOn with
    | ind k ih =>
      intro hk
      by_cases h : ∃ j, j < k ∧ R j t w
      · obtain ⟨j, hj, hr⟩ := h
        exact ih j hj hr
      · exact ⟨k, hk, fun j hj => Nat.le_of_not_lt fun hl => h ⟨j, hl, hj⟩⟩
  have : ∀ x : α × β, ∃ k0, ∀ k, R k x.1 x.2 → R k0 x.1 x.2 ∧ k0 ≤ k := by
    intro x
    by_cases h : ∃ k, R k x.1 x.2
    · obtain ⟨k, hk⟩ := h
      obtain ⟨k0, h0, h1⟩ := least x.1 x.2 k hk
      exact ⟨k0, fun j hj => ⟨h0, h1 j hj⟩⟩
    · exact ⟨0, fun k hk => absurd ⟨k, hk⟩ h⟩
  obtain ⟨f, hf⟩ := Classical.axiomOfChoice this
  exact ⟨fun t w => f (t, w), fun t w k hk => hf (t, w) k hk⟩
end Go.Proofs.Ytekpifobhgjepaa
