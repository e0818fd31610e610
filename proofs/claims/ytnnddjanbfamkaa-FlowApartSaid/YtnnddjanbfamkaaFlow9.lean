/- The walk of flow.run. -/
import Derived.Test.YtnnddjanbfamkaaFlow7
import Derived.StillTailTactics
namespace Go.Proofs.Ytnnddjanbfamkaa
open Go Go.RowKit
set_option linter.unusedVariables false

theorem and7_rng (x : Int) : 0 ≤ and7 x ∧ and7 x ≤ 7 := by
  have h : and7 x = IntKind.i64.wrap (((BitVec.ofInt 64 x &&& BitVec.ofInt 64 7).toNat : Nat) : Int) := rfl
  have h2 : (BitVec.ofInt 64 x &&& BitVec.ofInt 64 7).toNat ≤ 7 := by
    rw [BitVec.toNat_and]
    exact Nat.and_le_right
  rw [h, IntKind.wrap_i64]
  omega
/-- the values that variables have -/
def Rng (vs : Nat → Int) : Prop := ∀ i, 0 ≤ vs i ∧ vs i ≤ 7
theorem Rng.upd {vs : Nat → Int} (h : Rng vs) (i : Nat) (x : Int) : Rng (updI vs i (and7 x)) := fun j => by
  unfold updI
  split
  · exact and7_rng x
  · exact h j
theorem Rng.iter {f : (Nat → Int) → (Nat → Int)} (hf : ∀ u, Rng u → Rng (f u)) : ∀ m u, Rng u → Rng (iterI f m u) := by
  intro m
  induction m with
  | zero => intro u h; exact h
  | succ m ih => intro u h; exact hf _ (ih u h)
theorem Rng.run : ∀ (p : Ln) (vs : Nat → Int), Rng vs → Rng (runL p vs) := by
  intro p
  induction p with
  | nil => intro vs h; exact h
  | cons k t a b v bA bc body eA ec els rest ihb ihe ihr =>
    intro vs h
    unfold runL
    refine ihr _ ?_
    unfold stepR
    split
    · exact h.upd _ _
    · split
      · split
        · exact ihb _ h
        · exact ihe _ h
      · split
        · exact Rng.iter ihb _ _ h
        · exact h
def vsV (n : Nat) (vs : Nat → Int) : List Value := (List.range n).map fun i => .int .i64 (vs i)
theorem vsV_at {n i : Nat} (vs : Nat → Int) (h : i < n) : (vsV n vs)[i]? = some (.int .i64 (vs i)) := by simp [vsV, h]
theorem vsV_set (n : Nat) (vs : Nat → Int) (i : Nat) (x : Int) : (vsV n vs).set i (.int .i64 x) = vsV n (updI vs i x) := by
  unfold vsV
  apply List.ext_getElem
  · simp
  · intro j h1 h2
    rw [List.getElem_set]
    simp only [List.getElem_map, List.getElem_range]
    unfold updI
    by_cases e : i = j
    · subst e; simp
    · rw [if_neg e, if_neg (fun h => e h.symm)]
/-- the variables in memory -/
def VarO (w0 w : World) (V n cv : Nat) (vs : Nat → Int) : Prop := Own w0 w 3 1 (.slice (some ⟨V, 0, none⟩) n cv) n (vsV n vs)
section
variable {w0 w w' : World} {V n cv : Nat} {vs : Nat → Int}
theorem VarO.kept (h : VarO w0 w V n cv vs) (k : Kept w w') : VarO w0 w' V n cv vs := Own.kept h k
theorem VarO.at_ (h : VarO w0 w V n cv vs) {j : Nat} (hj : j < n) : w.cell? ⟨V, j, none⟩ = some (.int .i64 (vs j)) := Own.cell h j (vsV_at vs hj)
theorem VarO.free (h : VarO w0 w V n cv vs) (j : Nat) : w.frozen? ⟨V, j, none⟩ = false := Own.free h j
theorem VarO.put (h : VarO w0 w V n cv vs) (i : Nat) (x : Int) : VarO w0 (w.setCell ⟨V, i, none⟩ (.int .i64 x)) V n cv (updI vs i x) := by
  have := Own.put h i (.int .i64 x)
  rw [vsV_set] at this
  exact this
theorem VarO.lt (h : VarO w0 w V n cv vs) (hn : 0 < n) : V < w.heap.size := by
  obtain ⟨g, e, _, h2⟩ := Own.block h hn
  injection e with e
  injection e with e
  rw [e]; exact h2
end
theorem val_any (w0 : World) (V n cv : Nat) (vs : Nat → Int) (a : Int) (ha : a < 0 ∨ (0 ≤ a ∧ a < (n : Int))) (w : World) (h : VarO w0 w V n cv vs) :
    Calls Try.prog 66 #[.slice (some ⟨V, 0, none⟩) n cv, .int .i64 a] w fun e w' => e = .returned (.int .i64 (valI vs a)) ∧ w = w' := by
  rcases ha with ha | ⟨ha, hb⟩
  · have HV := Lib.hid (show valI vs a = 0 by unfold valI; rw [if_pos ha])
    rw [HV.out]
    have hd : decide (a < 0) = true := by rw [decide_eq_true_eq]; exact ha
    clear h ha
    go_enter Try.func66, Try.ntmps66
    go_wp2_with fail
    go_ret
    exact ⟨rfl, rfl⟩
  · obtain ⟨j, rfl⟩ := Int.eq_ofNat_of_zero_le ha
    have HV := Lib.hid (show valI vs (j : Int) = vs j by unfold valI; rw [if_neg (by omega), Int.toNat_natCast])
    rw [HV.out]
    have c0 := h.at_ (show j < n by omega)
    have hd : decide ((j : Int) < 0) = false := by rw [decide_eq_false_iff_not]; omega
    generalize vs j = x at c0 ⊢
    clear h
    go_enter Try.func66, Try.ntmps66
    go_wp2_with fail
    go_ret
    exact ⟨rfl, rfl⟩
end Go.Proofs.Ytnnddjanbfamkaa
