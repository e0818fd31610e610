/- Plain laws of resolution. -/
import Derived.Test.YtekpifobhgjepaaHornP
namespace Go.Proofs.Ytekpifobhgjepaa
open Go
set_option linter.unusedVariables false

/-- the resolvent at a variable -/
def resAt (a b : Ru) (i : Nat) : Ru := ((a.1 &&& ~~~(1#32 <<< i)) ||| b.1, a.2 ||| (b.2 &&& ~~~(1#32 <<< i)))
theorem hold_res {a b : Ru} {i : Nat} {s : BitVec 32} (hi : i < 32) (ha : holdB s a = true) (hb : holdB s b = true) : holdB s (resAt a b i) = true := by
  have hbit : ∀ j, (1#32 <<< i).getLsbD j = true ↔ j = i := fun j => by
    rw [getLsbD_bit]
    constructor
    · intro h; simp at h; omega
    · rintro rfl; simp [hi]
  have no : ∀ j, j ≠ i → (1#32 <<< i).getLsbD j = false := fun j hj => by
    cases h : (1#32 <<< i).getLsbD j
    · rfl
    · exact absurd ((hbit j).1 h) hj
  rw [holdB_iff]
  cases hs : s.getLsbD i
  · -- the variable is false: a holds by another literal
    rcases holdB_iff.1 ha with ⟨j, h1, h2⟩ | ⟨j, h1, h2⟩
    · have hj : j ≠ i := fun e => by rw [e, hs] at h2; cases h2
      exact .inl ⟨j, by unfold resAt; rw [BitVec.getLsbD_or, bit_andNot.2 ⟨h1, no j hj⟩]; rfl, h2⟩
    · exact .inr ⟨j, by unfold resAt; rw [BitVec.getLsbD_or, h1]; rfl, h2⟩
  · rcases holdB_iff.1 hb with ⟨j, h1, h2⟩ | ⟨j, h1, h2⟩
    · exact .inl ⟨j, by unfold resAt; rw [BitVec.getLsbD_or, h1]; simp, h2⟩
    · have hj : j ≠ i := fun e => by rw [e, hs] at h2; cases h2
      exact .inr ⟨j, by unfold resAt; rw [BitVec.getLsbD_or, bit_andNot.2 ⟨h1, no j hj⟩]; simp, h2⟩
theorem sol_res {n : Nat} {rs : List Ru} {a b : Ru} {i : Nat} (hi : i < 32) (ha : a ∈ rs) (hb : b ∈ rs) (yes no s : BitVec 32) : Sol n (rs ++ [resAt a b i]) yes no s ↔ Sol n rs yes no s := by
  unfold Sol
  constructor
  · rintro ⟨h1, h2, h3, h4⟩
    exact ⟨h1, h2, h3, fun r hr => h4 r (List.mem_append.2 (.inl hr))⟩
  · rintro ⟨h1, h2, h3, h4⟩
    refine ⟨h1, h2, h3, fun r hr => ?_⟩
    rcases List.mem_append.1 hr with hr | hr
    · exact h4 r hr
    · rw [List.mem_singleton] at hr
      rw [hr]
      exact hold_res hi (h4 a ha) (h4 b hb)
theorem res_fit {n : Nat} {a b : Ru} {i : Nat} (ha : fitB n (a.1 ||| a.2) = true) (hb : fitB n (b.1 ||| b.2) = true) : fitB n ((resAt a b i).1 ||| (resAt a b i).2) = true := by
  rw [fitB_or, Bool.and_eq_true] at ha hb
  unfold resAt
  simp only [fitB_or, Bool.and_eq_true]
  have sub : ∀ x y : BitVec 32, subB (x &&& ~~~y) x = true := fun x y => subB_iff.2 fun j hj => (bit_andNot.1 hj).1
  exact ⟨⟨fitB_sub (sub _ _) ha.1, hb.1⟩, ha.2, fitB_sub (sub _ _) hb.2⟩
end Go.Proofs.Ytekpifobhgjepaa
