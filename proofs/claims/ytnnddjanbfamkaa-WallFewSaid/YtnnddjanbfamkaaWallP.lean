/- Who has seen the one must not see the other one: plain laws. -/
import Derived.Test.YtnnddjanbfamkaaOwn
namespace Go.Proofs.Ytnnddjanbfamkaa
open Go
set_option linter.unusedVariables false

def updN (m : Nat → BitVec 32) (k : Nat) (x : BitVec 32) : Nat → BitVec 32 := fun i => if i = k then x else m i
/-- the firm of a thing, the class of a firm -/
def frm (firm : List Int) (k : Nat) : Int := firm.getD k 0
def cls (clss : List Int) (f : Int) : Int := clss.getD f.toNat 0
/-- has one read a thing of a firm of which it is so? (the first k things) -/
def anyF (firm : List Int) (r : BitVec 32) (so : Int → Bool) (k : Nat) : Bool := (List.range k).any fun j => r.getLsbD j && (decide (0 ≤ frm firm j) && so (frm firm j))
theorem anyF_succ (firm : List Int) (r : BitVec 32) (so : Int → Bool) (k : Nat) : anyF firm r so (k + 1) = (anyF firm r so k || (r.getLsbD k && (decide (0 ≤ frm firm k) && so (frm firm k)))) := by
  unfold anyF
  rw [List.range_succ, List.any_append]
  simp
theorem anyF_false {firm : List Int} {r : BitVec 32} {so : Int → Bool} {k : Nat} (h : anyF firm r so k = false) {j : Nat} (hj : j < k) (h1 : r.getLsbD j = true) (h2 : 0 ≤ frm firm j) : so (frm firm j) = false := by
  unfold anyF at h
  rw [List.any_eq_false] at h
  have := h j (List.mem_range.2 hj)
  rw [h1] at this
  have h2' : decide (0 ≤ frm firm j) = true := by simpa using h2
  rw [h2'] at this
  simpa using this
/-- a firm at odds with own -/
def oddsF (clss : List Int) (own f : Int) : Bool := f != own && cls clss f == cls clss own
def otherF (own f : Int) : Bool := f != own
/-- what holds deed by deed: r who has read what, k who knows what, f what has come into what -/
structure WInv (firm clss : List Int) (r k f : Nat → BitVec 32) : Prop where
  apart : ∀ u i j, i < firm.length → j < firm.length → (r u).getLsbD i = true → (r u).getLsbD j = true → 0 ≤ frm firm i → 0 ≤ frm firm j → frm firm i ≠ frm firm j → cls clss (frm firm i) ≠ cls clss (frm firm j)
  self : ∀ i, i < firm.length → (f i).getLsbD i = true
  own : ∀ i j, i < firm.length → j < firm.length → (f i).getLsbD j = true → 0 ≤ frm firm j → frm firm j = frm firm i
  seen : ∀ u j, j < firm.length → (k u).getLsbD j = true → 0 ≤ frm firm j → ∃ i, i < firm.length ∧ (r u).getLsbD i = true ∧ frm firm i = frm firm j
section
variable {firm clss : List Int} {r k f : Nat → BitVec 32}
theorem WInv.start (firm clss : List Int) (h8 : firm.length ≤ 8) : WInv firm clss (fun _ => 0#32) (fun _ => 0#32) fun i => 1#32 <<< i := by
  refine ⟨fun u i j _ _ h => by simp at h, fun i hi => ?_, fun i j hi hj h _ => ?_, fun u j _ h => by simp at h⟩
  · rw [getLsbD_bit]; simp; omega
  · rw [getLsbD_bit, Bool.and_eq_true, decide_eq_true_eq] at h
    rw [h.1]
theorem WInv.read (h : WInv firm clss r k f) (h8 : firm.length ≤ 8) {u t : Nat} (ht : t < firm.length) (hno : frm firm t < 0 ∨ anyF firm (r u) (oddsF clss (frm firm t)) firm.length = false) :
    WInv firm clss (updN r u (r u ||| 1#32 <<< t)) (updN k u (k u ||| f t)) f := by
  have bit : ∀ i, i < firm.length → (r u ||| 1#32 <<< t).getLsbD i = true → (r u).getLsbD i = true ∨ i = t := by
    intro i hi hb
    rw [BitVec.getLsbD_or, getLsbD_bit, Bool.or_eq_true, Bool.and_eq_true, decide_eq_true_eq] at hb
    exact hb.imp id fun h => h.1.symm
  have new : ∀ i, i < firm.length → (r u).getLsbD i = true → 0 ≤ frm firm i → 0 ≤ frm firm t → frm firm i ≠ frm firm t → cls clss (frm firm i) ≠ cls clss (frm firm t) := by
    intro i hi h1 h2 h3 h4 he
    rcases hno with hno | hno
    · omega
    · have := anyF_false hno hi h1 h2
      unfold oddsF at this
      rw [he] at this
      simp at this
      exact h4 this
  refine ⟨?_, h.self, h.own, ?_⟩
  · intro v i j hi hj h1 h2 h3 h4 h5
    unfold updN at h1 h2
    split at h1
    · rw [if_pos ‹_›] at h2
      rcases bit i hi h1 with g1 | e1
      · rcases bit j hj h2 with g2 | e2
        · exact h.apart u i j hi hj g1 g2 h3 h4 h5
        · rw [e2] at h4 h5 ⊢
          exact new i hi g1 h3 h4 h5
      · rw [e1] at h3 h5 ⊢
        rcases bit j hj h2 with g2 | e2
        · exact fun e => new j hj g2 h4 h3 (fun e2 => h5 e2.symm) e.symm
        · rw [e2] at h5
          exact absurd rfl h5
    · rw [if_neg ‹_›] at h2
      exact h.apart v i j hi hj h1 h2 h3 h4 h5
  · intro v j hj h1 h2
    unfold updN at h1 ⊢
    split at h1
    · rw [if_pos ‹_›]
      rw [BitVec.getLsbD_or, Bool.or_eq_true] at h1
      rcases h1 with h1 | h1
      · obtain ⟨i, hi, h3, h4⟩ := h.seen u j hj h1 h2
        exact ⟨i, hi, by rw [BitVec.getLsbD_or, h3]; rfl, h4⟩
      · refine ⟨t, ht, ?_, (h.own t j ht hj h1 h2).symm⟩
        rw [BitVec.getLsbD_or, getLsbD_bit]
        have : t < 32 := by omega
        simp [this]
    · rw [if_neg ‹_›]
      exact h.seen v j hj h1 h2
theorem WInv.write (h : WInv firm clss r k f) {u t : Nat} (ht : t < firm.length) (hno : anyF firm (r u) (otherF (frm firm t)) firm.length = false) : WInv firm clss r k (updN f t (f t ||| k u)) := by
  refine ⟨h.apart, fun i hi => ?_, fun i j hi hj h1 h2 => ?_, h.seen⟩
  · unfold updN
    split
    · rename_i e
      rw [BitVec.getLsbD_or, ← e, h.self i hi]; rfl
    · exact h.self i hi
  · unfold updN at h1
    split at h1
    · rename_i e
      subst e
      rw [BitVec.getLsbD_or, Bool.or_eq_true] at h1
      rcases h1 with h1 | h1
      · exact h.own i j hi hj h1 h2
      · obtain ⟨x, hx, h3, h4⟩ := h.seen u j hj h1 h2
        have := anyF_false hno hx h3 (by rw [h4]; exact h2)
        unfold otherF at this
        rw [h4] at this
        simpa using this
    · exact h.own i j hi hj h1 h2
end
end Go.Proofs.Ytnnddjanbfamkaa
