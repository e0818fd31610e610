/- The walk of order.Table. -/
import Derived.Test.YtgcpomdlajoifaaOrder
import Derived.Test.YtgcpomdlajoifaaArr
import Derived.BigRegion
namespace Go.Proofs.Ytgcpomdlajoifaa
open Go Go.RowKit
set_option linter.unusedVariables false

/-- the cells of n rows -/
def rowsV (n : Nat) (m : Nat → BitVec 32) : List Value := (List.range n).map fun i => wv (m i)
def updN (m : Nat → BitVec 32) (k : Nat) (x : BitVec 32) : Nat → BitVec 32 := fun i => if i = k then x else m i
theorem rowsV_length (n : Nat) (m : Nat → BitVec 32) : (rowsV n m).length = n := by simp [rowsV]
theorem rowsV_at {n k : Nat} (m : Nat → BitVec 32) (h : k < n) : (rowsV n m)[k]? = some (.int .u32 (W (m k))) := by
  unfold rowsV wv
  simp [h]
theorem rowsV_set (n : Nat) (m : Nat → BitVec 32) (k : Nat) (x : BitVec 32) : (rowsV n m).set k (.int .u32 (W x)) = rowsV n (updN m k x) := by
  unfold rowsV updN wv
  apply List.ext_getElem
  · simp
  · intro i h1 h2
    rw [List.getElem_set]
    simp only [List.getElem_map, List.getElem_range]
    by_cases e : k = i
    · subst e
      simp
    · rw [if_neg e, if_neg (fun h => e h.symm)]
theorem rowsV_sl {w0 w : World} {B n : Nat} {e : TypeId} {m : Nat → BitVec 32} (h : Row w0 w B e (rowsV n m)) : SlW w (some ⟨B, 0, none⟩) n ((List.range n).map m) := by
  refine ⟨?_, by simp⟩
  have := h.sl n (rowsV_length n m)
  unfold rowsV at this
  rw [List.map_map]
  exact this
theorem rep_fill (n : Nat) : rep n (.int .u32 0) = (fillTo (fun i => Value.int .u32 (W (1#32 <<< i))) (.int .u32 0) n 0).toArray := by
  rw [fillTo_zero]
  rfl

/-- what Table hands back -/
def RetTab (w : World) (n : Int) (ps : List Pr) (e : Ending) (w' : World) : Prop :=
  Kept w w' ∧ ((ordF n ps = 0 ∧ ∃ A c, e = .returned (.tuple #[.slice A n.toNat c, .int .i64 0]) ∧ SlW w' A n.toNat (upL n.toNat ps)) ∨
    ((ordF n ps != 0) = true ∧ e = .returned (.tuple #[.slice none 0 0, .int .i64 (ordF n ps)])))
/-- the rows behind k pairs -/
def Begun (n : Nat) (ps : List Pr) (m : Nat → BitVec 32) : Prop := ∀ i, i < n → fitB n (m i) = true ∧ ∀ j, j < n → (m i).getLsbD j = (i == j || ps.contains ((i : Int), (j : Int)))
theorem Begun.start (n : Nat) (hn : n ≤ 32) : Begun n [] fun i => 1#32 <<< i := by
  intro i hi
  refine ⟨fitB_bit hi, fun j hj => ?_⟩
  rw [getLsbD_bit]
  have : decide (j < 32) = true := by simp; omega
  rw [this]
  by_cases h : i = j
  · simp [h]
  · simp [h]
theorem Begun.step {n : Nat} (hn : n ≤ 32) {ps : List Pr} {m : Nat → BitVec 32} (h : Begun n ps m) {a b : Nat} (ha : a < n) (hb : b < n) : Begun n (ps ++ [((a : Int), (b : Int))]) (updN m a (m a ||| 1#32 <<< b)) := by
  intro i hi
  obtain ⟨h1, h2⟩ := h i hi
  unfold updN
  by_cases e : i = a
  · subst e
    rw [if_pos rfl]
    refine ⟨by rw [fitB_or, h1, fitB_bit hb]; rfl, fun j hj => ?_⟩
    rw [BitVec.getLsbD_or, h2 j hj, getLsbD_bit, List.contains_append]
    have : decide (j < 32) = true := by simp; omega
    rw [this, Bool.and_true, Bool.or_assoc]
    congr 2
    by_cases h : b = j
    · subst h
      simp
    · have h' : ¬ (j : Int) = (b : Int) := by omega
      simp [h, h']
  · rw [if_neg e]
    refine ⟨h1, fun j hj => ?_⟩
    rw [h2 j hj, List.contains_append]
    have h' : ¬ (i : Int) = (a : Int) := by omega
    simp [h']
/-- the rows in the midst of the pass of k: those below i are done -/
def Passed (n : Nat) (ps : List Pr) (k i : Nat) (m : Nat → BitVec 32) : Prop := ∀ x, x < n → fitB n (m x) = true ∧ ∀ j, j < n → (m x).getLsbD j = if x < i then matR ps (k + 1) x j else matR ps k x j
theorem Passed.start {n : Nat} {ps : List Pr} {m : Nat → BitVec 32} (h : Begun n ps m) : Passed n ps 0 0 m := by
  intro x hx
  refine ⟨(h x hx).1, fun j hj => ?_⟩
  rw [if_neg (by omega)]
  exact (h x hx).2 j hj
theorem Passed.next {n k : Nat} {ps : List Pr} {m : Nat → BitVec 32} (h : Passed n ps k n m) : Passed n ps (k + 1) 0 m := by
  intro x hx
  refine ⟨(h x hx).1, fun j hj => ?_⟩
  rw [if_neg (by omega)]
  have := (h x hx).2 j hj
  rw [if_pos hx] at this
  exact this
theorem Passed.bit {n k i : Nat} {ps : List Pr} {m : Nat → BitVec 32} (h : Passed n ps k i m) (hi : i < n) (hk : k < n) : (m i).getLsbD k = matR ps k i k := by
  have := (h i hi).2 k hk
  rw [if_neg (by omega)] at this
  exact this
theorem Passed.skip {n k i : Nat} {ps : List Pr} {m : Nat → BitVec 32} (h : Passed n ps k i m) (hi : i < n) (hk : k < n) (hno : (m i).getLsbD k = false) : Passed n ps k (i + 1) m := by
  rw [h.bit hi hk] at hno
  intro x hx
  refine ⟨(h x hx).1, fun j hj => ?_⟩
  have h2 := (h x hx).2 j hj
  by_cases e : x = i
  · subst e
    rw [if_neg (by omega)] at h2
    rw [if_pos (by omega), h2]
    show _ = (matR ps k x j || (matR ps k x k && matR ps k k j))
    rw [hno]
    simp
  · rw [h2]
    by_cases hx2 : x < i
    · rw [if_pos hx2, if_pos (by omega)]
    · rw [if_neg hx2, if_neg (by omega)]
theorem Passed.add {n k i : Nat} {ps : List Pr} {m : Nat → BitVec 32} (h : Passed n ps k i m) (hi : i < n) (hk : k < n) (hyes : (m i).getLsbD k = true) : Passed n ps k (i + 1) (updN m i (m i ||| m k)) := by
  rw [h.bit hi hk] at hyes
  intro x hx
  unfold updN
  by_cases e : x = i
  · subst e
    rw [if_pos rfl]
    refine ⟨by rw [fitB_or, (h x hx).1, (h k hk).1]; rfl, fun j hj => ?_⟩
    rw [if_pos (by omega), BitVec.getLsbD_or]
    have h2 := (h x hx).2 j hj
    have h3 := (h k hk).2 j hj
    rw [if_neg (by omega)] at h2
    have h4 : (m k).getLsbD j = matR ps k k j := by
      rw [h3]
      split
      · exact matR_row ps k j
      · rfl
    rw [h2, h4]
    show _ = (matR ps k x j || (matR ps k x k && matR ps k k j))
    rw [hyes, Bool.true_and]
  · rw [if_neg e]
    refine ⟨(h x hx).1, fun j hj => ?_⟩
    rw [(h x hx).2 j hj]
    by_cases hx2 : x < i
    · rw [if_pos hx2, if_pos (by omega)]
    · rw [if_neg hx2, if_neg (by omega)]
theorem Passed.done {n : Nat} (hn : n ≤ 32) {ps : List Pr} (hp : ∀ p ∈ ps, (0 ≤ p.1 ∧ p.1 < (n : Int)) ∧ 0 ≤ p.2 ∧ p.2 < (n : Int)) {m : Nat → BitVec 32} (h : Passed n ps n 0 m) : (List.range n).map m = upL n ps := by
  unfold upL
  apply List.map_congr_left
  intro i hi
  rw [List.mem_range] at hi
  refine wordN_ext hn (h i hi).1 fun j hj => ?_
  have := (h i hi).2 j hj
  rw [if_neg (by omega)] at this
  rw [this, matR_under hp i j hi]
end Go.Proofs.Ytgcpomdlajoifaa
