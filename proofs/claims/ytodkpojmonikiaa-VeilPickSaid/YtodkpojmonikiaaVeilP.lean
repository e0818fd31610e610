/- Rows that look alike: plain facts, with no program in sight. -/
import Derived.Test.YtodkpojmonikiaaKnowP
namespace Go.Proofs.Ytodkpojmonikiaa
open Go Go.RowKit

/-- how many columns -/
def wid (rs : List Rv) : Nat := (rs.getD 0 (none, 0, 0, [])).2.1
def widI (rs : List Rv) : Int := ((wid rs : Nat) : Int)
def veilF (rs : List Rv) (hid : BitVec 32) : Int :=
  if rs.length < 1 ∨ 8 < rs.length ∨ 6 < wid rs then 1 else if rs.any (neLen (widI rs)) = true then 3 else if fitB (wid rs) hid then 0 else 4
theorem veilF_zero {rs : List Rv} {hid : BitVec 32} (h : veilF rs hid = 0) : (1 ≤ rs.length ∧ rs.length ≤ 8 ∧ wid rs ≤ 6) ∧ (∀ r ∈ rs, r.2.1 = wid rs) ∧ fitB (wid rs) hid = true := by
  unfold veilF at h
  split at h
  · exact absurd h (by decide)
  rename_i h1
  split at h
  · exact absurd h (by decide)
  rename_i h2
  split at h
  · rename_i h3
    refine ⟨by omega, fun r hr => ?_, h3⟩
    rw [Bool.not_eq_true, List.any_eq_false] at h2
    have := h2 r hr
    unfold neLen widI at this
    have h4 : (r.2.1 : Int) = (wid rs : Int) := by simpa using this
    omega
  · exact absurd h (by decide)
theorem veilF_ok {rs : List Rv} {hid h2 : BitVec 32} (h : veilF rs hid = 0) (k : fitB (wid rs) h2 = true) : veilF rs h2 = 0 := by
  unfold veilF at h ⊢
  rw [k]
  split
  · rename_i q; rw [if_pos q] at h; exact absurd h (by decide)
  · rename_i q
    rw [if_neg q] at h
    split
    · rename_i q2; rw [if_pos q2] at h; exact absurd h (by decide)
    · rfl
/-- do two rows look alike, in the first k columns? -/
def alikeTo (xs ys : List Int) (hid : BitVec 32) (k : Nat) : Bool := (List.range k).all fun i => hid.getLsbD i || iat xs i == iat ys i
theorem alikeTo_succ (xs ys : List Int) (hid : BitVec 32) (k : Nat) : alikeTo xs ys hid (k + 1) = (alikeTo xs ys hid k && (hid.getLsbD k || iat xs k == iat ys k)) := all_range _ k
theorem alikeTo_no {xs ys : List Int} {hid : BitVec 32} {k m : Nat} (hk : k < m) (h : (hid.getLsbD k || iat xs k == iat ys k) = false) : alikeTo xs ys hid m = false := by
  unfold alikeTo
  rw [List.all_eq_false]
  exact ⟨k, List.mem_range.2 hk, by rw [h]; simp⟩
theorem alikeTo_iff {xs ys : List Int} {hid : BitVec 32} {m : Nat} : alikeTo xs ys hid m = true ↔ ∀ i, i < m → hid.getLsbD i = false → iat xs i = iat ys i := by
  unfold alikeTo
  rw [List.all_eq_true]
  constructor
  · intro h i hi hf
    have := h i (List.mem_range.2 hi)
    rw [hf, Bool.false_or, beq_iff_eq] at this
    exact this
  · intro h i hi
    cases hb : hid.getLsbD i
    · rw [Bool.false_or, beq_iff_eq]
      exact h i (List.mem_range.1 hi) hb
    · rfl
/-- the places of the rows that look alike to one, among the first k -/
def pickTo (m : Nat) (rows : List (List Int)) (hid : BitVec 32) (one : List Int) (k : Nat) : List Int := ((List.range k).filter fun i => alikeTo (rows.getD i []) one hid m).map fun i : Nat => (i : Int)
theorem pickTo_succ (m : Nat) (rows : List (List Int)) (hid : BitVec 32) (one : List Int) (k : Nat) : pickTo m rows hid one (k + 1) = pickTo m rows hid one k ++ (if alikeTo (rows.getD k []) one hid m then [(k : Int)] else []) := by
  unfold pickTo
  rw [List.range_succ, List.filter_append, List.map_append]
  congr 1
  rw [List.filter_cons, List.filter_nil]
  by_cases h : alikeTo (rows.getD k []) one hid m = true
  · rw [if_pos h, if_pos h]; rfl
  · rw [if_neg h, if_neg h]; rfl
theorem pickTo_len (m : Nat) (rows : List (List Int)) (hid : BitVec 32) (one : List Int) (k : Nat) : (pickTo m rows hid one k).length ≤ k := by
  unfold pickTo
  rw [List.length_map]
  exact Nat.le_trans (List.length_filter_le _ _) (by simp)
def pickN (m : Nat) (rows : List (List Int)) (hid : BitVec 32) (one : List Int) : Nat := (pickTo m rows hid one rows.length).length
theorem pickTo_mem {m : Nat} {rows : List (List Int)} {hid : BitVec 32} {one : List Int} {k i : Nat} : (i : Int) ∈ pickTo m rows hid one k ↔ i < k ∧ alikeTo (rows.getD i []) one hid m = true := by
  unfold pickTo
  rw [List.mem_map]
  constructor
  · rintro ⟨a, ha, e⟩
    have : a = i := by omega
    subst this
    rw [List.mem_filter, List.mem_range] at ha
    exact ha
  · rintro ⟨h1, h2⟩
    exact ⟨i, List.mem_filter.2 ⟨List.mem_range.2 h1, h2⟩, rfl⟩
theorem pickN_pos {m : Nat} {rows : List (List Int)} {hid : BitVec 32} {i : Nat} (hi : i < rows.length) : 1 ≤ pickN m rows hid (rows.getD i []) := by
  have : (i : Int) ∈ pickTo m rows hid (rows.getD i []) rows.length := pickTo_mem.2 ⟨hi, alikeTo_iff.2 fun _ _ _ => rfl⟩
  exact List.length_pos_of_mem this
theorem pickN_mono {m : Nat} {rows : List (List Int)} {a b : BitVec 32} {one : List Int} (h : subB a b = true) : pickN m rows a one ≤ pickN m rows b one := by
  unfold pickN pickTo
  rw [List.length_map, List.length_map, ← List.countP_eq_length_filter, ← List.countP_eq_length_filter]
  refine List.countP_mono_left fun i _ hi => alikeTo_iff.2 fun j hj hf => ?_
  refine alikeTo_iff.1 hi j hj ?_
  cases hb : a.getLsbD j
  · rfl
  · rw [subB_iff.1 h j hb] at hf; cases hf
theorem pickN_all {m : Nat} {rows : List (List Int)} {hid : BitVec 32} {one : List Int} (h : ∀ i, i < m → hid.getLsbD i = true) : pickN m rows hid one = rows.length := by
  unfold pickN pickTo
  rw [List.length_map, List.filter_eq_self.2]
  · simp
  · intro i _
    exact alikeTo_iff.2 fun j hj hf => by rw [h j hj] at hf; cases hf
/-- the fewest, among the first k rows -/
def crowdTo (m : Nat) (rows : List (List Int)) (hid : BitVec 32) : Nat → Nat
  | 0 => rows.length
  | k + 1 => min (crowdTo m rows hid k) (pickN m rows hid (rows.getD k []))
def crowdN (m : Nat) (rows : List (List Int)) (hid : BitVec 32) : Nat := crowdTo m rows hid rows.length
theorem crowdTo_le (m : Nat) (rows : List (List Int)) (hid : BitVec 32) (k : Nat) : crowdTo m rows hid k ≤ rows.length := by
  induction k with
  | zero => exact Nat.le_refl _
  | succ k ih => show min _ _ ≤ _; omega
theorem crowdTo_pos {m : Nat} {rows : List (List Int)} {hid : BitVec 32} (h : 1 ≤ rows.length) : ∀ k, k ≤ rows.length → 1 ≤ crowdTo m rows hid k := by
  intro k
  induction k with
  | zero => intro _; exact h
  | succ k ih =>
    intro hk
    have := ih (by omega)
    have h2 := pickN_pos (m := m) (hid := hid) (rows := rows) (i := k) (by omega)
    show 1 ≤ min _ _
    omega
theorem crowdTo_mono {m : Nat} {rows : List (List Int)} {a b : BitVec 32} (h : subB a b = true) (k : Nat) : crowdTo m rows a k ≤ crowdTo m rows b k := by
  induction k with
  | zero => exact Nat.le_refl _
  | succ k ih =>
    have := pickN_mono (m := m) (rows := rows) (one := rows.getD k []) h
    show min _ _ ≤ min _ _
    omega
theorem crowdTo_all {m : Nat} {rows : List (List Int)} {hid : BitVec 32} (h : ∀ i, i < m → hid.getLsbD i = true) (k : Nat) : crowdTo m rows hid k = rows.length := by
  induction k with
  | zero => rfl
  | succ k ih =>
    show min _ _ = _
    rw [ih, pickN_all h]
    omega
theorem crowdN_mem {m : Nat} {rows : List (List Int)} {hid : BitVec 32} {i : Nat} (hi : i < rows.length) : crowdN m rows hid ≤ pickN m rows hid (rows.getD i []) := by
  have : ∀ k, i < k → crowdTo m rows hid k ≤ pickN m rows hid (rows.getD i []) := by
    intro k
    induction k with
    | zero => intro h; omega
    | succ k ih =>
      intro h
      show min _ _ ≤ _
      by_cases e : i = k
      · subst e; omega
      · have := ih (by omega); omega
  exact this _ hi
end Go.Proofs.Ytodkpojmonikiaa
