/- lattice.build: what holds on the way; its table as it is read. -/
import Derived.Test.YtgcpomdlajoifaaLat1
import Derived.Test.YtgcpomdlajoifaaLat2
namespace Go.Proofs.Ytgcpomdlajoifaa
open Go Go.RowKit
set_option linter.unusedVariables false

/-! ### the table as it is read -/
/-- a matrix of numbers, read place by place -/
def MatI (w : World) (A : Option Addr) (n : Nat) (f : Nat → Nat → Int) : Prop := ∃ b off, A = some ⟨b, off, none⟩ ∧ b < w.heap.size ∧ ∀ i, i < n → ∃ b2 off2 c2, w.cell? ⟨b, off + i, none⟩ = some (.slice (some ⟨b2, off2, none⟩) n c2) ∧ b2 < w.heap.size ∧ ∀ j, j < n → w.cell? ⟨b2, off2 + j, none⟩ = some (.int .i64 (f i j))
theorem MatI.kept {w w' : World} {A : Option Addr} {n : Nat} {f : Nat → Nat → Int} (h : MatI w A n f) (k : Kept w w') : MatI w' A n f := by
  obtain ⟨b, off, e, hb, h2⟩ := h
  refine ⟨b, off, e, Nat.lt_of_lt_of_le hb k.size, fun i hi => ?_⟩
  obtain ⟨b2, off2, c2, h3, h4, h5⟩ := h2 i hi
  exact ⟨b2, off2, c2, (k.cell (p := ⟨b, off + i, none⟩) hb).trans h3, Nat.lt_of_lt_of_le h4 k.size, fun j hj => (k.cell (p := ⟨b2, off2 + j, none⟩) h4).trans (h5 j hj)⟩
def outV (a : Nat) (V : Nat → Value) : List Value := (List.range a).map V
def updV (V : Nat → Value) (a : Nat) (v : Value) : Nat → Value := fun k => if k = a then v else V k
theorem outV_snoc (a : Nat) (V : Nat → Value) (v : Value) : outV (a + 1) (updV V a v) = outV a V ++ [v] := by
  unfold outV
  rw [List.range_succ, List.map_append]
  congr 1
  · apply List.map_congr_left
    intro k hk
    rw [List.mem_range] at hk
    have : k ≠ a := by omega
    simp [updV, this]
  · simp [updV]
def rowI (f : Nat → Nat → Int) (i b : Nat) : List Value := (List.range b).map fun j => iv (f i j)
theorem rowI_snoc (f : Nat → Nat → Int) (i b : Nat) : rowI f i (b + 1) = rowI f i b ++ [iv (f i b)] := by
  unfold rowI
  rw [List.range_succ, List.map_append]
  rfl
theorem MatI.of {w1 w : World} {E2 E : TypeId} {A : Option Addr} {n c : Nat} {V : Nat → Value} {f : Nat → Nat → Int} (o : Own w1 w E2 1 (.slice A n c) n (outV n V)) (r : ∀ i, i < n → Own w1 w E 1 (V i) n (rowI f i n)) (hn : 0 < n) : MatI w A n f := by
  obtain ⟨g, rfl, _, hg⟩ := o.block hn
  refine ⟨g, 0, rfl, hg, fun i hi => ?_⟩
  have hr := r i hi
  obtain ⟨A2, c2, e, _, _⟩ := hr.form
  rw [e] at hr
  obtain ⟨g2, rfl, _, hg2⟩ := hr.block hn
  refine ⟨g2, 0, c2, ?_, hg2, fun j hj => ?_⟩
  · rw [Nat.zero_add]
    refine o.cell i ?_
    unfold outV
    rw [List.getElem?_map, List.getElem?_range hi, ← e]
    rfl
  · rw [Nat.zero_add]
    refine hr.cell j ?_
    unfold rowI
    rw [List.getElem?_map, List.getElem?_range hj]
    rfl
/-- a table, where its struct stands -/
def TabOk (w : World) (B n : Nat) (ps : List Pr) : Prop :=
  ∃ (Au Ad Aj Am : Option Addr) (cu cd cj cm : Nat), B < w.heap.size ∧ w.cell? ⟨B, 0, none⟩ = some (.slice Au n cu) ∧ w.cell? ⟨B, 1, none⟩ = some (.slice Ad n cd) ∧ w.cell? ⟨B, 2, none⟩ = some (.slice Aj n cj) ∧ w.cell? ⟨B, 3, none⟩ = some (.slice Am n cm) ∧
    w.cell? ⟨B, 4, none⟩ = some (.bool (isL n ps)) ∧ SlW w Au n (upL n ps) ∧ MatI w Aj n (joinI n ps) ∧ MatI w Am n (meetI n ps)
theorem TabOk.kept {w w' : World} {B n : Nat} {ps : List Pr} (h : TabOk w B n ps) (k : Kept w w') : TabOk w' B n ps := by
  obtain ⟨Au, Ad, Aj, Am, cu, cd, cj, cm, h0, h1, h2, h3, h4, h5, h6, h7, h8⟩ := h
  exact ⟨Au, Ad, Aj, Am, cu, cd, cj, cm, Nat.lt_of_lt_of_le h0 k.size, (k.cell (p := ⟨B, 0, none⟩) h0).trans h1, (k.cell (p := ⟨B, 1, none⟩) h0).trans h2, (k.cell (p := ⟨B, 2, none⟩) h0).trans h3, (k.cell (p := ⟨B, 3, none⟩) h0).trans h4, (k.cell (p := ⟨B, 4, none⟩) h0).trans h5, h6.kept k, h7.kept k, h8.kept k⟩
/-! ### the other way round -/
def DownI (n : Nat) (ups : List (BitVec 32)) (i j : Nat) (md : Nat → BitVec 32) : Prop := ∀ b, b < n → ∀ a, (md b).getLsbD a = (decide (a < i ∨ (a = i ∧ b < j)) && (nth ups a).getLsbD b)
theorem DownI.start (n : Nat) (ups : List (BitVec 32)) : DownI n ups 0 0 fun _ => 0#32 := fun b _ a => by simp
theorem one_shift (x : BitVec 32) (i j a : Nat) (hi : i < 32) : ((x >>> j &&& 1#32) <<< i).getLsbD a = (decide (a = i) && x.getLsbD j) := by
  rw [and1_eq, BitVec.getLsbD_ushiftRight, Nat.add_zero]
  cases x.getLsbD j
  · simp
  · rw [if_pos rfl, getLsbD_bit]
    by_cases e : i = a
    · subst e; simp [hi]
    · simp [e, Ne.symm e]
theorem DownI.step {n : Nat} {ups : List (BitVec 32)} {i j : Nat} {md : Nat → BitVec 32} (h : DownI n ups i j md) (hi : i < 32) : DownI n ups i (j + 1) (updN md j (md j ||| ((nth ups i >>> j &&& 1#32) <<< i))) := by
  intro b hb a
  unfold updN
  by_cases e : b = j
  · subst e
    rw [if_pos rfl, BitVec.getLsbD_or, h b hb a, one_shift _ _ _ _ hi]
    by_cases e2 : a = i
    · subst e2
      simp
    · simp [e2]
  · rw [if_neg e, h b hb a]
    have h1 : (a < i ∨ (a = i ∧ b < j + 1)) ↔ (a < i ∨ (a = i ∧ b < j)) := by omega
    rw [decide_eq_decide.2 h1]
theorem DownI.next {n : Nat} {ups : List (BitVec 32)} {i : Nat} {md : Nat → BitVec 32} (h : DownI n ups i n md) : DownI n ups (i + 1) 0 md := by
  intro b hb a
  rw [h b hb a]
  have h1 : (a < i ∨ (a = i ∧ b < n)) ↔ (a < i + 1 ∨ (a = i + 1 ∧ b < 0)) := by omega
  rw [decide_eq_decide.2 h1]
theorem DownI.done {n : Nat} {ps : List Pr} {md : Nat → BitVec 32} (hn : n ≤ 32) (h : DownI n (upL n ps) n 0 md) : (List.range n).map md = upL n (turnP ps) := by
  apply List.ext_getElem
  · simp [upL_length]
  · intro b h1 h2
    have hb : b < n := by simpa using h1
    rw [List.getElem_map, List.getElem_range, ← nth_eq _ _ h2]
    apply BitVec.eq_of_getLsbD_eq
    intro a _
    rw [h b hb a, upL_bit _ hn hb, turn_under]
    by_cases ha : a < n
    · rw [upL_bit ps hn ha]
      simp [ha, hb]
    · simp [ha]
/-! ### has every pair both? -/
noncomputable def okJ (n : Nat) (ps : List Pr) (i j : Nat) : Bool := decide (0 ≤ joinI n ps i j) && decide (0 ≤ meetI n ps i j)
noncomputable def isUp (n : Nat) (ps : List Pr) (a b : Nat) : Bool := ((List.range a).all fun i => (List.range n).all fun j => okJ n ps i j) && (List.range b).all fun j => okJ n ps a j
theorem isUp_start (n : Nat) (ps : List Pr) : isUp n ps 0 0 = true := rfl
theorem isUp_step (n : Nat) (ps : List Pr) (a b : Nat) : isUp n ps a (b + 1) = (isUp n ps a b && okJ n ps a b) := by
  unfold isUp
  rw [List.range_succ (n := b), List.all_append]
  simp [Bool.and_assoc]
theorem isUp_next (n : Nat) (ps : List Pr) (a : Nat) : isUp n ps (a + 1) 0 = isUp n ps a n := by
  unfold isUp
  rw [List.range_succ (n := a), List.all_append]
  simp
theorem code_some (o : Option Nat) : decide (0 ≤ codeO o) = o.isSome := by
  cases o with
  | none => rfl
  | some k => simp [codeO]
theorem isUp_done (n : Nat) (ps : List Pr) : isUp n ps n 0 = isL n ps := by
  unfold isUp isL okJ joinI meetI
  simp only [code_some]
  simp
theorem rep_zero (n : Nat) : rep n (.int .u32 0) = (rowsV n fun _ => 0#32).toArray := by
  unfold rep rowsV
  congr 1
  apply List.ext_getElem?
  intro i
  by_cases h : i < n
  · rw [List.getElem?_replicate, if_pos h, List.getElem?_map, List.getElem?_range h]
    rfl
  · rw [List.getElem?_replicate, if_neg h]
    symm
    rw [List.getElem?_eq_none_iff]
    simp
    omega
theorem info_ints : (Try.prog.info? 32).map (fun i => (i.zero, i.size, i.bytes)) = some (some (.slice none 0 0), 1, 24) := by kernel_rfl
end Go.Proofs.Ytgcpomdlajoifaa
