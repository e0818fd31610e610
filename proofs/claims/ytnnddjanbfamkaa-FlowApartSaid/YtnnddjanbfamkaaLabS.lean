/- Slices of labels (a level and a word), read as lists; arrays of labels as functions. -/
import Derived.Test.YtnnddjanbfamkaaLabel
import Derived.Test.YtnnddjanbfamkaaOpen
import Derived.Test.YtnnddjanbfamkaaHold
namespace Go.Proofs.Ytnnddjanbfamkaa
open Go Go.RowKit Go.ChangeShapes Go.WideShapes Go.Deep
set_option linter.unusedVariables false

def labv (x : Lab) : List Value := [.int .i64 x.1, .int .u32 (W x.2)]
def labCells (ls : List Lab) : List Value := ls.flatMap labv
theorem labCells_at : ∀ (ls : List Lab) (k : Nat) (x : Lab), ls[k]? = some x → (labCells ls)[k * 2]? = some (.int .i64 x.1) ∧ (labCells ls)[k * 2 + 1]? = some (.int .u32 (W x.2)) := by
  intro ls
  induction ls with
  | nil => intro k r h; simp at h
  | cons a l ih =>
    intro k r h
    cases k with
    | zero => simp at h; subst h; simp [labCells, labv]
    | succ k =>
      have := ih k r (by simpa using h)
      have e : (k + 1) * 2 = k * 2 + 1 + 1 := by omega
      rw [e]
      simpa [labCells, labv] using this
theorem labCells_length (ls : List Lab) : (labCells ls).length = ls.length * 2 := by
  induction ls with
  | nil => rfl
  | cons a l ih => simp [labCells, labv] at ih ⊢; omega
theorem labCells_append (ls ms : List Lab) : labCells (ls ++ ms) = labCells ls ++ labCells ms := by
  unfold labCells
  rw [List.flatMap_append]
theorem labCells_set : ∀ (l : List Lab) (j : Nat) (x : Lab), ((labCells l).set (j * 2) (.int .i64 x.1)).set (j * 2 + 1) (.int .u32 (W x.2)) = labCells (l.set j x) := by
  intro l
  induction l with
  | nil => intro j x; simp [labCells]
  | cons a l ih =>
    intro j x
    cases j with
    | zero => simp [labCells, labv]
    | succ j =>
      have := ih j x
      have e : (j + 1) * 2 = j * 2 + 1 + 1 := by omega
      rw [e]
      simpa [labCells, labv] using this
/-- a slice of labels -/
def SlLab (w : World) (A : Option Addr) (n : Nat) (ls : List Lab) : Prop := Sl w 2 A n (labCells ls) ∧ ls.length = n
section
variable {w w' : World} {A : Option Addr} {n : Nat}
theorem SlLab.kept {ls} (h : SlLab w A n ls) (k : Kept w w') : SlLab w' A n ls := ⟨h.1.kept k, h.2⟩
theorem SlLab.get {ls} (h : SlLab w A n ls) (k : Nat) (hk : k < n) : ∃ b off, ∃ hb : k < ls.length, A = some ⟨b, off, none⟩ ∧ b < w.heap.size ∧
    w.cell? ⟨b, off + k * 2, none⟩ = some (.int .i64 ls[k].1) ∧ w.cell? ⟨b, off + k * 2 + 1, none⟩ = some (.int .u32 (W ls[k].2)) := by
  have hl : k < ls.length := by rw [h.2]; exact hk
  obtain ⟨b, off, e, hb, hc⟩ := h.1.2 (by omega)
  obtain ⟨q1, q2⟩ := labCells_at ls k ls[k] (List.getElem?_eq_getElem hl)
  exact ⟨b, off, hl, e, hb, hc _ _ q1, hc _ _ q2⟩
end
theorem one_labs (ls : List Lab) : ∀ u ∈ labCells ls, u.oneCell' = true := fun u hu => by
  unfold labCells at hu
  rw [List.mem_flatMap] at hu
  obtain ⟨x, _, hx⟩ := hu
  simp [labv] at hx
  rcases hx with rfl | rfl <;> rfl
section
variable {H : Type} {enc : TypeId × Value → H} {P : Program} {w : World} {base : Nat} {spare : Nat → Bool} {held : Bool}
theorem open_labels {t e : TypeId} {f0 f1 : Field} {fuel : Nat} {A : Option Addr} {n c : Nat} {x : DataW H × List MemPlace} (ht : P.underlying t = some (.slice e)) (he : P.underlying e = some (.struct #[f0, f1])) (hone : oneCellFields P #[f0, f1] = true) (hc : P.cellsOf e = 2)
    (u0 : P.underlying f0.type = some (.int .i64)) (u1 : P.underlying f1.type = some (.int .u32))
    (h : DataW.trod enc P w base spare held fuel t [.slice A n c] = some x) : n ≤ maxLen ∧ ∃ ls, SlLab w A n ls := by
  obtain ⟨els, h1, h2, h3, h4⟩ := open_sl ht (by omega) h
  obtain ⟨rs, rfl⟩ := els_of labv els (by
    intro cs hcs
    obtain ⟨hl, m, y, hy⟩ := h4 cs hcs
    rw [hc] at hl
    obtain ⟨m', hf⟩ := struct_cells he hone hy (by rw [hl]; rfl)
    obtain ⟨a0, y0, r0, t0⟩ := hf 0 f0 rfl
    obtain ⟨a1, y1, r1, t1⟩ := hf 1 f1 rfl
    obtain ⟨z0, s0, _, w0⟩ := DataW.trod_int u0 t0
    obtain ⟨z1, s1, _, w1⟩ := DataW.trod_int u1 t1
    simp at s0 s1
    subst s0 s1
    obtain ⟨b1, rfl⟩ := bvOf_wf w1
    match cs, hl with
    | [c0, c1], _ =>
      simp at r0 r1
      exact ⟨(z0, b1), by unfold labv; rw [r0, r1]⟩)
  refine ⟨h2, rs, ?_, by simpa using h1⟩
  rw [hc] at h3
  have e : (rs.map labv).flatten = labCells rs := by
    unfold labCells
    rw [List.flatMap_def]
  rw [e] at h3
  exact h3
end
/-! ### arrays of labels that the call makes itself -/
def labsV (n : Nat) (m : Nat → Lab) : List Value := labCells ((List.range n).map m)
theorem labsV_length (n : Nat) (m : Nat → Lab) : (labsV n m).length = n * 2 := by unfold labsV; rw [labCells_length]; simp
theorem labsV_at {n k : Nat} (m : Nat → Lab) (h : k < n) : (labsV n m)[k * 2]? = some (.int .i64 (m k).1) ∧ (labsV n m)[k * 2 + 1]? = some (.int .u32 (W (m k).2)) :=
  labCells_at _ k (m k) (by rw [List.getElem?_map, List.getElem?_range h]; rfl)
end Go.Proofs.Ytnnddjanbfamkaa
