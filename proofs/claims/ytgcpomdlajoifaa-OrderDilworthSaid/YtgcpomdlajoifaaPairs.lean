/- Slices of pairs of integers ([][2]int), read as lists. -/
import Derived.Test.YtgcpomdlajoifaaOrderP
import Derived.Test.YtgcpomdlajoifaaOpen
namespace Go.Proofs.Ytgcpomdlajoifaa
open Go Go.RowKit Go.ChangeShapes Go.WideShapes Go.Deep

def prCells (ps : List Pr) : List Value := ps.flatMap fun p => [.int .i64 p.1, .int .i64 p.2]
theorem prCells_at : ∀ (ps : List Pr) (k : Nat) (p : Pr), ps[k]? = some p → (prCells ps)[k * 2]? = some (.int .i64 p.1) ∧ (prCells ps)[k * 2 + 1]? = some (.int .i64 p.2) := by
  intro ps
  induction ps with
  | nil => intro k r h; simp at h
  | cons a l ih =>
    intro k r h
    cases k with
    | zero => simp at h; subst h; simp [prCells]
    | succ k =>
      have := ih k r (by simpa using h)
      have e : (k + 1) * 2 = k * 2 + 1 + 1 := by omega
      rw [e]
      simpa [prCells] using this
theorem prCells_length (ps : List Pr) : (prCells ps).length = ps.length * 2 := by
  induction ps with
  | nil => rfl
  | cons a l ih => simp [prCells] at ih ⊢; omega
theorem prCells_snoc (ps : List Pr) (p : Pr) : prCells (ps ++ [p]) = prCells ps ++ [.int .i64 p.1, .int .i64 p.2] := by
  unfold prCells
  rw [List.flatMap_append]
  rfl
/-- a slice of pairs of integers -/
def SlP (w : World) (A : Option Addr) (n : Nat) (ps : List Pr) : Prop := Sl w 2 A n (prCells ps) ∧ ps.length = n
section
variable {w w' : World} {A : Option Addr} {n : Nat}
theorem SlP.kept {ps} (h : SlP w A n ps) (k : Kept w w') : SlP w' A n ps := ⟨h.1.kept k, h.2⟩
theorem SlP.nil_ (w : World) (A : Option Addr) : SlP w A 0 [] := ⟨Sl.nil_ _ _ _, rfl⟩
theorem SlP.get {ps} (h : SlP w A n ps) (k : Nat) (hk : k < n) : ∃ b off, ∃ hb : k < ps.length, A = some ⟨b, off, none⟩ ∧ b < w.heap.size ∧
    w.cell? ⟨b, off + k * 2, none⟩ = some (.int .i64 ps[k].1) ∧ w.cell? ⟨b, off + k * 2 + 1, none⟩ = some (.int .i64 ps[k].2) := by
  have hl : k < ps.length := by rw [h.2]; exact hk
  obtain ⟨b, off, e, hb, hc⟩ := h.1.2 (by omega)
  obtain ⟨q1, q2⟩ := prCells_at ps k ps[k] (List.getElem?_eq_getElem hl)
  exact ⟨b, off, hl, e, hb, hc _ _ q1, hc _ _ q2⟩
end

section
variable {H : Type} {enc : TypeId × Value → H} {P : Program} {w : World} {base : Nat} {spare : Nat → Bool} {held : Bool}
theorem open_pairs {t e i : TypeId} {fuel : Nat} {A : Option Addr} {n c : Nat} {x : DataW H × List MemPlace} (ht : P.underlying t = some (.slice e)) (he : P.underlying e = some (.array 2 i)) (hc : P.cellsOf e = 2)
    (hi : P.underlying i = some (.int .i64)) (h1 : P.cellsOf i = 1) (h : DataW.trod enc P w base spare held fuel t [.slice A n c] = some x) : n ≤ maxLen ∧ ∃ xs, SlP w A n xs := by
  obtain ⟨els, g1, g2, g3, g4⟩ := open_sl ht (by omega) h
  obtain ⟨rs, rfl⟩ := els_of (fun r : Pr => [.int .i64 r.1, .int .i64 r.2]) els (by
    intro cs hcs
    obtain ⟨hl, m, y, hy⟩ := g4 cs hcs
    obtain ⟨ys, m', _, _, hl2, hyl, hf⟩ := DataW.trod_array he hy
    rw [hc] at hl2
    match cs, hl2 with
    | [c0, c1], _ =>
      have f0 := hf 0 (by omega)
      have f1 := hf 1 (by omega)
      rw [h1] at f0 f1
      have q0 : ys[0]? = some (ys[0]'(by omega)) := List.getElem?_eq_getElem (by omega)
      have q1 : ys[1]? = some (ys[1]'(by omega)) := List.getElem?_eq_getElem (by omega)
      rw [q0] at f0
      rw [q1] at f1
      obtain ⟨z0, e0, _, _⟩ := DataW.trod_int hi f0
      obtain ⟨z1, e1, _, _⟩ := DataW.trod_int hi f1
      simp at e0 e1
      exact ⟨(z0, z1), by rw [e0, e1]⟩)
  refine ⟨g2, rs, ?_, by simpa using g1⟩
  rw [hc] at g3
  have e : (rs.map fun r : Pr => [Value.int .i64 r.1, Value.int .i64 r.2]).flatten = prCells rs := by
    unfold prCells
    rw [List.flatMap_def]
  rw [e] at g3
  exact g3
end
end Go.Proofs.Ytgcpomdlajoifaa
