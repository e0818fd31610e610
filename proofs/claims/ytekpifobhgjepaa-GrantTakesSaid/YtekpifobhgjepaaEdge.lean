/- Slices of edges (three cells each), read as lists. -/
import Derived.Test.YtekpifobhgjepaaOpen
import Derived.Test.YtekpifobhgjepaaHold
import Derived.Test.YtekpifobhgjepaaGrantP
namespace Go.Proofs.Ytekpifobhgjepaa
open Go Go.RowKit Go.ChangeShapes Go.WideShapes Go.Deep
set_option linter.unusedVariables false

def edv (c : Ed) : List Value := [.int .i64 c.1, .int .i64 c.2.1, .int .u32 (W c.2.2)]
def edCells (cs : List Ed) : List Value := cs.flatMap edv
theorem edCells_at : ∀ (ls : List Ed) (k : Nat) (x : Ed), ls[k]? = some x → (edCells ls)[k * 3]? = some (.int .i64 x.1) ∧ (edCells ls)[k * 3 + 1]? = some (.int .i64 x.2.1) ∧ (edCells ls)[k * 3 + 2]? = some (.int .u32 (W x.2.2)) := by
  intro ls
  induction ls with
  | nil => intro k r h; simp at h
  | cons a l ih =>
    intro k r h
    cases k with
    | zero => simp at h; subst h; simp [edCells, edv]
    | succ k =>
      have := ih k r (by simpa using h)
      have e : (k + 1) * 3 = k * 3 + 1 + 1 + 1 := by omega
      have e1 : k * 3 + 1 + 1 + 1 + 1 = (k * 3 + 1) + 1 + 1 + 1 := by omega
      have e2 : k * 3 + 1 + 1 + 1 + 2 = (k * 3 + 2) + 1 + 1 + 1 := by omega
      rw [e, e1, e2]
      simpa [edCells, edv] using this
theorem edCells_length (ls : List Ed) : (edCells ls).length = ls.length * 3 := by
  induction ls with
  | nil => rfl
  | cons a l ih => simp [edCells, edv] at ih ⊢; omega
theorem edCells_snoc (ls : List Ed) (e : Ed) : edCells (ls ++ [e]) = edCells ls ++ [.int .i64 e.1, .int .i64 e.2.1, .int .u32 (W e.2.2)] := by
  unfold edCells
  rw [List.flatMap_append]
  simp [edv]
def SlE (w : World) (A : Option Addr) (n : Nat) (ls : List Ed) : Prop := Sl w 3 A n (edCells ls) ∧ ls.length = n
section
variable {w w' : World} {A : Option Addr} {n : Nat}
theorem SlE.kept {ls} (h : SlE w A n ls) (k : Kept w w') : SlE w' A n ls := ⟨h.1.kept k, h.2⟩
theorem SlE.get {ls} (h : SlE w A n ls) (k : Nat) (hk : k < n) : ∃ b off, ∃ hb : k < ls.length, A = some ⟨b, off, none⟩ ∧ b < w.heap.size ∧
    w.cell? ⟨b, off + k * 3, none⟩ = some (.int .i64 ls[k].1) ∧ w.cell? ⟨b, off + k * 3 + 1, none⟩ = some (.int .i64 ls[k].2.1) ∧ w.cell? ⟨b, off + k * 3 + 2, none⟩ = some (.int .u32 (W ls[k].2.2)) := by
  have hl : k < ls.length := by rw [h.2]; exact hk
  obtain ⟨b, off, e, hb, hc⟩ := h.1.2 (by omega)
  obtain ⟨q1, q2, q3⟩ := edCells_at ls k ls[k] (List.getElem?_eq_getElem hl)
  exact ⟨b, off, hl, e, hb, hc _ _ q1, hc _ _ q2, hc _ _ q3⟩
end
section
variable {H : Type} {enc : TypeId × Value → H} {P : Program} {w : World} {base : Nat} {spare : Nat → Bool} {held : Bool}
theorem open_edge {e : TypeId} {f0 f1 f2 : Field} {fuel : Nat} {cs : List Value} {y : DataW H × List MemPlace} (he : P.underlying e = some (.struct #[f0, f1, f2])) (hone : oneCellFields P #[f0, f1, f2] = true) (hl : cs.length = 3)
    (u0 : P.underlying f0.type = some (.int .i64)) (u1 : P.underlying f1.type = some (.int .i64)) (u2 : P.underlying f2.type = some (.int .u32))
    (hy : DataW.trod enc P w base spare held fuel e cs = some y) : ∃ c : Ed, cs = edv c := by
  obtain ⟨m', hf⟩ := struct_cells he hone hy (by rw [hl]; rfl)
  obtain ⟨a0, y0, r0, t0⟩ := hf 0 f0 rfl
  obtain ⟨a1, y1, r1, t1⟩ := hf 1 f1 rfl
  obtain ⟨a2, y2, r2, t2⟩ := hf 2 f2 rfl
  obtain ⟨z0, s0, _, w0⟩ := DataW.trod_int u0 t0
  obtain ⟨z1, s1, _, w1⟩ := DataW.trod_int u1 t1
  obtain ⟨z2, s2, _, w2⟩ := DataW.trod_int u2 t2
  simp at s0 s1 s2
  subst s0 s1 s2
  obtain ⟨b2, rfl⟩ := bvOf_wf w2
  match cs, hl with
  | [c0, c1, c2], _ =>
    simp at r0 r1 r2
    exact ⟨(z0, z1, b2), by unfold edv; rw [r0, r1, r2]⟩
theorem open_edges {t e : TypeId} {f0 f1 f2 : Field} {fuel : Nat} {A : Option Addr} {n c : Nat} {x : DataW H × List MemPlace} (ht : P.underlying t = some (.slice e)) (he : P.underlying e = some (.struct #[f0, f1, f2])) (hone : oneCellFields P #[f0, f1, f2] = true) (hc : P.cellsOf e = 3)
    (u0 : P.underlying f0.type = some (.int .i64)) (u1 : P.underlying f1.type = some (.int .i64)) (u2 : P.underlying f2.type = some (.int .u32))
    (h : DataW.trod enc P w base spare held fuel t [.slice A n c] = some x) : n ≤ maxLen ∧ ∃ ls, SlE w A n ls := by
  obtain ⟨els, h1, h2, h3, h4⟩ := open_sl ht (by omega) h
  obtain ⟨rs, rfl⟩ := els_of edv els (by
    intro cs hcs
    obtain ⟨hl, m, y, hy⟩ := h4 cs hcs
    rw [hc] at hl
    exact open_edge he hone hl u0 u1 u2 hy)
  refine ⟨h2, rs, ?_, by simpa using h1⟩
  rw [hc] at h3
  have e : (rs.map edv).flatten = edCells rs := by
    unfold edCells
    rw [List.flatMap_def]
  rw [e] at h3
  exact h3
end
end Go.Proofs.Ytekpifobhgjepaa
