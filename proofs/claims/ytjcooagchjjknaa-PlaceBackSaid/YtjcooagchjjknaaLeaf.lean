/- Slices of leaves ([]api.Leaf: two numbers and a label), read as lists. -/
import Derived.Test.YtjcooagchjjknaaOpen
namespace Go.Proofs.Ytjcooagchjjknaa
open Go Go.RowKit Go.ChangeShapes Go.WideShapes Go.Deep

/-- a leaf: what it is below, its text, its level, its parts -/
abbrev Lf := Int × Int × Int × BitVec 32
def lfv (x : Lf) : List Value := [.int .i64 x.1, .int .i64 x.2.1, .int .i64 x.2.2.1, .int .u32 (W x.2.2.2)]
def lfCells (ls : List Lf) : List Value := ls.flatMap lfv
theorem lfCells_at : ∀ (ls : List Lf) (k : Nat) (x : Lf), ls[k]? = some x → (lfCells ls)[k * 4]? = some (.int .i64 x.1) ∧ (lfCells ls)[k * 4 + 1]? = some (.int .i64 x.2.1) ∧ (lfCells ls)[k * 4 + 2]? = some (.int .i64 x.2.2.1) ∧ (lfCells ls)[k * 4 + 3]? = some (.int .u32 (W x.2.2.2)) := by
  intro ls
  induction ls with
  | nil => intro k r h; simp at h
  | cons a l ih =>
    intro k r h
    cases k with
    | zero => simp at h; subst h; simp [lfCells, lfv]
    | succ k =>
      have := ih k r (by simpa using h)
      have e : (k + 1) * 4 = k * 4 + 1 + 1 + 1 + 1 := by omega
      have e1 : k * 4 + 1 + 1 + 1 + 1 + 1 = (k * 4 + 1) + 1 + 1 + 1 + 1 := by omega
      have e2 : k * 4 + 1 + 1 + 1 + 1 + 2 = (k * 4 + 2) + 1 + 1 + 1 + 1 := by omega
      have e3 : k * 4 + 1 + 1 + 1 + 1 + 3 = (k * 4 + 3) + 1 + 1 + 1 + 1 := by omega
      rw [e, e1, e2, e3]
      simpa [lfCells, lfv] using this
theorem lfCells_length (ls : List Lf) : (lfCells ls).length = ls.length * 4 := by
  induction ls with
  | nil => rfl
  | cons a l ih => simp [lfCells, lfv] at ih ⊢; omega
theorem lfCells_snoc (ls : List Lf) (x : Lf) : lfCells (ls ++ [x]) = lfCells ls ++ lfv x := by
  unfold lfCells
  rw [List.flatMap_append]
  simp
/-- a slice of leaves -/
def SlL (w : World) (A : Option Addr) (n : Nat) (ls : List Lf) : Prop := Sl w 4 A n (lfCells ls) ∧ ls.length = n
section
variable {w w' : World} {A : Option Addr} {n : Nat}
theorem SlL.kept {ls} (h : SlL w A n ls) (k : Kept w w') : SlL w' A n ls := ⟨h.1.kept k, h.2⟩
theorem SlL.nil_ (w : World) (A : Option Addr) : SlL w A 0 [] := ⟨Sl.nil_ _ _ _, rfl⟩
theorem SlL.get {ls} (h : SlL w A n ls) (k : Nat) (hk : k < n) : ∃ b off, ∃ hb : k < ls.length, A = some ⟨b, off, none⟩ ∧ b < w.heap.size ∧
    w.cell? ⟨b, off + k * 4, none⟩ = some (.int .i64 ls[k].1) ∧ w.cell? ⟨b, off + k * 4 + 1, none⟩ = some (.int .i64 ls[k].2.1) ∧ w.cell? ⟨b, off + k * 4 + 2, none⟩ = some (.int .i64 ls[k].2.2.1) ∧ w.cell? ⟨b, off + k * 4 + 3, none⟩ = some (.int .u32 (W ls[k].2.2.2)) := by
  have hl : k < ls.length := by rw [h.2]; exact hk
  obtain ⟨b, off, e, hb, hc⟩ := h.1.2 (by omega)
  obtain ⟨q1, q2, q3, q4⟩ := lfCells_at ls k ls[k] (List.getElem?_eq_getElem hl)
  exact ⟨b, off, hl, e, hb, hc _ _ q1, hc _ _ q2, hc _ _ q3, hc _ _ q4⟩
end
section
variable {H : Type} {enc : TypeId × Value → H} {P : Program} {w : World} {base : Nat} {spare : Nat → Bool} {held : Bool}
theorem open_leaves {t e : TypeId} {f0 f1 f2 g0 g1 : Field} {fuel : Nat} {A : Option Addr} {n c : Nat} {x : DataW H × List MemPlace} (ht : P.underlying t = some (.slice e)) (he : P.underlying e = some (.struct #[f0, f1, f2])) (hg : P.underlying f2.type = some (.struct #[g0, g1]))
    (hc : P.cellsOf e = 4) (o0 : f0.offset = 0) (o1 : f1.offset = 1) (o2 : f2.offset = 2) (k0 : P.cellsOf f0.type = 1) (k1 : P.cellsOf f1.type = 1) (k2 : P.cellsOf f2.type = 2) (hone : oneCellFields P #[g0, g1] = true)
    (u0 : P.underlying f0.type = some (.int .i64)) (u1 : P.underlying f1.type = some (.int .i64)) (v0 : P.underlying g0.type = some (.int .i64)) (v1 : P.underlying g1.type = some (.int .u32))
    (h : DataW.trod enc P w base spare held fuel t [.slice A n c] = some x) : n ≤ maxLen ∧ ∃ ls, SlL w A n ls := by
  obtain ⟨els, h1, h2, h3, h4⟩ := open_sl ht (by omega) h
  obtain ⟨rs, rfl⟩ := els_of lfv els (by
    intro cs hcs
    obtain ⟨hl, m, y, hy⟩ := h4 cs hcs
    obtain ⟨ys, m', _, _, _, hyl, hf⟩ := DataW.trod_struct he hy
    rw [hc] at hl
    match cs, hl with
    | [c0, c1, c2, c3], _ =>
      have q0 := hf 0 f0 rfl
      have q1 := hf 1 f1 rfl
      have q2 := hf 2 f2 rfl
      rw [o0, k0] at q0
      rw [o1, k1] at q1
      rw [o2, k2] at q2
      have e0 : ys[0]? = some (ys[0]'(by rw [hyl]; simp)) := List.getElem?_eq_getElem _
      have e1 : ys[1]? = some (ys[1]'(by rw [hyl]; simp)) := List.getElem?_eq_getElem _
      have e2 : ys[2]? = some (ys[2]'(by rw [hyl]; simp)) := List.getElem?_eq_getElem _
      rw [e0] at q0
      rw [e1] at q1
      rw [e2] at q2
      obtain ⟨z0, s0, _, _⟩ := DataW.trod_int u0 q0
      obtain ⟨z1, s1, _, _⟩ := DataW.trod_int u1 q1
      obtain ⟨m2, hf2⟩ := struct_cells hg hone q2 rfl
      obtain ⟨a0, y0, r0, t0⟩ := hf2 0 g0 rfl
      obtain ⟨a1, y1, r1, t1⟩ := hf2 1 g1 rfl
      obtain ⟨z2, s2, _, _⟩ := DataW.trod_int v0 t0
      obtain ⟨z3, s3, _, w3⟩ := DataW.trod_int v1 t1
      simp at s0 s1 s2 s3 r0 r1
      subst s2 s3
      obtain ⟨b3, rfl⟩ := bvOf_wf w3
      exact ⟨(z0, z1, z2, b3), by unfold lfv; rw [s0, s1, r0, r1]⟩)
  refine ⟨h2, rs, ?_, by simpa using h1⟩
  rw [hc] at h3
  have e : (rs.map lfv).flatten = lfCells rs := by
    unfold lfCells
    rw [List.flatMap_def]
  rw [e] at h3
  exact h3
end
end Go.Proofs.Ytjcooagchjjknaa
