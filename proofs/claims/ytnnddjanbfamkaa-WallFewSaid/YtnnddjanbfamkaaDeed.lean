/- Slices of deeds (six cells each), read as lists; arrays of words as functions. -/
import Derived.Test.YtnnddjanbfamkaaOpen
import Derived.Test.YtnnddjanbfamkaaWallP
import Derived.Test.YtnnddjanbfamkaaHold
namespace Go.Proofs.Ytnnddjanbfamkaa
open Go Go.RowKit Go.ChangeShapes Go.WideShapes Go.Deep
set_option linter.unusedVariables false

/-! ### rows -/
def rowsV (n : Nat) (m : Nat → BitVec 32) : List Value := (List.range n).map fun i => wv (m i)
theorem rowsV_length (n : Nat) (m : Nat → BitVec 32) : (rowsV n m).length = n := by simp [rowsV]
theorem rowsV_at {n k : Nat} (m : Nat → BitVec 32) (h : k < n) : (rowsV n m)[k]? = some (.int .u32 (W (m k))) := by
  unfold rowsV wv
  simp [h]
theorem rowsV_set (n : Nat) (m : Nat → BitVec 32) (k : Nat) (x : BitVec 32) : (rowsV n m).set k (.int .u32 (W x)) = rowsV n (updN m k x) := by
  unfold rowsV updN wv
  apply List.ext_getElem
  · simp
  · intro i h1 h2
    rw [List.getElem_set]
    simp only [List.getElem_map, List.getElem_range]
    by_cases e : k = i
    · subst e
      simp
    · rw [if_neg e, if_neg (fun h => e h.symm)]
theorem rowsV_words (n : Nat) (m : Nat → BitVec 32) : ((List.range n).map m).map wv = rowsV n m := by
  unfold rowsV
  rw [List.map_map]
  rfl
theorem rowsV_snoc (n : Nat) (m : Nat → BitVec 32) : rowsV (n + 1) m = rowsV n m ++ [wv (m n)] := by
  unfold rowsV
  rw [List.range_succ, List.map_append]
  rfl
theorem rep_rows (n : Nat) : rep n (.int .u32 0) = (rowsV n fun _ => 0#32).toArray := by
  unfold rep rowsV
  congr 1
  apply List.ext_getElem?
  intro i
  by_cases h : i < n
  · rw [List.getElem?_replicate, if_pos h, List.getElem?_map, List.getElem?_range h]
    rfl
  · rw [List.getElem?_replicate, if_neg h]
    symm
    rw [List.getElem?_eq_none_iff]
    simp
    omega
/-! ### deeds -/
/-- a deed: its kind, by whom, to which, a label's level and parts, a number -/
abbrev De := Int × Int × Int × Int × BitVec 32 × Int
def dev (d : De) : List Value := [.int .i64 d.1, .int .i64 d.2.1, .int .i64 d.2.2.1, .int .i64 d.2.2.2.1, .int .u32 (W d.2.2.2.2.1), .int .i64 d.2.2.2.2.2]
def deCells (ls : List De) : List Value := ls.flatMap dev
theorem deCells_at : ∀ (ls : List De) (k : Nat) (x : De), ls[k]? = some x → (deCells ls)[k * 6]? = some (.int .i64 x.1) ∧ (deCells ls)[k * 6 + 1]? = some (.int .i64 x.2.1) ∧ (deCells ls)[k * 6 + 2]? = some (.int .i64 x.2.2.1) ∧ (deCells ls)[k * 6 + 3]? = some (.int .i64 x.2.2.2.1) ∧ (deCells ls)[k * 6 + 4]? = some (.int .u32 (W x.2.2.2.2.1)) ∧ (deCells ls)[k * 6 + 5]? = some (.int .i64 x.2.2.2.2.2) := by
  intro ls
  induction ls with
  | nil => intro k r h; simp at h
  | cons a l ih =>
    intro k r h
    cases k with
    | zero => simp at h; subst h; simp [deCells, dev]
    | succ k =>
      have := ih k r (by simpa using h)
      have e : (k + 1) * 6 = k * 6 + 1 + 1 + 1 + 1 + 1 + 1 := by omega
      have e1 : k * 6 + 1 + 1 + 1 + 1 + 1 + 1 + 1 = (k * 6 + 1) + 1 + 1 + 1 + 1 + 1 + 1 := by omega
      have e2 : k * 6 + 1 + 1 + 1 + 1 + 1 + 1 + 2 = (k * 6 + 2) + 1 + 1 + 1 + 1 + 1 + 1 := by omega
      have e3 : k * 6 + 1 + 1 + 1 + 1 + 1 + 1 + 3 = (k * 6 + 3) + 1 + 1 + 1 + 1 + 1 + 1 := by omega
      have e4 : k * 6 + 1 + 1 + 1 + 1 + 1 + 1 + 4 = (k * 6 + 4) + 1 + 1 + 1 + 1 + 1 + 1 := by omega
      have e5 : k * 6 + 1 + 1 + 1 + 1 + 1 + 1 + 5 = (k * 6 + 5) + 1 + 1 + 1 + 1 + 1 + 1 := by omega
      rw [e, e1, e2, e3, e4, e5]
      simpa [deCells, dev] using this
def SlD (w : World) (A : Option Addr) (n : Nat) (ls : List De) : Prop := Sl w 6 A n (deCells ls) ∧ ls.length = n
section
variable {w w' : World} {A : Option Addr} {n : Nat}
theorem SlD.kept {ls} (h : SlD w A n ls) (k : Kept w w') : SlD w' A n ls := ⟨h.1.kept k, h.2⟩
theorem SlD.get {ls} (h : SlD w A n ls) (k : Nat) (hk : k < n) : ∃ b off, ∃ hb : k < ls.length, A = some ⟨b, off, none⟩ ∧ b < w.heap.size ∧
    w.cell? ⟨b, off + k * 6, none⟩ = some (.int .i64 ls[k].1) ∧ w.cell? ⟨b, off + k * 6 + 1, none⟩ = some (.int .i64 ls[k].2.1) ∧ w.cell? ⟨b, off + k * 6 + 2, none⟩ = some (.int .i64 ls[k].2.2.1) ∧ w.cell? ⟨b, off + k * 6 + 3, none⟩ = some (.int .i64 ls[k].2.2.2.1) ∧ w.cell? ⟨b, off + k * 6 + 4, none⟩ = some (.int .u32 (W ls[k].2.2.2.2.1)) ∧ w.cell? ⟨b, off + k * 6 + 5, none⟩ = some (.int .i64 ls[k].2.2.2.2.2) := by
  have hl : k < ls.length := by rw [h.2]; exact hk
  obtain ⟨b, off, e, hb, hc⟩ := h.1.2 (by omega)
  obtain ⟨q1, q2, q3, q4, q5, q6⟩ := deCells_at ls k ls[k] (List.getElem?_eq_getElem hl)
  exact ⟨b, off, hl, e, hb, hc _ _ q1, hc _ _ q2, hc _ _ q3, hc _ _ q4, hc _ _ q5, hc _ _ q6⟩
end
section
variable {H : Type} {enc : TypeId × Value → H} {P : Program} {w : World} {base : Nat} {spare : Nat → Bool} {held : Bool}
theorem open_deeds {t e : TypeId} {f0 f1 f2 f3 f4 g0 g1 : Field} {fuel : Nat} {A : Option Addr} {n c : Nat} {x : DataW H × List MemPlace} (ht : P.underlying t = some (.slice e)) (he : P.underlying e = some (.struct #[f0, f1, f2, f3, f4])) (hg : P.underlying f3.type = some (.struct #[g0, g1]))
    (hc : P.cellsOf e = 6) (o0 : f0.offset = 0) (o1 : f1.offset = 1) (o2 : f2.offset = 2) (o3 : f3.offset = 3) (o4 : f4.offset = 5) (k0 : P.cellsOf f0.type = 1) (k1 : P.cellsOf f1.type = 1) (k2 : P.cellsOf f2.type = 1) (k3 : P.cellsOf f3.type = 2) (k4 : P.cellsOf f4.type = 1) (hone : oneCellFields P #[g0, g1] = true)
    (u0 : P.underlying f0.type = some (.int .i64)) (u1 : P.underlying f1.type = some (.int .i64)) (u2 : P.underlying f2.type = some (.int .i64)) (u4 : P.underlying f4.type = some (.int .i64)) (v0 : P.underlying g0.type = some (.int .i64)) (v1 : P.underlying g1.type = some (.int .u32))
    (h : DataW.trod enc P w base spare held fuel t [.slice A n c] = some x) : n ≤ maxLen ∧ ∃ ls, SlD w A n ls := by
  obtain ⟨els, h1, h2, h3, h4⟩ := open_sl ht (by omega) h
  obtain ⟨rs, rfl⟩ := els_of dev els (by
    intro cs hcs
    obtain ⟨hl, m, y, hy⟩ := h4 cs hcs
    obtain ⟨ys, m', _, _, _, hyl, hf⟩ := DataW.trod_struct he hy
    rw [hc] at hl
    match cs, hl with
    | [c0, c1, c2, c3, c4, c5], _ =>
      have q0 := hf 0 f0 rfl
      have q1 := hf 1 f1 rfl
      have q2 := hf 2 f2 rfl
      have q3 := hf 3 f3 rfl
      have q4 := hf 4 f4 rfl
      rw [o0, k0] at q0
      rw [o1, k1] at q1
      rw [o2, k2] at q2
      rw [o3, k3] at q3
      rw [o4, k4] at q4
      have e0 : ys[0]? = some (ys[0]'(by rw [hyl]; simp)) := List.getElem?_eq_getElem _
      have e1 : ys[1]? = some (ys[1]'(by rw [hyl]; simp)) := List.getElem?_eq_getElem _
      have e2 : ys[2]? = some (ys[2]'(by rw [hyl]; simp)) := List.getElem?_eq_getElem _
      have e3 : ys[3]? = some (ys[3]'(by rw [hyl]; simp)) := List.getElem?_eq_getElem _
      have e4 : ys[4]? = some (ys[4]'(by rw [hyl]; simp)) := List.getElem?_eq_getElem _
      rw [e0] at q0
      rw [e1] at q1
      rw [e2] at q2
      rw [e3] at q3
      rw [e4] at q4
      obtain ⟨z0, s0, _, _⟩ := DataW.trod_int u0 q0
      obtain ⟨z1, s1, _, _⟩ := DataW.trod_int u1 q1
      obtain ⟨z2, s2, _, _⟩ := DataW.trod_int u2 q2
      obtain ⟨z4, s4, _, _⟩ := DataW.trod_int u4 q4
      obtain ⟨m2, hf2⟩ := struct_cells hg hone q3 rfl
      obtain ⟨a0, y0, r0, t0⟩ := hf2 0 g0 rfl
      obtain ⟨a1, y1, r1, t1⟩ := hf2 1 g1 rfl
      obtain ⟨z5, s5, _, _⟩ := DataW.trod_int v0 t0
      obtain ⟨z6, s6, _, w6⟩ := DataW.trod_int v1 t1
      simp at s0 s1 s2 s4 s5 s6 r0 r1
      subst s5 s6
      obtain ⟨b6, rfl⟩ := bvOf_wf w6
      exact ⟨(z0, z1, z2, z5, b6, z4), by unfold dev; rw [s0, s1, s2, s4, r0, r1]⟩)
  refine ⟨h2, rs, ?_, by simpa using h1⟩
  rw [hc] at h3
  have e : (rs.map dev).flatten = deCells rs := by
    unfold deCells
    rw [List.flatMap_def]
  rw [e] at h3
  exact h3
end
end Go.Proofs.Ytnnddjanbfamkaa
