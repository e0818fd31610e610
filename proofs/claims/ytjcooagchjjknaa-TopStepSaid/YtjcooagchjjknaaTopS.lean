/- Slices of strokes, each with its path. -/
import Derived.Test.YtjcooagchjjknaaPen5
namespace Go.Proofs.Ytjcooagchjjknaa
open Go Go.RowKit Go.ChangeShapes Go.WideShapes Go.Deep
set_option linter.unusedVariables false

/-- a stroke with where its path lies -/
abbrev SkA := Sk × Option Addr × Nat × Nat
def skv (q : SkA) : List Value := [.int .i64 q.1.kind, .int .i64 q.1.who.1, .int .u32 (W q.1.who.2), .slice q.2.1 q.2.2.1 q.2.2.2, .int .i64 q.1.text]
def skCells (qs : List SkA) : List Value := qs.flatMap skv
theorem skCells_at : ∀ (qs : List SkA) (k : Nat) (q : SkA), qs[k]? = some q → (skCells qs)[k * 5]? = some (.int .i64 q.1.kind) ∧ (skCells qs)[k * 5 + 1]? = some (.int .i64 q.1.who.1) ∧ (skCells qs)[k * 5 + 2]? = some (.int .u32 (W q.1.who.2)) ∧ (skCells qs)[k * 5 + 3]? = some (.slice q.2.1 q.2.2.1 q.2.2.2) ∧ (skCells qs)[k * 5 + 4]? = some (.int .i64 q.1.text) := by
  intro qs
  induction qs with
  | nil => intro k r h; simp at h
  | cons a l ih =>
    intro k r h
    cases k with
    | zero => simp at h; subst h; simp [skCells, skv]
    | succ k =>
      have := ih k r (by simpa using h)
      have e : (k + 1) * 5 = k * 5 + 1 + 1 + 1 + 1 + 1 := by omega
      have e1 : k * 5 + 1 + 1 + 1 + 1 + 1 + 1 = (k * 5 + 1) + 1 + 1 + 1 + 1 + 1 := by omega
      have e2 : k * 5 + 1 + 1 + 1 + 1 + 1 + 2 = (k * 5 + 2) + 1 + 1 + 1 + 1 + 1 := by omega
      have e3 : k * 5 + 1 + 1 + 1 + 1 + 1 + 3 = (k * 5 + 3) + 1 + 1 + 1 + 1 + 1 := by omega
      have e4 : k * 5 + 1 + 1 + 1 + 1 + 1 + 4 = (k * 5 + 4) + 1 + 1 + 1 + 1 + 1 := by omega
      rw [e, e1, e2, e3, e4]
      simpa [skCells, skv] using this
theorem skCells_append (a b : List SkA) : skCells (a ++ b) = skCells a ++ skCells b := by unfold skCells; rw [List.flatMap_append]
def PathAt (w : World) (q : SkA) : Prop := q.2.2.1 ≤ maxLen ∧ q.2.2.1 ≤ q.2.2.2 ∧ SlI w q.2.1 q.2.2.1 q.1.path
theorem PathAt.kept {w w' : World} {q : SkA} (h : PathAt w q) (k : Kept w w') : PathAt w' q := ⟨h.1, h.2.1, h.2.2.kept k⟩
/-- a slice of strokes -/
def SlSk (w : World) (A : Option Addr) (n : Nat) (qs : List SkA) : Prop := (Sl w 5 A n (skCells qs) ∧ qs.length = n) ∧ ∀ q ∈ qs, PathAt w q
section
variable {w w' : World} {A : Option Addr} {n : Nat}
theorem SlSk.kept {qs} (h : SlSk w A n qs) (k : Kept w w') : SlSk w' A n qs := ⟨⟨h.1.1.kept k, h.1.2⟩, fun q hq => (h.2 q hq).kept k⟩
theorem SlSk.get {qs} (h : SlSk w A n qs) (k : Nat) (hk : k < n) : ∃ b off, ∃ hb : k < qs.length, A = some ⟨b, off, none⟩ ∧ b < w.heap.size ∧
    w.cell? ⟨b, off + k * 5, none⟩ = some (.int .i64 qs[k].1.kind) ∧ w.cell? ⟨b, off + k * 5 + 1, none⟩ = some (.int .i64 qs[k].1.who.1) ∧ w.cell? ⟨b, off + k * 5 + 2, none⟩ = some (.int .u32 (W qs[k].1.who.2)) ∧ w.cell? ⟨b, off + k * 5 + 3, none⟩ = some (.slice qs[k].2.1 qs[k].2.2.1 qs[k].2.2.2) ∧ w.cell? ⟨b, off + k * 5 + 4, none⟩ = some (.int .i64 qs[k].1.text) ∧ PathAt w qs[k] := by
  have hl : k < qs.length := by rw [h.1.2]; exact hk
  obtain ⟨b, off, e, hb, hc⟩ := h.1.1.2 (by omega)
  obtain ⟨q0, q1, q2, q3, q4⟩ := skCells_at qs k qs[k] (List.getElem?_eq_getElem hl)
  exact ⟨b, off, hl, e, hb, hc _ _ q0, hc _ _ q1, hc _ _ q2, hc _ _ q3, hc _ _ q4, h.2 _ (List.getElem_mem hl)⟩
end
section
variable {H : Type} {enc : TypeId × Value → H} {P : Program} {w : World} {base : Nat} {spare : Nat → Bool} {held : Bool}
theorem open_strokes {t e ei : TypeId} {f0 f1 f2 f3 g0 g1 : Field} {fuel : Nat} {A : Option Addr} {n c : Nat} {x : DataW H × List MemPlace} (ht : P.underlying t = some (.slice e)) (hs : P.underlying e = some (.struct #[f0, f1, f2, f3])) (hg : P.underlying f1.type = some (.struct #[g0, g1])) (hC : P.cellsOf e = 5)
    (o0 : f0.offset = 0) (o1 : f1.offset = 1) (o2 : f2.offset = 3) (o3 : f3.offset = 4) (k0 : P.cellsOf f0.type = 1) (k1 : P.cellsOf f1.type = 2) (k2 : P.cellsOf f2.type = 1) (k3 : P.cellsOf f3.type = 1) (hone : oneCellFields P #[g0, g1] = true)
    (u0 : P.underlying f0.type = some (.int .i64)) (u3 : P.underlying f3.type = some (.int .i64)) (v0 : P.underlying g0.type = some (.int .i64)) (v1 : P.underlying g1.type = some (.int .u32)) (u2 : P.underlying f2.type = some (.slice ei)) (ui : P.underlying ei = some (.int .i64)) (hci : P.cellsOf ei = 1)
    (h : DataW.trod enc P w base spare held fuel t [.slice A n c] = some x) : n ≤ maxLen ∧ ∃ qs, SlSk w A n qs := by
  obtain ⟨els, h1, h2, h3, h4⟩ := open_sl ht (by omega) h
  obtain ⟨rs, rfl⟩ := els_of (fun q : { q : SkA // PathAt w q } => skv q.1) els (by
    intro cs hcs
    obtain ⟨hl, m, y, hy⟩ := h4 cs hcs
    obtain ⟨ys, m', _, _, _, hyl, hf⟩ := DataW.trod_struct hs hy
    rw [hC] at hl
    match cs, hl with
    | [c0, c1, c2, c3, c4], _ =>
      have q0 := hf 0 f0 rfl
      have q1 := hf 1 f1 rfl
      have q2 := hf 2 f2 rfl
      have q3 := hf 3 f3 rfl
      rw [o0, k0] at q0
      rw [o1, k1] at q1
      rw [o2, k2] at q2
      rw [o3, k3] at q3
      have e0 : ys[0]? = some (ys[0]'(by rw [hyl]; simp)) := List.getElem?_eq_getElem _
      have e1 : ys[1]? = some (ys[1]'(by rw [hyl]; simp)) := List.getElem?_eq_getElem _
      have e2 : ys[2]? = some (ys[2]'(by rw [hyl]; simp)) := List.getElem?_eq_getElem _
      have e3 : ys[3]? = some (ys[3]'(by rw [hyl]; simp)) := List.getElem?_eq_getElem _
      rw [e0] at q0
      rw [e1] at q1
      rw [e2] at q2
      rw [e3] at q3
      obtain ⟨z0, s0, _, _⟩ := DataW.trod_int u0 q0
      obtain ⟨m2, hf2⟩ := struct_cells hg hone q1 rfl
      obtain ⟨a0, y0, r0, t0⟩ := hf2 0 g0 rfl
      obtain ⟨a1, y1, r1, t1⟩ := hf2 1 g1 rfl
      obtain ⟨z1, s1, _, _⟩ := DataW.trod_int v0 t0
      obtain ⟨z2, s2, _, w2⟩ := DataW.trod_int v1 t1
      obtain ⟨z4, s4, _, _⟩ := DataW.trod_int u3 q3
      simp at s0 s1 s2 s4 r0 r1 q2
      subst s1 s2
      obtain ⟨b2, rfl⟩ := bvOf_wf w2
      obtain ⟨A, n, c, rfl⟩ := slice_is u2 q2
      obtain ⟨⟨h1, h2⟩, xs, h3, _⟩ := open_intsC u2 ui hci q2
      exact ⟨⟨(⟨z0, (z1, b2), xs, z4⟩, A, n, c), h1, h2, h3⟩, by unfold skv; rw [s0, s4, r0, r1]⟩)
  refine ⟨h2, rs.map (·.1), ⟨?_, by simpa using h1⟩, ?_⟩
  · rw [hC] at h3
    have e : (rs.map fun q : { q : SkA // PathAt w q } => skv q.1).flatten = skCells (rs.map (·.1)) := by
      unfold skCells
      rw [List.flatMap_def, List.map_map]
      rfl
    rw [e] at h3
    exact h3
  · intro q hq
    obtain ⟨r, _, rfl⟩ := List.mem_map.1 hq
    exact r.2
end
/-! ### what Play does -/
def skN (qs : List SkA) (k : Nat) : Sk := (qs.getD k (⟨0, (0, 0#32), [], 0⟩, none, 0, 0)).1
def plL (qs : List SkA) : Nat → List Lf
  | 0 => []
  | k + 1 => if (penF (plL qs k) (skN qs k)).1 = 0 then (penF (plL qs k) (skN qs k)).2 else plL qs k
def plC (qs : List SkA) (k : Nat) : Int := (penF (plL qs k) (skN qs k)).1
theorem skN_eq {qs : List SkA} {k : Nat} (h : k < qs.length) : skN qs k = qs[k].1 := by
  unfold skN
  rw [List.getD_eq_getElem?_getD, List.getElem?_eq_getElem h]
  rfl
theorem page_nil : PageOk [] := ⟨Nat.zero_le _, fun i hi => absurd hi (Nat.not_lt_zero _)⟩
theorem penF_done {ls : List Lf} {s : Sk} (h : (penF ls s).1 = 0) : penF ls s = penC ls s ∧ PageOk ls ∧ labOk s.who = true := by
  unfold penF at h ⊢
  by_cases hv : viewF ls s.who ≠ 0
  · rw [if_pos hv] at h; exact absurd h hv
  · rw [if_neg hv]
    have hp := pagedB_iff.1 (viewF_iff.1 (Decidable.not_not.1 hv))
    exact ⟨rfl, pageF_zero.1 hp.1, hp.2⟩
theorem plL_ok (qs : List SkA) : ∀ k, PageOk (plL qs k)
  | 0 => page_nil
  | k + 1 => by
    show PageOk (if _ then _ else _)
    by_cases h : (penF (plL qs k) (skN qs k)).1 = 0
    · rw [if_pos h]
      obtain ⟨e, h1, h2⟩ := penF_done h
      rw [e] at h ⊢
      exact (penC_ok h1 h2 h).1
    · rw [if_neg h]; exact plL_ok qs k
end Go.Proofs.Ytjcooagchjjknaa
