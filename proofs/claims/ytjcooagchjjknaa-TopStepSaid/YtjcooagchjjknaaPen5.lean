/- A stroke by value, read; a path with its room. -/
import Derived.Test.YtjcooagchjjknaaPen4
import Derived.Test.YtjcooagchjjknaaPage3
namespace Go.Proofs.Ytjcooagchjjknaa
open Go Go.RowKit Go.ChangeShapes Go.WideShapes Go.Deep
set_option linter.unusedVariables false

section
variable {H : Type} {enc : TypeId × Value → H} {P : Program} {w : World} {base : Nat} {spare : Nat → Bool} {held : Bool}
theorem slice_cap {t e : TypeId} {fuel : Nat} {A : Option Addr} {n c : Nat} {x : DataW H × List MemPlace} (ht : P.underlying t = some (.slice e)) (h : DataW.trod enc P w base spare held fuel t [.slice A n c] = some x) : n ≤ c := by
  rcases open_slice ht h with ⟨h0, _⟩ | ⟨a, len, cap, m, k, D, Pl, hcs, hb, hl, _⟩
  · simp at h0
    obtain ⟨rfl, rfl, rfl⟩ := h0
    exact Nat.le_refl _
  · simp at hcs
    obtain ⟨rfl, rfl, rfl⟩ := hcs
    exact hl
theorem slice_is {t e : TypeId} {fuel : Nat} {v : Value} {x : DataW H × List MemPlace} (ht : P.underlying t = some (.slice e)) (h : DataW.trod enc P w base spare held fuel t [v] = some x) : ∃ A n c, v = .slice A n c := by
  rcases open_slice ht h with ⟨h0, _⟩ | ⟨a, len, cap, m, k, D, Pl, hcs, hb, hl, _⟩
  · simp at h0
    exact ⟨_, _, _, h0⟩
  · simp at hcs
    exact ⟨_, _, _, hcs⟩
theorem open_intsC {t e : TypeId} {fuel : Nat} {A : Option Addr} {n c : Nat} {x : DataW H × List MemPlace} (ht : P.underlying t = some (.slice e)) (he : P.underlying e = some (.int .i64)) (hc : P.cellsOf e = 1)
    (h : DataW.trod enc P w base spare held fuel t [.slice A n c] = some x) : (n ≤ maxLen ∧ n ≤ c) ∧ ∃ xs, SlI w A n xs ∧ ∀ x ∈ xs, (Lit.int .i64 x).wf = true := by
  obtain ⟨h1, h2⟩ := open_ints64 ht he hc h
  exact ⟨⟨h1, slice_cap ht h⟩, h2⟩
theorem open_stroke {r : Reach} {b0 : Nat} {t ei : TypeId} {f0 f1 f2 f3 g0 g1 : Field} {v : Value} {d : DataW H} {p : List MemPlace} (hs : P.underlying t = some (.struct #[f0, f1, f2, f3])) (hg : P.underlying f1.type = some (.struct #[g0, g1])) (hC : P.cellsOf t = 5)
    (o0 : f0.offset = 0) (o1 : f1.offset = 1) (o2 : f2.offset = 3) (o3 : f3.offset = 4) (k0 : P.cellsOf f0.type = 1) (k1 : P.cellsOf f1.type = 2) (k2 : P.cellsOf f2.type = 1) (k3 : P.cellsOf f3.type = 1) (hone : oneCellFields P #[g0, g1] = true)
    (u0 : P.underlying f0.type = some (.int .i64)) (u3 : P.underlying f3.type = some (.int .i64)) (v0 : P.underlying g0.type = some (.int .i64)) (v1 : P.underlying g1.type = some (.int .u32)) (u2 : P.underlying f2.type = some (.slice ei)) (ui : P.underlying ei = some (.int .i64)) (hci : P.cellsOf ei = 1)
    (hv : Value.okWide P w r b0 t v) (h : DataW.Trod enc P w base spare held t v d p) :
    ∃ x : Sk × Option Addr × Nat × Nat, v = .agg #[.int .i64 x.1.kind, .int .i64 x.1.who.1, .int .u32 (W x.1.who.2), .slice x.2.1 x.2.2.1 x.2.2.2, .int .i64 x.1.text] ∧ (x.2.2.1 ≤ maxLen ∧ x.2.2.1 ≤ x.2.2.2 ∧ SlI w x.2.1 x.2.2.1 x.1.path) := by
  obtain ⟨cs, rfl, hsz⟩ := okWide_struct hs hv
  rw [hC] at hsz
  obtain ⟨l⟩ := cs
  match l, hsz with
  | [c0, c1, c2, c3, c4], _ =>
    obtain ⟨fuel, hf0⟩ := h
    obtain ⟨ys, m', _, _, _, hyl, hf⟩ := DataW.trod_struct hs hf0
    have q0 := hf 0 f0 rfl
    have q1 := hf 1 f1 rfl
    have q2 := hf 2 f2 rfl
    have q3 := hf 3 f3 rfl
    rw [o0, k0] at q0
    rw [o1, k1] at q1
    rw [o2, k2] at q2
    rw [o3, k3] at q3
    have e0 : ys[0]? = some (ys[0]'(by rw [hyl]; simp)) := List.getElem?_eq_getElem _
    have e1 : ys[1]? = some (ys[1]'(by rw [hyl]; simp)) := List.getElem?_eq_getElem _
    have e2 : ys[2]? = some (ys[2]'(by rw [hyl]; simp)) := List.getElem?_eq_getElem _
    have e3 : ys[3]? = some (ys[3]'(by rw [hyl]; simp)) := List.getElem?_eq_getElem _
    rw [e0] at q0
    rw [e1] at q1
    rw [e2] at q2
    rw [e3] at q3
    obtain ⟨z0, s0, _, _⟩ := DataW.trod_int u0 q0
    obtain ⟨m2, hf2⟩ := struct_cells hg hone q1 rfl
    obtain ⟨a0, y0, r0, t0⟩ := hf2 0 g0 rfl
    obtain ⟨a1, y1, r1, t1⟩ := hf2 1 g1 rfl
    obtain ⟨z1, s1, _, _⟩ := DataW.trod_int v0 t0
    obtain ⟨z2, s2, _, w2⟩ := DataW.trod_int v1 t1
    obtain ⟨z4, s4, _, _⟩ := DataW.trod_int u3 q3
    simp [Value.cells] at s0 s1 s2 s4 r0 r1 q2
    subst s1 s2
    obtain ⟨b2, rfl⟩ := bvOf_wf w2
    obtain ⟨A, n, c, rfl⟩ := slice_is u2 q2
    obtain ⟨⟨h1, h2⟩, xs, h3, _⟩ := open_intsC u2 ui hci q2
    exact ⟨(⟨z0, (z1, b2), xs, z4⟩, A, n, c), by rw [s0, s4, r0, r1], h1, h2, h3⟩
end
end Go.Proofs.Ytjcooagchjjknaa
