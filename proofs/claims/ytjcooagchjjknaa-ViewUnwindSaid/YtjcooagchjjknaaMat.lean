/- Slices of slices of integers ([][]int), read as lists of rows. -/
import Derived.Test.YtjcooagchjjknaaOpen
namespace Go.Proofs.Ytjcooagchjjknaa
open Go Go.RowKit Go.ChangeShapes Go.WideShapes Go.Deep

/-- a row: its place, its length, its room, its numbers -/
abbrev Rv := Option Addr × Nat × Nat × List Int
def rwv (r : Rv) : Value := .slice r.1 r.2.1 r.2.2.1
def RowOk (w : World) (r : Rv) : Prop := SlI w r.1 r.2.1 r.2.2.2 ∧ r.2.1 ≤ maxLen
def SlM (w : World) (A : Option Addr) (n : Nat) (rs : List Rv) : Prop := Sl w 1 A n (rs.map rwv) ∧ rs.length = n ∧ ∀ r ∈ rs, RowOk w r
section
variable {w w' : World} {A : Option Addr} {n : Nat}
theorem SlM.len {rs} (h : SlM w A n rs) : rs.length = n := h.2.1
theorem RowOk.kept {r} (h : RowOk w r) (k : Kept w w') : RowOk w' r := ⟨h.1.kept k, h.2⟩
theorem SlM.kept {rs} (h : SlM w A n rs) (k : Kept w w') : SlM w' A n rs := ⟨h.1.kept k, h.2.1, fun r hr => (h.2.2 r hr).kept k⟩
theorem SlM.get {rs} (h : SlM w A n rs) (k : Nat) (hk : k < n) : ∃ b off, ∃ hb : k < rs.length, A = some ⟨b, off, none⟩ ∧ b < w.heap.size ∧
    w.cell? ⟨b, off + k, none⟩ = some (.slice rs[k].1 rs[k].2.1 rs[k].2.2.1) ∧ RowOk w rs[k] := by
  have hl : k < rs.length := by rw [h.2.1]; exact hk
  obtain ⟨b, off, e, hb, hc⟩ := h.1.2 (by omega)
  exact ⟨b, off, hl, e, hb, hc k _ (by rw [List.getElem?_map, List.getElem?_eq_getElem hl]; rfl), h.2.2 _ (List.getElem_mem hl)⟩
end
/-- the k-th number of a row -/
def iat (xs : List Int) (k : Nat) : Int := xs.getD k 0
theorem iat_eq (xs : List Int) (k : Nat) (h : k < xs.length) : iat xs k = xs[k] := by
  unfold iat
  rw [List.getD_eq_getElem?_getD, List.getElem?_eq_getElem h]
  rfl
theorem SlI.getN {w : World} {A : Option Addr} {n : Nat} {xs} (h : SlI w A n xs) (k : Nat) (hk : k < n) : ∃ b off, A = some ⟨b, off, none⟩ ∧ b < w.heap.size ∧
    w.cell? ⟨b, off + k, none⟩ = some (.int .i64 (iat xs k)) := by
  obtain ⟨b, off, hl, e, hb, hc⟩ := h.get k hk
  exact ⟨b, off, e, hb, by rw [iat_eq _ _ hl]; exact hc⟩
theorem SlI.open_ {w : World} {A : Option Addr} {n : Nat} {xs} (h : SlI w A n xs) (hn : 0 < n) : ∃ b off, A = some ⟨b, off, none⟩ ∧ b < w.heap.size ∧ ∀ k, k < n → w.cell? ⟨b, off + k, none⟩ = some (.int .i64 (iat xs k)) := by
  obtain ⟨b, off, e, hb, _⟩ := h.getN 0 hn
  refine ⟨b, off, e, hb, fun k hk => ?_⟩
  obtain ⟨b', off', e', _, hc⟩ := h.getN k hk
  rw [e] at e'
  injection e' with e'
  injection e' with e1 e2
  subst e1 e2
  exact hc

section
variable {H : Type} {enc : TypeId × Value → H} {P : Program} {w : World} {base : Nat} {spare : Nat → Bool} {held : Bool}
theorem open_mat {t e i : TypeId} {fuel : Nat} {A : Option Addr} {n c : Nat} {x : DataW H × List MemPlace} (ht : P.underlying t = some (.slice e)) (he : P.underlying e = some (.slice i)) (hc : P.cellsOf e = 1)
    (hi : P.underlying i = some (.int .i64)) (h1 : P.cellsOf i = 1) (h : DataW.trod enc P w base spare held fuel t [.slice A n c] = some x) : n ≤ maxLen ∧ ∃ rs, SlM w A n rs := by
  obtain ⟨els, g1, g2, g3, g4⟩ := open_sl ht (by omega) h
  obtain ⟨rs, rfl⟩ := els_of (fun r : { r : Rv // RowOk w r } => [rwv r.1]) els (by
    intro cs hcs
    obtain ⟨hl, m, y, hy⟩ := g4 cs hcs
    have hcs2 : ∃ a len cap, cs = [.slice a len cap] := by
      rcases open_slice he hy with ⟨h0, _⟩ | ⟨a, len, cap, _, _, _, _, h0, _⟩
      · exact ⟨none, 0, 0, h0⟩
      · exact ⟨some a, len, cap, h0⟩
    obtain ⟨a, len, cap, rfl⟩ := hcs2
    obtain ⟨q1, zs, q2, _⟩ := open_ints64 he hi h1 hy
    exact ⟨⟨(a, len, cap, zs), q2, q1⟩, rfl⟩)
  refine ⟨g2, rs.map (·.1), ?_, by simpa using g1, ?_⟩
  · rw [hc] at g3
    have e : (rs.map fun r => [rwv r.1]).flatten = (rs.map (·.1)).map rwv := by
      rw [List.map_map]
      exact flatten_single (fun r : { r : Rv // RowOk w r } => rwv r.1) rs
    rw [e] at g3
    exact g3
  · intro r hr
    obtain ⟨q, _, rfl⟩ := List.mem_map.1 hr
    exact q.2
end
end Go.Proofs.Ytjcooagchjjknaa
