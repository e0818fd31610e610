/- Slices of slices of truth values ([][]bool), read as lists of rows; the five bits of a table's class. -/
import Derived.Test.YtjliabifaohfjaaOpen
namespace Go.Proofs.Ytjliabifaohfjaa
open Go Go.RowKit Go.ChangeShapes Go.WideShapes Go.Deep

/-- a row: its place, its length, its room, its values -/
abbrev Bv2 := Option Addr × Nat × Nat × List Bool
def rwb (r : Bv2) : Value := .slice r.1 r.2.1 r.2.2.1
def RowBOk (w : World) (r : Bv2) : Prop := SlB w r.1 r.2.1 r.2.2.2 ∧ r.2.1 ≤ maxLen
def SlBM (w : World) (A : Option Addr) (n : Nat) (rs : List Bv2) : Prop := Sl w 1 A n (rs.map rwb) ∧ rs.length = n ∧ ∀ r ∈ rs, RowBOk w r
section
variable {w w' : World} {A : Option Addr} {n : Nat}
theorem SlBM.len {rs} (h : SlBM w A n rs) : rs.length = n := h.2.1
theorem RowBOk.kept {r} (h : RowBOk w r) (k : Kept w w') : RowBOk w' r := ⟨h.1.kept k, h.2⟩
theorem SlBM.kept {rs} (h : SlBM w A n rs) (k : Kept w w') : SlBM w' A n rs := ⟨h.1.kept k, h.2.1, fun r hr => (h.2.2 r hr).kept k⟩
theorem SlBM.get {rs} (h : SlBM w A n rs) (k : Nat) (hk : k < n) : ∃ b off, ∃ hb : k < rs.length, A = some ⟨b, off, none⟩ ∧ b < w.heap.size ∧
    w.cell? ⟨b, off + k, none⟩ = some (.slice rs[k].1 rs[k].2.1 rs[k].2.2.1) ∧ RowBOk w rs[k] := by
  have hl : k < rs.length := by rw [h.2.1]; exact hk
  obtain ⟨b, off, e, hb, hc⟩ := h.1.2 (by omega)
  exact ⟨b, off, hl, e, hb, hc k _ (by rw [List.getElem?_map, List.getElem?_eq_getElem hl]; rfl), h.2.2 _ (List.getElem_mem hl)⟩
end
section
variable {H : Type} {enc : TypeId × Value → H} {P : Program} {w : World} {base : Nat} {spare : Nat → Bool} {held : Bool}
theorem open_bmat {t e i : TypeId} {fuel : Nat} {A : Option Addr} {n c : Nat} {x : DataW H × List MemPlace} (ht : P.underlying t = some (.slice e)) (he : P.underlying e = some (.slice i)) (hc : P.cellsOf e = 1)
    (hi : P.underlying i = some .bool) (h1 : P.cellsOf i = 1) (h : DataW.trod enc P w base spare held fuel t [.slice A n c] = some x) : n ≤ maxLen ∧ ∃ rs, SlBM w A n rs := by
  obtain ⟨els, g1, g2, g3, g4⟩ := open_sl ht (by omega) h
  obtain ⟨rs, rfl⟩ := els_of (fun r : { r : Bv2 // RowBOk w r } => [rwb r.1]) els (by
    intro cs hcs
    obtain ⟨hl, m, y, hy⟩ := g4 cs hcs
    have hcs2 : ∃ a len cap, cs = [.slice a len cap] := by
      rcases open_slice he hy with ⟨h0, _⟩ | ⟨a, len, cap, _, _, _, _, h0, _⟩
      · exact ⟨none, 0, 0, h0⟩
      · exact ⟨some a, len, cap, h0⟩
    obtain ⟨a, len, cap, rfl⟩ := hcs2
    obtain ⟨q1, zs, q2⟩ := open_bools he hi h1 hy
    exact ⟨⟨(a, len, cap, zs), q2, q1⟩, rfl⟩)
  refine ⟨g2, rs.map (·.1), ?_, by simpa using g1, ?_⟩
  · rw [hc] at g3
    have e : (rs.map fun r => [rwb r.1]).flatten = (rs.map (·.1)).map rwb := by
      rw [List.map_map]
      exact flatten_single (fun r : { r : Bv2 // RowBOk w r } => rwb r.1) rs
    rw [e] at g3
    exact g3
  · intro r hr
    obtain ⟨q, _, rfl⟩ := List.mem_map.1 hr
    exact q.2
end
end Go.Proofs.Ytjliabifaohfjaa
