/- Matrices of words ([][]uint32) and slices of chains (three words each), read as lists; matrices that the call makes itself. -/
import Derived.Test.YtekpifobhgjepaaOpen
import Derived.Test.YtekpifobhgjepaaHold
import Derived.Test.YtekpifobhgjepaaRightsP
namespace Go.Proofs.Ytekpifobhgjepaa
open Go Go.RowKit Go.ChangeShapes Go.WideShapes Go.Deep
set_option linter.unusedVariables false

/-- a row: its place, its length, its room, its words -/
abbrev Wr := Option Addr × Nat × Nat × List (BitVec 32)
def wrv (r : Wr) : Value := .slice r.1 r.2.1 r.2.2.1
def WrOk (w : World) (r : Wr) : Prop := SlW w r.1 r.2.1 r.2.2.2 ∧ r.2.1 ≤ maxLen
def SlX (w : World) (A : Option Addr) (n : Nat) (rs : List Wr) : Prop := Sl w 1 A n (rs.map wrv) ∧ rs.length = n ∧ ∀ r ∈ rs, WrOk w r
/-- the matrix of rows -/
def mxOf (rs : List Wr) : Mx := fun i j => nth (rs.getD i (none, 0, 0, [])).2.2.2 j
theorem mxOf_at {rs : List Wr} {i : Nat} (h : i < rs.length) (j : Nat) : mxOf rs i j = nth rs[i].2.2.2 j := by
  unfold mxOf
  rw [List.getD_eq_getElem?_getD, List.getElem?_eq_getElem h]
  rfl
section
variable {w w' : World} {A : Option Addr} {n : Nat}
theorem SlX.len {rs} (h : SlX w A n rs) : rs.length = n := h.2.1
theorem WrOk.kept {r} (h : WrOk w r) (k : Kept w w') : WrOk w' r := ⟨h.1.kept k, h.2⟩
theorem SlX.kept {rs} (h : SlX w A n rs) (k : Kept w w') : SlX w' A n rs := ⟨h.1.kept k, h.2.1, fun r hr => (h.2.2 r hr).kept k⟩
theorem SlX.get {rs} (h : SlX w A n rs) (k : Nat) (hk : k < n) : ∃ b off, ∃ hb : k < rs.length, A = some ⟨b, off, none⟩ ∧ b < w.heap.size ∧
    w.cell? ⟨b, off + k, none⟩ = some (.slice rs[k].1 rs[k].2.1 rs[k].2.2.1) ∧ WrOk w rs[k] := by
  have hl : k < rs.length := by rw [h.2.1]; exact hk
  obtain ⟨b, off, e, hb, hc⟩ := h.1.2 (by omega)
  exact ⟨b, off, hl, e, hb, hc k _ (by rw [List.getElem?_map, List.getElem?_eq_getElem hl]; rfl), h.2.2 _ (List.getElem_mem hl)⟩
/-- a place of the matrix: its row's slice, and its cell -/
theorem SlX.at_ {rs} (h : SlX w A n rs) (hq : ∀ r ∈ rs, r.2.1 = n) (i j : Nat) (hi : i < n) (hj : j < n) : ∃ b off b2 off2 c2, A = some ⟨b, off, none⟩ ∧ w.cell? ⟨b, off + i, none⟩ = some (.slice (some ⟨b2, off2, none⟩) n c2) ∧
    w.cell? ⟨b2, off2 + j, none⟩ = some (.int .u32 (W (mxOf rs i j))) := by
  obtain ⟨b, off, hk, e, _, hc, hr⟩ := h.get i hi
  have hn := hq _ (List.getElem_mem hk)
  rw [mxOf_at hk]
  have h1 := hr.1
  rw [hn] at h1 hc
  obtain ⟨b2, off2, e2, _, hc2⟩ := h1.getN j hj
  rw [e2] at hc
  exact ⟨b, off, b2, off2, _, e, hc, hc2⟩
end
section
variable {H : Type} {enc : TypeId × Value → H} {P : Program} {w : World} {base : Nat} {spare : Nat → Bool} {held : Bool}
theorem open_wmat {t e i : TypeId} {fuel : Nat} {A : Option Addr} {n c : Nat} {x : DataW H × List MemPlace} (ht : P.underlying t = some (.slice e)) (he : P.underlying e = some (.slice i)) (hc : P.cellsOf e = 1)
    (hi : P.underlying i = some (.int .u32)) (h1 : P.cellsOf i = 1) (h : DataW.trod enc P w base spare held fuel t [.slice A n c] = some x) : n ≤ maxLen ∧ ∃ rs, SlX w A n rs := by
  obtain ⟨els, g1, g2, g3, g4⟩ := open_sl ht (by omega) h
  obtain ⟨rs, rfl⟩ := els_of (fun r : { r : Wr // WrOk w r } => [wrv r.1]) els (by
    intro cs hcs
    obtain ⟨hl, m, y, hy⟩ := g4 cs hcs
    have hcs2 : ∃ a len cap, cs = [.slice a len cap] := by
      rcases open_slice he hy with ⟨h0, _⟩ | ⟨a, len, cap, _, _, _, _, h0, _⟩
      · exact ⟨none, 0, 0, h0⟩
      · exact ⟨some a, len, cap, h0⟩
    obtain ⟨a, len, cap, rfl⟩ := hcs2
    obtain ⟨q1, zs, q2⟩ := open_words he hi h1 hy
    exact ⟨⟨(a, len, cap, zs), q2, q1⟩, rfl⟩)
  refine ⟨g2, rs.map (·.1), ?_, by simpa using g1, ?_⟩
  · rw [hc] at g3
    have e : (rs.map fun r => [wrv r.1]).flatten = (rs.map (·.1)).map wrv := by
      rw [List.map_map]
      exact flatten_single (fun r : { r : Wr // WrOk w r } => wrv r.1) rs
    rw [e] at g3
    exact g3
  · intro r hr
    obtain ⟨q, _, rfl⟩ := List.mem_map.1 hr
    exact q.2
end
/-! ### chains -/
def chv (c : Ch) : List Value := [.int .u32 (W c.1), .int .u32 (W c.2.1), .int .u32 (W c.2.2)]
def chCells (cs : List Ch) : List Value := cs.flatMap chv
theorem chCells_at : ∀ (ls : List Ch) (k : Nat) (x : Ch), ls[k]? = some x → (chCells ls)[k * 3]? = some (.int .u32 (W x.1)) ∧ (chCells ls)[k * 3 + 1]? = some (.int .u32 (W x.2.1)) ∧ (chCells ls)[k * 3 + 2]? = some (.int .u32 (W x.2.2)) := by
  intro ls
  induction ls with
  | nil => intro k r h; simp at h
  | cons a l ih =>
    intro k r h
    cases k with
    | zero => simp at h; subst h; simp [chCells, chv]
    | succ k =>
      have := ih k r (by simpa using h)
      have e : (k + 1) * 3 = k * 3 + 1 + 1 + 1 := by omega
      have e1 : k * 3 + 1 + 1 + 1 + 1 = (k * 3 + 1) + 1 + 1 + 1 := by omega
      have e2 : k * 3 + 1 + 1 + 1 + 2 = (k * 3 + 2) + 1 + 1 + 1 := by omega
      rw [e, e1, e2]
      simpa [chCells, chv] using this
theorem chCells_length (ls : List Ch) : (chCells ls).length = ls.length * 3 := by
  induction ls with
  | nil => rfl
  | cons a l ih => simp [chCells, chv] at ih ⊢; omega
theorem chCells_append (ls ms : List Ch) : chCells (ls ++ ms) = chCells ls ++ chCells ms := by
  unfold chCells
  rw [List.flatMap_append]
def SlC (w : World) (A : Option Addr) (n : Nat) (ls : List Ch) : Prop := Sl w 3 A n (chCells ls) ∧ ls.length = n
section
variable {w w' : World} {A : Option Addr} {n : Nat}
theorem SlC.kept {ls} (h : SlC w A n ls) (k : Kept w w') : SlC w' A n ls := ⟨h.1.kept k, h.2⟩
theorem SlC.get {ls} (h : SlC w A n ls) (k : Nat) (hk : k < n) : ∃ b off, ∃ hb : k < ls.length, A = some ⟨b, off, none⟩ ∧ b < w.heap.size ∧
    w.cell? ⟨b, off + k * 3, none⟩ = some (.int .u32 (W ls[k].1)) ∧ w.cell? ⟨b, off + k * 3 + 1, none⟩ = some (.int .u32 (W ls[k].2.1)) ∧ w.cell? ⟨b, off + k * 3 + 2, none⟩ = some (.int .u32 (W ls[k].2.2)) := by
  have hl : k < ls.length := by rw [h.2]; exact hk
  obtain ⟨b, off, e, hb, hc⟩ := h.1.2 (by omega)
  obtain ⟨q1, q2, q3⟩ := chCells_at ls k ls[k] (List.getElem?_eq_getElem hl)
  exact ⟨b, off, hl, e, hb, hc _ _ q1, hc _ _ q2, hc _ _ q3⟩
end
theorem one_chains (ls : List Ch) : ∀ u ∈ chCells ls, u.oneCell' = true := fun u hu => by
  unfold chCells at hu
  rw [List.mem_flatMap] at hu
  obtain ⟨x, _, hx⟩ := hu
  simp [chv] at hx
  rcases hx with rfl | rfl | rfl <;> rfl
section
variable {H : Type} {enc : TypeId × Value → H} {P : Program} {w : World} {base : Nat} {spare : Nat → Bool} {held : Bool}
theorem open_chain {e : TypeId} {f0 f1 f2 : Field} {fuel : Nat} {cs : List Value} {y : DataW H × List MemPlace} (he : P.underlying e = some (.struct #[f0, f1, f2])) (hone : oneCellFields P #[f0, f1, f2] = true) (hl : cs.length = 3)
    (u0 : P.underlying f0.type = some (.int .u32)) (u1 : P.underlying f1.type = some (.int .u32)) (u2 : P.underlying f2.type = some (.int .u32))
    (hy : DataW.trod enc P w base spare held fuel e cs = some y) : ∃ c : Ch, cs = chv c := by
  obtain ⟨m', hf⟩ := struct_cells he hone hy (by rw [hl]; rfl)
  obtain ⟨a0, y0, r0, t0⟩ := hf 0 f0 rfl
  obtain ⟨a1, y1, r1, t1⟩ := hf 1 f1 rfl
  obtain ⟨a2, y2, r2, t2⟩ := hf 2 f2 rfl
  obtain ⟨z0, s0, _, w0⟩ := DataW.trod_int u0 t0
  obtain ⟨z1, s1, _, w1⟩ := DataW.trod_int u1 t1
  obtain ⟨z2, s2, _, w2⟩ := DataW.trod_int u2 t2
  simp at s0 s1 s2
  subst s0 s1 s2
  obtain ⟨b0, rfl⟩ := bvOf_wf w0
  obtain ⟨b1, rfl⟩ := bvOf_wf w1
  obtain ⟨b2, rfl⟩ := bvOf_wf w2
  match cs, hl with
  | [c0, c1, c2], _ =>
    simp at r0 r1 r2
    exact ⟨(b0, b1, b2), by unfold chv; rw [r0, r1, r2]⟩
theorem open_chains {t e : TypeId} {f0 f1 f2 : Field} {fuel : Nat} {A : Option Addr} {n c : Nat} {x : DataW H × List MemPlace} (ht : P.underlying t = some (.slice e)) (he : P.underlying e = some (.struct #[f0, f1, f2])) (hone : oneCellFields P #[f0, f1, f2] = true) (hc : P.cellsOf e = 3)
    (u0 : P.underlying f0.type = some (.int .u32)) (u1 : P.underlying f1.type = some (.int .u32)) (u2 : P.underlying f2.type = some (.int .u32))
    (h : DataW.trod enc P w base spare held fuel t [.slice A n c] = some x) : n ≤ maxLen ∧ ∃ ls, SlC w A n ls := by
  obtain ⟨els, h1, h2, h3, h4⟩ := open_sl ht (by omega) h
  obtain ⟨rs, rfl⟩ := els_of chv els (by
    intro cs hcs
    obtain ⟨hl, m, y, hy⟩ := h4 cs hcs
    rw [hc] at hl
    exact open_chain he hone hl u0 u1 u2 hy)
  refine ⟨h2, rs, ?_, by simpa using h1⟩
  rw [hc] at h3
  have e : (rs.map chv).flatten = chCells rs := by
    unfold chCells
    rw [List.flatMap_def]
  rw [e] at h3
  exact h3
end
/-! ### a matrix that the call makes itself -/
def rowOf (n : Nat) (m : Mx) (i : Nat) : List Value := (List.range n).map fun j => wv (m i j)
theorem rowOf_length (n : Nat) (m : Mx) (i : Nat) : (rowOf n m i).length = n := by simp [rowOf]
theorem rowOf_at {n : Nat} {m : Mx} {i j : Nat} (h : j < n) : (rowOf n m i)[j]? = some (wv (m i j)) := by
  unfold rowOf
  rw [List.getElem?_map, List.getElem?_range h]
  rfl
theorem rowOf_other {n : Nat} {m : Mx} {i k a : Nat} (v : BitVec 32) (h : a ≠ i) : rowOf n (setM m i k v) a = rowOf n m a := by
  unfold rowOf
  apply List.map_congr_left
  intro j _
  simp [setM, h]
theorem rowOf_set {n : Nat} {m : Mx} {i k : Nat} (v : BitVec 32) : (rowOf n m i).set k (wv v) = rowOf n (setM m i k v) i := by
  apply List.ext_getElem?
  intro j
  rw [List.getElem?_set]
  unfold rowOf
  by_cases hj : j < n
  · rw [List.getElem?_map, List.getElem?_map, List.getElem?_range hj]
    by_cases e : k = j
    · subst e; simp [setM, hj]
    · rw [if_neg e]
      simp [setM, Ne.symm e]
  · have h1 : ((List.range n).map fun j => wv (m i j))[j]? = none := by simp; omega
    have h2 : ((List.range n).map fun j => wv (setM m i k v i j))[j]? = none := by simp; omega
    rw [h1, h2]
    simp
    omega
/-- the first h rows are the call's own, each in a block of its own -/
def Jag (w0 w : World) (E : TypeId) (n h : Nat) (Bs : Nat → Nat) (m : Mx) : Prop := (∀ k, k < h → Row w0 w (Bs k) E (rowOf n m k)) ∧ ∀ j k, j < h → k < h → j ≠ k → Bs j ≠ Bs k
def outL (n h : Nat) (Bs Cs : Nat → Nat) : List Value := (List.range h).map fun k => .slice (some ⟨Bs k, 0, none⟩) n (Cs k)
theorem outL_length (n h : Nat) (Bs Cs : Nat → Nat) : (outL n h Bs Cs).length = h := by simp [outL]
theorem outL_at {n h : Nat} {Bs Cs : Nat → Nat} {i : Nat} (hi : i < h) : (outL n h Bs Cs)[i]? = some (.slice (some ⟨Bs i, 0, none⟩) n (Cs i)) := by
  unfold outL
  rw [List.getElem?_map, List.getElem?_range hi]
  rfl
def upd1 (f : Nat → Nat) (i v : Nat) : Nat → Nat := fun k => if k = i then v else f k
theorem outL_snoc (n h : Nat) (Bs Cs : Nat → Nat) (B c : Nat) : outL n (h + 1) (upd1 Bs h B) (upd1 Cs h c) = outL n h Bs Cs ++ [.slice (some ⟨B, 0, none⟩) n c] := by
  unfold outL
  rw [List.range_succ, List.map_append]
  congr 1
  · apply List.map_congr_left
    intro k hk
    rw [List.mem_range] at hk
    have : k ≠ h := by omega
    simp [upd1, this]
  · simp [upd1]
section
variable {w0 w w' : World} {E : TypeId} {n h : Nat} {Bs Cs : Nat → Nat} {m : Mx}
theorem Jag.nil (w0 w : World) (E : TypeId) (n : Nat) (Bs : Nat → Nat) (m : Mx) : Jag w0 w E n 0 Bs m := ⟨fun _ h => absurd h (Nat.not_lt_zero _), fun _ _ h => absurd h (Nat.not_lt_zero _)⟩
theorem Jag.kept (j : Jag w0 w E n h Bs m) (k : Kept w w') : Jag w0 w' E n h Bs m := ⟨fun i hi => (j.1 i hi).kept k, j.2⟩
theorem Jag.grown {row : Option Nat} (j : Jag w0 w E n h Bs m) (hg : w.grownBy w' row) (hne : ∀ i, i < h → some (Bs i) ≠ row) (hrow : ∀ k, row = some k → w0.heap.size ≤ k) : Jag w0 w' E n h Bs m := ⟨fun i hi => (j.1 i hi).grown hg (hne i hi) hrow, j.2⟩
theorem Jag.snoc {B : Nat} (j : Jag w0 w E n h Bs m) (r : Row w0 w B E (rowOf n m h)) (hne : ∀ i, i < h → Bs i ≠ B) : Jag w0 w E n (h + 1) (upd1 Bs h B) m := by
  refine ⟨fun k hk => ?_, fun a b ha hb hab => ?_⟩
  · unfold upd1
    split
    · rename_i e; subst e; exact r
    · exact j.1 k (by omega)
  · unfold upd1
    split <;> split
    · omega
    · exact Ne.symm (hne b (by omega))
    · exact hne a (by omega)
    · exact j.2 a b (by omega) (by omega) hab
theorem Jag.set (j : Jag w0 w E n h Bs m) {i : Nat} (hi : i < h) (k : Nat) (v : BitVec 32) : Jag w0 (w.setCell ⟨Bs i, k, none⟩ (.int .u32 (W v))) E n h Bs (setM m i k v) := by
  refine ⟨fun a ha => ?_, j.2⟩
  by_cases e : a = i
  · subst e
    have := (j.1 a ha).set k (wv v)
    rw [rowOf_set] at this
    exact this
  · rw [rowOf_other v e]
    exact (j.1 a ha).other (p := ⟨Bs i, k, none⟩) _ (j.2 a i ha hi e) (j.1 i hi).2.1
theorem Jag.cell (j : Jag w0 w E n h Bs m) {i k : Nat} (hi : i < h) (hk : k < n) : w.cell? ⟨Bs i, k, none⟩ = some (.int .u32 (W (m i k))) ∧ w.frozen? ⟨Bs i, k, none⟩ = false :=
  ⟨(j.1 i hi).cell k (rowOf_at hk), (j.1 i hi).free k⟩
/-- the rows as they are read -/
def rowsW (n h : Nat) (Bs Cs : Nat → Nat) (m : Mx) : List Wr := (List.range h).map fun k => (some ⟨Bs k, 0, none⟩, n, Cs k, (List.range n).map (m k))
theorem rowsW_mx {i j : Nat} (hi : i < h) (hj : j < n) : mxOf (rowsW n h Bs Cs m) i j = m i j := by
  rw [mxOf_at (by simpa [rowsW] using hi)]
  unfold rowsW
  rw [List.getElem_map, List.getElem_range, nth_eq _ _ (by simpa using hj)]
  simp
theorem rowsW_len (n h : Nat) (Bs Cs : Nat → Nat) (m : Mx) : ∀ r ∈ rowsW n h Bs Cs m, r.2.1 = n := fun r hr => by
  unfold rowsW at hr
  rw [List.mem_map] at hr
  obtain ⟨k, _, rfl⟩ := hr
  rfl
theorem Jag.sl {E2 : TypeId} {A : Option Addr} {c : Nat} (j : Jag w0 w E n h Bs m) (o : Own w0 w E2 1 (.slice A h c) h (outL n h Bs Cs)) (hn : n ≤ maxLen) : SlX w A h (rowsW n h Bs Cs m) := by
  obtain ⟨A2, c2, e, hsl, _⟩ := o.form
  injection e with e
  subst e
  refine ⟨?_, by simp [rowsW], fun r hr => ?_⟩
  · have e2 : (rowsW n h Bs Cs m).map wrv = outL n h Bs Cs := by
      unfold rowsW outL
      rw [List.map_map]
      rfl
    rw [e2]
    exact hsl
  · unfold rowsW at hr
    rw [List.mem_map] at hr
    obtain ⟨k, hk, rfl⟩ := hr
    rw [List.mem_range] at hk
    refine ⟨⟨?_, by simp⟩, hn⟩
    have h1 := (j.1 k hk).sl n (rowOf_length n m k)
    have e3 : ((List.range n).map (m k)).map wv = rowOf n m k := by
      unfold rowOf
      rw [List.map_map]
      rfl
    show Sl w 1 _ n (((List.range n).map (m k)).map wv)
    rw [e3]
    exact h1
end
end Go.Proofs.Ytekpifobhgjepaa
