/- Arguments that are slices of flat elements: what the row's reading says of them, as lists. Over any program. -/
import Derived.Test.YtekpifobhgjepaaSl
import Derived.Deep.Slices
import Derived.Deep.Fields
import Derived.OpenShut
import Derived.ChangeOld
import Derived.Carry
import Derived.Lib.SmallJoins
namespace Go.Proofs.Ytekpifobhgjepaa
open Go Go.RowKit Go.ChangeShapes Go.WideShapes Go.Deep

section
variable {H : Type} {enc : TypeId × Value → H} {P : Program} {w : World} {base : Nat} {spare : Nat → Bool} {held : Bool}

theorem cell_lt {w : World} {a : Addr} {v : Value} (h : w.cell? a = some v) : a.block < w.heap.size := by
  rcases Nat.lt_or_ge a.block w.heap.size with hlt | hge
  · exact hlt
  · exfalso
    unfold World.cell? at h
    rw [Array.getElem?_eq_none hge] at h
    simp at h

theorem flatten_get (s : Nat) (hs : 0 < s) : ∀ (els : List (List Value)) (j : Nat) (u : Value), (∀ cs ∈ els, cs.length = s) → els.flatten[j]? = some u → ∃ cs, els[j / s]? = some cs ∧ cs[j % s]? = some u := by
  intro els
  induction els with
  | nil => intro j u _ h; simp at h
  | cons c l ih =>
    intro j u hl h
    have hc : c.length = s := hl c (by simp)
    by_cases hj : j < s
    · refine ⟨c, ?_, ?_⟩
      · rw [Nat.div_eq_of_lt hj]; rfl
      · rw [Nat.mod_eq_of_lt hj]
        rw [List.flatten_cons, List.getElem?_append_left (by omega)] at h
        exact h
    · rw [List.flatten_cons, List.getElem?_append_right (by omega), hc] at h
      obtain ⟨cs, h1, h2⟩ := ih (j - s) u (fun cs hcs => hl cs (by simp [hcs])) h
      have e1 : j / s = (j - s) / s + 1 := by
        rw [Nat.div_eq_sub_div hs (by omega)]
      have e2 : j % s = (j - s) % s := Nat.mod_eq_sub_mod (by omega)
      refine ⟨cs, ?_, ?_⟩
      · rw [e1]; simpa using h1
      · rw [e2]; exact h2

theorem flatten_length (s : Nat) : ∀ (els : List (List Value)), (∀ cs ∈ els, cs.length = s) → els.flatten.length = els.length * s := by
  intro els
  induction els with
  | nil => intro _; simp
  | cons c l ih =>
    intro h
    rw [List.flatten_cons, List.length_append, ih (fun cs hcs => h cs (by simp [hcs])), h c (by simp), List.length_cons, Nat.add_mul]
    omega

/-- A slice of flat elements: its elements, each with its own reading. -/
theorem open_sl {t e : TypeId} {fuel : Nat} {A : Option Addr} {n c : Nat} {x : DataW H × List MemPlace} (ht : P.underlying t = some (.slice e)) (hpos : 0 < P.cellsOf e)
    (h : DataW.trod enc P w base spare held fuel t [.slice A n c] = some x) :
    ∃ els : List (List Value), els.length = n ∧ n ≤ maxLen ∧ Sl w (P.cellsOf e) A n els.flatten ∧ ∀ cs ∈ els, cs.length = P.cellsOf e ∧ ∃ m y, DataW.trod enc P w base spare held m e cs = some y := by
  rcases open_slice ht h with ⟨h0, _⟩ | ⟨a, len, cap, m, k, D, Pl, hcs, hb, hl, hm, hmm, hx, hi⟩
  · simp at h0
    obtain ⟨rfl, rfl, rfl⟩ := h0
    exact ⟨[], rfl, by omega, Sl.nil_ _ _ _, by simp⟩
  · simp at hcs
    obtain ⟨rfl, rfl, rfl⟩ := hcs
    have hlm : n ≤ m := by rw [hmm]; split <;> omega
    have hall : ∀ i, ∃ cs', i < n → w.cells? base (a.add (i * P.cellsOf e)) (P.cellsOf e) = some cs' ∧ DataW.trod enc P w base spare held k e cs' = some (D i, Pl i) := by
      intro i
      by_cases hin : i < n
      · obtain ⟨cs', h1, h2⟩ := hi i (by omega)
        exact ⟨cs', fun _ => ⟨h1, h2⟩⟩
      · exact ⟨[], fun hc => absurd hc hin⟩
    let C : Nat → List Value := fun i => Classical.choose (hall i)
    have hC : ∀ i, i < n → w.cells? base (a.add (i * P.cellsOf e)) (P.cellsOf e) = some (C i) ∧ DataW.trod enc P w base spare held k e (C i) = some (D i, Pl i) := fun i => Classical.choose_spec (hall i)
    have hlens : ∀ cs ∈ (List.range n).map C, cs.length = P.cellsOf e := by
      intro cs hcs
      obtain ⟨i, hin, rfl⟩ := List.mem_map.1 hcs
      exact (World.cells?_some (hC i (by simpa using hin)).1).2.1
    refine ⟨(List.range n).map C, by simp, by omega, ⟨by rw [flatten_length _ _ hlens]; simp, fun hn => ?_⟩, ?_⟩
    · have hcell : ∀ j u, ((List.range n).map C).flatten[j]? = some u → w.cell? (a.add j) = some u := by
        intro j u hu
        obtain ⟨cs, h1, h2⟩ := flatten_get _ hpos _ j u hlens hu
        rw [List.getElem?_map] at h1
        obtain ⟨i, hi1, rfl⟩ := Option.map_eq_some_iff.1 h1
        have hin : j / P.cellsOf e < n ∧ i = j / P.cellsOf e := by
          obtain ⟨hq1, hq2⟩ := List.getElem?_eq_some_iff.1 hi1
          rw [List.getElem_range] at hq2
          rw [List.length_range] at hq1
          exact ⟨hq1, hq2.symm⟩
        obtain ⟨hin, rfl⟩ := hin
        have h3 := (World.cells?_some (hC _ hin).1).2.2 (j % P.cellsOf e) (Nat.mod_lt _ hpos)
        rw [h2] at h3
        rw [← h3]
        congr 1
        rw [add_add]
        congr 1
        exact (Nat.div_add_mod' j (P.cellsOf e)).symm
      have h0 : ∃ u, ((List.range n).map C).flatten[0]? = some u := by
        have : 0 < ((List.range n).map C).flatten.length := by
          rw [flatten_length _ _ hlens, List.length_map, List.length_range]
          exact Nat.mul_pos hn hpos
        exact ⟨_, List.getElem?_eq_getElem this⟩
      obtain ⟨u0, hu0⟩ := h0
      have hc0 := hcell 0 u0 hu0
      have hsp := World.cell?_spot hc0
      have hlt := cell_lt hc0
      obtain ⟨b, off, spot⟩ := a
      have hsp' : spot = none := by simpa [Addr.add] using hsp
      subst hsp'
      refine ⟨b, off, rfl, by simpa [Addr.add] using hlt, fun j u hu => ?_⟩
      have := hcell j u hu
      unfold Addr.add at this
      split at this
      · rename_i hj; subst hj; simpa using this
      · simpa using this
    · intro cs hcs
      refine ⟨hlens cs hcs, ?_⟩
      obtain ⟨i, hin, rfl⟩ := List.mem_map.1 hcs
      exact ⟨k, _, (hC i (by simpa using hin)).2⟩

theorem els_of {α : Type} (f : α → List Value) : ∀ els : List (List Value), (∀ cs ∈ els, ∃ r, cs = f r) → ∃ rs : List α, els = rs.map f := by
  intro els
  induction els with
  | nil => intro _; exact ⟨[], rfl⟩
  | cons c l ih =>
    intro h
    obtain ⟨r, rfl⟩ := h c (by simp)
    obtain ⟨rs, rfl⟩ := ih (fun cs hcs => h cs (by simp [hcs]))
    exact ⟨r :: rs, rfl⟩

theorem flatten_single {α : Type} (g : α → Value) (l : List α) : (l.map fun x => [g x]).flatten = l.map g := by
  induction l with
  | nil => rfl
  | cons a l ih => rw [List.map_cons, List.flatten_cons, ih]; rfl

theorem open_words {t e : TypeId} {fuel : Nat} {A : Option Addr} {n c : Nat} {x : DataW H × List MemPlace} (ht : P.underlying t = some (.slice e)) (he : P.underlying e = some (.int .u32)) (hc : P.cellsOf e = 1)
    (h : DataW.trod enc P w base spare held fuel t [.slice A n c] = some x) : n ≤ maxLen ∧ ∃ xs, SlW w A n xs := by
  obtain ⟨els, h1, h2, h3, h4⟩ := open_sl ht (by omega) h
  obtain ⟨rs, rfl⟩ := els_of (fun x : BitVec 32 => [wv x]) els (by
    intro cs hcs
    obtain ⟨_, m, y, hy⟩ := h4 cs hcs
    obtain ⟨z, rfl, _, hz⟩ := DataW.trod_int he hy
    obtain ⟨b, rfl⟩ := bvOf_wf hz
    exact ⟨b, rfl⟩)
  refine ⟨h2, rs, ?_, by simpa using h1⟩
  rw [hc] at h3
  rw [flatten_single] at h3
  exact h3

theorem open_bools {t e : TypeId} {fuel : Nat} {A : Option Addr} {n c : Nat} {x : DataW H × List MemPlace} (ht : P.underlying t = some (.slice e)) (he : P.underlying e = some .bool) (hc : P.cellsOf e = 1)
    (h : DataW.trod enc P w base spare held fuel t [.slice A n c] = some x) : n ≤ maxLen ∧ ∃ xs, SlB w A n xs := by
  obtain ⟨els, h1, h2, h3, h4⟩ := open_sl ht (by omega) h
  obtain ⟨rs, rfl⟩ := els_of (fun x : Bool => [bv x]) els (by
    intro cs hcs
    obtain ⟨_, m, y, hy⟩ := h4 cs hcs
    obtain ⟨z, rfl, _⟩ := DataW.trod_bool he hy
    exact ⟨z, rfl⟩)
  refine ⟨h2, rs, ?_, by simpa using h1⟩
  rw [hc] at h3
  rw [flatten_single] at h3
  exact h3

theorem open_ints64 {t e : TypeId} {fuel : Nat} {A : Option Addr} {n c : Nat} {x : DataW H × List MemPlace} (ht : P.underlying t = some (.slice e)) (he : P.underlying e = some (.int .i64)) (hc : P.cellsOf e = 1)
    (h : DataW.trod enc P w base spare held fuel t [.slice A n c] = some x) : n ≤ maxLen ∧ ∃ xs, SlI w A n xs ∧ ∀ z ∈ xs, (Lit.int .i64 z).wf = true := by
  obtain ⟨els, h1, h2, h3, h4⟩ := open_sl ht (by omega) h
  obtain ⟨rs, rfl⟩ := els_of (fun x : { z : Int // (Lit.int .i64 z).wf = true } => [iv x.1]) els (by
    intro cs hcs
    obtain ⟨_, m, y, hy⟩ := h4 cs hcs
    obtain ⟨z, rfl, _, hz⟩ := DataW.trod_int he hy
    exact ⟨⟨z, hz⟩, rfl⟩)
  refine ⟨h2, rs.map (·.1), ⟨?_, by simpa using h1⟩, ?_⟩
  · rw [hc] at h3
    rw [flatten_single (fun x : { z : Int // (Lit.int .i64 z).wf = true } => iv x.1)] at h3
    rw [List.map_map]
    exact h3
  · intro z hz
    obtain ⟨y, _, rfl⟩ := List.mem_map.1 hz
    exact y.2

/-- The cells of a struct whose fields take one cell each. -/
theorem struct_cells {t : TypeId} {fs : Array Field} {fuel : Nat} {cs : List Value} {x : DataW H × List MemPlace} (ht : P.underlying t = some (.struct fs)) (hone : oneCellFields P fs = true)
    (h : DataW.trod enc P w base spare held fuel t cs = some x) (hlen : cs.length = fs.size) :
    ∃ m, ∀ (j : Nat) (f : Field), fs[j]? = some f → ∃ v y, cs[j]? = some v ∧ DataW.trod enc P w base spare held m f.type [v] = some y := by
  obtain ⟨ys, m, _, _, _, hyl, hf⟩ := DataW.trod_struct ht h
  refine ⟨m, fun j f hj => ?_⟩
  obtain ⟨ho, hk⟩ := hone_of hone j f hj
  have hjl : j < fs.size := (Array.getElem?_eq_some_iff.1 hj).1
  have h1 := hf j f hj
  rw [ho, hk] at h1
  have hone' : (cs.drop j).take 1 = [cs[j]'(by omega)] := by
    rw [List.drop_eq_getElem_cons (by omega)]
    rfl
  rw [hone'] at h1
  have hys : ys[j]? = some (ys[j]'(by omega)) := List.getElem?_eq_getElem (by omega)
  exact ⟨_, _, List.getElem?_eq_getElem (by omega), h1.trans hys⟩

theorem open_rules {t e : TypeId} {f0 f1 : Field} {fuel : Nat} {A : Option Addr} {n c : Nat} {x : DataW H × List MemPlace} (ht : P.underlying t = some (.slice e)) (he : P.underlying e = some (.struct #[f0, f1])) (hone : oneCellFields P #[f0, f1] = true) (hc : P.cellsOf e = 2)
    (u0 : P.underlying f0.type = some (.int .u32)) (u1 : P.underlying f1.type = some (.int .u32))
    (h : DataW.trod enc P w base spare held fuel t [.slice A n c] = some x) : n ≤ maxLen ∧ ∃ xs, SlR w A n xs := by
  obtain ⟨els, h1, h2, h3, h4⟩ := open_sl ht (by omega) h
  obtain ⟨rs, rfl⟩ := els_of (fun r : Ru => [.int .u32 (W r.1), .int .u32 (W r.2)]) els (by
    intro cs hcs
    obtain ⟨hl, m, y, hy⟩ := h4 cs hcs
    obtain ⟨m', hf⟩ := struct_cells he hone hy (by rw [hl, hc]; rfl)
    obtain ⟨v0, y0, g0, t0⟩ := hf 0 f0 rfl
    obtain ⟨v1, y1, g1, t1⟩ := hf 1 f1 rfl
    obtain ⟨z0, e0, _, w0⟩ := DataW.trod_int u0 t0
    obtain ⟨z1, e1, _, w1⟩ := DataW.trod_int u1 t1
    simp at e0 e1
    subst e0 e1
    obtain ⟨b0, rfl⟩ := bvOf_wf w0
    obtain ⟨b1, rfl⟩ := bvOf_wf w1
    refine ⟨(b0, b1), ?_⟩
    match cs, hl.trans hc with
    | [c0, c1], _ => simp at g0 g1; rw [g0, g1])
  refine ⟨h2, rs, ?_, by simpa using h1⟩
  rw [hc] at h3
  have e : (rs.map fun r : Ru => [Value.int .u32 (W r.1), Value.int .u32 (W r.2)]).flatten = ruCells rs := by
    unfold ruCells
    rw [List.flatMap_def]
  rw [e] at h3
  exact h3
/-- a pair of words by value -/
theorem open_rule {r : Reach} {b0 : Nat} {t : TypeId} {f0 f1 : Field} {v : Value} {d : DataW H} {p : List MemPlace} (hs : P.underlying t = some (.struct #[f0, f1])) (hone : oneCellFields P #[f0, f1] = true) (hC : P.cellsOf t = 2)
    (u0 : P.underlying f0.type = some (.int .u32)) (u1 : P.underlying f1.type = some (.int .u32))
    (hv : Value.okWide P w r b0 t v) (h : DataW.Trod enc P w base spare held t v d p) : ∃ r : Ru, v = .agg #[.int .u32 (W r.1), .int .u32 (W r.2)] ∧ True := by
  obtain ⟨c0, c1, y0, y1, m, rfl, _, _, hy0, hy1⟩ := Go.Joins.open_agg2 hs hone hC hv h
  obtain ⟨z0, e0, _, w0⟩ := DataW.trod_int u0 hy0
  obtain ⟨z1, e1, _, w1⟩ := DataW.trod_int u1 hy1
  simp at e0 e1
  subst e0 e1
  obtain ⟨b0, rfl⟩ := bvOf_wf w0
  obtain ⟨b1, rfl⟩ := bvOf_wf w1
  exact ⟨(b0, b1), rfl, trivial⟩
/-- a number and a word by value -/
theorem open_label {r : Reach} {b0 : Nat} {t : TypeId} {f0 f1 : Field} {v : Value} {d : DataW H} {p : List MemPlace} (hs : P.underlying t = some (.struct #[f0, f1])) (hone : oneCellFields P #[f0, f1] = true) (hC : P.cellsOf t = 2)
    (u0 : P.underlying f0.type = some (.int .i64)) (u1 : P.underlying f1.type = some (.int .u32))
    (hv : Value.okWide P w r b0 t v) (h : DataW.Trod enc P w base spare held t v d p) : ∃ a : Int × BitVec 32, v = .agg #[.int .i64 a.1, .int .u32 (W a.2)] ∧ (Lit.int .i64 a.1).wf = true := by
  obtain ⟨c0, c1, y0, y1, m, rfl, _, _, hy0, hy1⟩ := Go.Joins.open_agg2 hs hone hC hv h
  obtain ⟨z0, e0, _, w0⟩ := DataW.trod_int u0 hy0
  obtain ⟨z1, e1, _, w1⟩ := DataW.trod_int u1 hy1
  simp at e0 e1
  subst e0 e1
  obtain ⟨b1, rfl⟩ := bvOf_wf w1
  exact ⟨(z0, b1), rfl, w0⟩
end
end Go.Proofs.Ytekpifobhgjepaa
