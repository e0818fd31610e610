/- Machines: a struct of three numbers, a slice of slices of slices of numbers, and a slice of slices of numbers, read as lists. -/
import Derived.Test.YtjcooagchjjknaaMat
import Derived.Test.YtjcooagchjjknaaViewP
namespace Go.Proofs.Ytjcooagchjjknaa
open Go Go.RowKit Go.ChangeShapes Go.WideShapes Go.ChangeAt Go.Deep
set_option linter.unusedVariables false

/-- a row of rows: its place, its length, its room, its rows -/
abbrev Rw2 := Option Addr × Nat × Nat × List Rv
def r2v (r : Rw2) : Value := .slice r.1 r.2.1 r.2.2.1
def R2Ok (w : World) (r : Rw2) : Prop := SlM w r.1 r.2.1 r.2.2.2 ∧ r.2.1 ≤ maxLen
def SlMM (w : World) (A : Option Addr) (n : Nat) (rs : List Rw2) : Prop := Sl w 1 A n (rs.map r2v) ∧ rs.length = n ∧ ∀ r ∈ rs, R2Ok w r
section
variable {w w' : World} {A : Option Addr} {n : Nat}
theorem R2Ok.kept {r} (h : R2Ok w r) (k : Kept w w') : R2Ok w' r := ⟨h.1.kept k, h.2⟩
theorem SlMM.kept {rs} (h : SlMM w A n rs) (k : Kept w w') : SlMM w' A n rs := ⟨h.1.kept k, h.2.1, fun r hr => (h.2.2 r hr).kept k⟩
theorem SlMM.get {rs} (h : SlMM w A n rs) (k : Nat) (hk : k < n) : ∃ b off, ∃ hb : k < rs.length, A = some ⟨b, off, none⟩ ∧ b < w.heap.size ∧
    w.cell? ⟨b, off + k, none⟩ = some (.slice rs[k].1 rs[k].2.1 rs[k].2.2.1) ∧ R2Ok w rs[k] := by
  have hl : k < rs.length := by rw [h.2.1]; exact hk
  obtain ⟨b, off, e, hb, hc⟩ := h.1.2 (by omega)
  exact ⟨b, off, hl, e, hb, hc k _ (by rw [List.getElem?_map, List.getElem?_eq_getElem hl]; rfl), h.2.2 _ (List.getElem_mem hl)⟩
end
section
variable {H : Type} {enc : TypeId × Value → H} {P : Program} {w : World} {base : Nat} {spare : Nat → Bool} {held : Bool}
theorem open_mat3 {t e i j : TypeId} {fuel : Nat} {A : Option Addr} {n c : Nat} {x : DataW H × List MemPlace} (ht : P.underlying t = some (.slice e)) (he : P.underlying e = some (.slice i)) (hc : P.cellsOf e = 1)
    (hi : P.underlying i = some (.slice j)) (hci : P.cellsOf i = 1) (hj : P.underlying j = some (.int .i64)) (h1 : P.cellsOf j = 1) (h : DataW.trod enc P w base spare held fuel t [.slice A n c] = some x) : n ≤ maxLen ∧ ∃ rs, SlMM w A n rs := by
  obtain ⟨els, g1, g2, g3, g4⟩ := open_sl ht (by omega) h
  obtain ⟨rs, rfl⟩ := els_of (fun r : { r : Rw2 // R2Ok w r } => [r2v r.1]) els (by
    intro cs hcs
    obtain ⟨hl, m, y, hy⟩ := g4 cs hcs
    have hcs2 : ∃ a len cap, cs = [.slice a len cap] := by
      rcases open_slice he hy with ⟨h0, _⟩ | ⟨a, len, cap, _, _, _, _, h0, _⟩
      · exact ⟨none, 0, 0, h0⟩
      · exact ⟨some a, len, cap, h0⟩
    obtain ⟨a, len, cap, rfl⟩ := hcs2
    obtain ⟨q1, zs, q2⟩ := open_mat he hi hci hj h1 hy
    exact ⟨⟨(a, len, cap, zs), q2, q1⟩, rfl⟩)
  refine ⟨g2, rs.map (·.1), ?_, by simpa using g1, ?_⟩
  · rw [hc] at g3
    have e : (rs.map fun r => [r2v r.1]).flatten = (rs.map (·.1)).map r2v := by
      rw [List.map_map]
      exact flatten_single (fun r : { r : Rw2 // R2Ok w r } => r2v r.1) rs
    rw [e] at g3
    exact g3
  · intro r hr
    obtain ⟨q, _, rfl⟩ := List.mem_map.1 hr
    exact q.2
theorem sliceV_is {t e : TypeId} {fuel : Nat} {v : Value} {x : DataW H × List MemPlace} (ht : P.underlying t = some (.slice e)) (h : DataW.trod enc P w base spare held fuel t [v] = some x) : ∃ A n c, v = .slice A n c := by
  rcases open_slice ht h with ⟨h0, _⟩ | ⟨a, len, cap, m, k, D, Pl, hcs, hb, hl, _⟩
  · simp at h0
    exact ⟨_, _, _, h0⟩
  · simp at hcs
    exact ⟨_, _, _, hcs⟩
end
/-- a machine as it is read -/
structure Mc where
  n : Int
  us : Int
  as : Int
  next : Option Addr × Nat × Nat × List Rw2
  sees : Rw2
def mcA (m : Mc) : Array Value := #[.int .i64 m.n, .int .i64 m.us, .int .i64 m.as, .slice m.next.1 m.next.2.1 m.next.2.2.1, .slice m.sees.1 m.sees.2.1 m.sees.2.2.1]
def McOk (w : World) (m : Mc) : Prop := SlMM w m.next.1 m.next.2.1 m.next.2.2.2 ∧ m.next.2.1 ≤ maxLen ∧ SlM w m.sees.1 m.sees.2.1 m.sees.2.2.2 ∧ m.sees.2.1 ≤ maxLen
theorem McOk.kept {w w' : World} {m : Mc} (h : McOk w m) (k : Kept w w') : McOk w' m := ⟨h.1.kept k, h.2.1, h.2.2.1.kept k, h.2.2.2⟩
section
variable {H : Type} {enc : TypeId × Value → H} {P : Program} {w : World} {base : Nat} {spare : Nat → Bool} {held : Bool}
theorem open_machine {r : Reach} {b0 : Nat} {t ei ej ek : TypeId} {f0 f1 f2 f3 f4 : Field} {v : Value} {d : DataW H} {p : List MemPlace} (hs : P.underlying t = some (.struct #[f0, f1, f2, f3, f4])) (hone : oneCellFields P #[f0, f1, f2, f3, f4] = true) (hC : P.cellsOf t = 5)
    (u0 : P.underlying f0.type = some (.int .i64)) (u1 : P.underlying f1.type = some (.int .i64)) (u2 : P.underlying f2.type = some (.int .i64)) (u3 : P.underlying f3.type = some (.slice ei)) (u4 : P.underlying f4.type = some (.slice ej)) (vi : P.underlying ei = some (.slice ej)) (vj : P.underlying ej = some (.slice ek)) (vk : P.underlying ek = some (.int .i64)) (ci : P.cellsOf ei = 1) (cj : P.cellsOf ej = 1) (ck : P.cellsOf ek = 1)
    (hv : Value.okWide P w r b0 t v) (h : DataW.Trod enc P w base spare held t v d p) :
    ∃ m : Mc, v = .agg (mcA m) ∧ McOk w m := by
  obtain ⟨cs, rfl, hsz⟩ := okWide_struct hs hv
  rw [hC] at hsz
  obtain ⟨l⟩ := cs
  match l, hsz with
  | [c0, c1, c2, c3, c4], _ =>
    obtain ⟨fuel, hf0⟩ := h
    obtain ⟨m', hf⟩ := struct_cells hs hone hf0 rfl
    obtain ⟨a0, y0, r0, t0⟩ := hf 0 f0 rfl
    obtain ⟨a1, y1, r1, t1⟩ := hf 1 f1 rfl
    obtain ⟨a2, y2, r2, t2⟩ := hf 2 f2 rfl
    obtain ⟨a3, y3, r3, t3⟩ := hf 3 f3 rfl
    obtain ⟨a4, y4, r4, t4⟩ := hf 4 f4 rfl
    obtain ⟨z0, s0, _, _⟩ := DataW.trod_int u0 t0
    obtain ⟨z1, s1, _, _⟩ := DataW.trod_int u1 t1
    obtain ⟨z2, s2, _, _⟩ := DataW.trod_int u2 t2
    obtain ⟨A3, n3, q3, rfl⟩ := sliceV_is u3 t3
    obtain ⟨A4, n4, q4, rfl⟩ := sliceV_is u4 t4
    obtain ⟨h3, rs, h4⟩ := open_mat3 u3 vi ci vj cj vk ck t3
    obtain ⟨h5, ss, h6⟩ := open_mat u4 vj cj vk ck t4
    simp [Value.cells] at s0 s1 s2 r0 r1 r2 r3 r4
    subst s0 s1 s2
    exact ⟨⟨z0, z1, z2, (A3, n3, q3, rs), (A4, n4, q4, ss)⟩, by unfold mcA; rw [r0, r1, r2, r3, r4], h4, h3, h6, h5⟩
end
/-! ### what a machine must be -/
def rowAt (m : Mc) (s : Nat) : Rw2 := m.next.2.2.2.getD s (none, 0, 0, [])
def seeAt (m : Mc) (s : Nat) : Rv := m.sees.2.2.2.getD s (none, 0, 0, [])
def actsB (m : Mc) (r : Rv) : Bool := (r.2.1 : Int) == m.as
def stB (m : Mc) (s : Nat) : Bool := (((rowAt m s).2.1 : Int) == m.us && ((seeAt m s).2.1 : Int) == m.us) && (rowAt m s).2.2.2.all (actsB m)
def shapedB (m : Mc) : Bool := ((m.next.2.1 : Int) == m.n && (m.sees.2.1 : Int) == m.n) && (List.range m.n.toNat).all (stB m)
def goesB (m : Mc) (t : Int) : Bool := decide (0 ≤ t) && decide (t < m.n)
def allTo (m : Mc) : List Int := (m.next.2.2.2.flatMap fun x => x.2.2.2).flatMap fun r => r.2.2.2
def bigB (m : Mc) : Bool := decide (m.n < 1 ∨ 6 < m.n ∨ m.us < 1 ∨ 3 < m.us ∨ m.as < 1 ∨ 2 < m.as)
def viewF (m : Mc) : Int := if bigB m = true then 1 else if shapedB m = false then 3 else if (allTo m).all (goesB m) = false then 2 else 0
/-- where an act leads; what is seen -/
def nxF (m : Mc) : Nx := fun s u a => (iat ((rowAt m s).2.2.2.getD u (none, 0, 0, [])).2.2.2 a).toNat
def seF (m : Mc) : Nat → Nat → Int := fun s u => iat (seeAt m s).2.2.2 u
/-- a machine in memory whose places are known -/
structure MachG (w : World) (m : Mc) (N U A : Nat) : Prop where
  n : m.n = N
  us : m.us = U
  as : m.as = A
  n1 : 1 ≤ N ∧ N ≤ 6
  u1 : 1 ≤ U ∧ U ≤ 3
  a1 : 1 ≤ A ∧ A ≤ 2
  ln : m.next.2.1 = N
  ls : m.sees.2.1 = N
  lt : ∀ s u a, s < N → u < U → a < A → nxF m s u a < N
  next : ∃ b o, m.next.1 = some ⟨b, o, none⟩ ∧ b < w.heap.size ∧ ∀ s, s < N → ∃ b1 o1 c1, b1 < w.heap.size ∧ w.cell? ⟨b, o + s, none⟩ = some (.slice (some ⟨b1, o1, none⟩) U c1) ∧ ∀ u, u < U → ∃ b2 o2 c2, b2 < w.heap.size ∧ w.cell? ⟨b1, o1 + u, none⟩ = some (.slice (some ⟨b2, o2, none⟩) A c2) ∧ ∀ a, a < A → w.cell? ⟨b2, o2 + a, none⟩ = some (.int .i64 (nxF m s u a))
  sees : ∃ b o, m.sees.1 = some ⟨b, o, none⟩ ∧ b < w.heap.size ∧ ∀ s, s < N → ∃ b1 o1 c1, b1 < w.heap.size ∧ w.cell? ⟨b, o + s, none⟩ = some (.slice (some ⟨b1, o1, none⟩) U c1) ∧ ∀ u, u < U → w.cell? ⟨b1, o1 + u, none⟩ = some (.int .i64 (seF m s u))
theorem MachG.kept {w w' : World} {m : Mc} {N U A : Nat} (h : MachG w m N U A) (k : Kept w w') : MachG w' m N U A := by
  refine ⟨h.n, h.us, h.as, h.n1, h.u1, h.a1, h.ln, h.ls, h.lt, ?_, ?_⟩
  · obtain ⟨b, o, e, hb, hc⟩ := h.next
    refine ⟨b, o, e, Nat.lt_of_lt_of_le hb k.size, fun s hs => ?_⟩
    obtain ⟨b1, o1, c1, h1, h2, h3⟩ := hc s hs
    refine ⟨b1, o1, c1, Nat.lt_of_lt_of_le h1 k.size, (k.cell (p := ⟨b, o + s, none⟩) hb).trans h2, fun u hu => ?_⟩
    obtain ⟨b2, o2, c2, h4, h5, h6⟩ := h3 u hu
    exact ⟨b2, o2, c2, Nat.lt_of_lt_of_le h4 k.size, (k.cell (p := ⟨b1, o1 + u, none⟩) h1).trans h5, fun a ha => (k.cell (p := ⟨b2, o2 + a, none⟩) h4).trans (h6 a ha)⟩
  · obtain ⟨b, o, e, hb, hc⟩ := h.sees
    refine ⟨b, o, e, Nat.lt_of_lt_of_le hb k.size, fun s hs => ?_⟩
    obtain ⟨b1, o1, c1, h1, h2, h3⟩ := hc s hs
    exact ⟨b1, o1, c1, Nat.lt_of_lt_of_le h1 k.size, (k.cell (p := ⟨b, o + s, none⟩) hb).trans h2, fun u hu => (k.cell (p := ⟨b1, o1 + u, none⟩) h1).trans (h3 u hu)⟩
theorem viewF_zero {m : Mc} (h : viewF m = 0) : bigB m = false ∧ shapedB m = true ∧ (allTo m).all (goesB m) = true := by
  unfold viewF at h
  split at h
  · omega
  · split at h
    · omega
    · split at h
      · omega
      · rename_i h1 h2 h3
        exact ⟨by simpa using h1, by simpa using h2, by simpa using h3⟩
theorem McOk.good {w : World} {m : Mc} (h : McOk w m) (h0 : viewF m = 0) : ∃ N U A, MachG w m N U A := by
  obtain ⟨hb, hsh, hto⟩ := viewF_zero h0
  unfold bigB at hb
  rw [decide_eq_false_iff_not] at hb
  obtain ⟨N, hN⟩ := Int.eq_ofNat_of_zero_le (show 0 ≤ m.n by omega)
  obtain ⟨U, hU⟩ := Int.eq_ofNat_of_zero_le (show 0 ≤ m.us by omega)
  obtain ⟨A, hA⟩ := Int.eq_ofNat_of_zero_le (show 0 ≤ m.as by omega)
  unfold shapedB at hsh
  rw [Bool.and_eq_true, Bool.and_eq_true, beq_iff_eq, beq_iff_eq, List.all_eq_true] at hsh
  obtain ⟨⟨e1, e2⟩, hst⟩ := hsh
  have ln : m.next.2.1 = N := by omega
  have ls : m.sees.2.1 = N := by omega
  obtain ⟨hmm, _, hsm, _⟩ := h
  rw [ln] at hmm
  rw [ls] at hsm
  have st : ∀ s, s < N → (rowAt m s).2.1 = U ∧ (seeAt m s).2.1 = U ∧ ∀ r ∈ (rowAt m s).2.2.2, r.2.1 = A := by
    intro s hs
    have := hst s (List.mem_range.2 (by omega))
    unfold stB at this
    rw [Bool.and_eq_true, Bool.and_eq_true, beq_iff_eq, beq_iff_eq, List.all_eq_true] at this
    refine ⟨by omega, by omega, fun r hr => ?_⟩
    have := this.2 r hr
    unfold actsB at this
    rw [beq_iff_eq] at this
    omega
  have row : ∀ s (hs : s < N), rowAt m s ∈ m.next.2.2.2 ∧ ∃ b o, m.next.1 = some ⟨b, o, none⟩ ∧ b < w.heap.size ∧ w.cell? ⟨b, o + s, none⟩ = some (r2v (rowAt m s)) ∧ R2Ok w (rowAt m s) := by
    intro s hs
    obtain ⟨b, o, hl, e, hb, hc, hr⟩ := hmm.get s hs
    have er : rowAt m s = m.next.2.2.2[s] := by
      unfold rowAt
      rw [List.getD_eq_getElem?_getD, List.getElem?_eq_getElem hl]
      rfl
    rw [er]
    exact ⟨List.getElem_mem hl, b, o, e, hb, hc, hr⟩
  have see : ∀ s (hs : s < N), ∃ b o, m.sees.1 = some ⟨b, o, none⟩ ∧ b < w.heap.size ∧ w.cell? ⟨b, o + s, none⟩ = some (rwv (seeAt m s)) ∧ RowOk w (seeAt m s) := by
    intro s hs
    obtain ⟨b, o, hl, e, hb, hc, hr⟩ := hsm.get s hs
    have er : seeAt m s = m.sees.2.2.2[s] := by
      unfold seeAt
      rw [List.getD_eq_getElem?_getD, List.getElem?_eq_getElem hl]
      rfl
    rw [er]
    exact ⟨b, o, e, hb, hc, hr⟩
  have cel : ∀ s u (hs : s < N) (hu : u < U), ∃ b1 o1, (rowAt m s).1 = some ⟨b1, o1, none⟩ ∧ b1 < w.heap.size ∧ ∃ b2 o2 c2, b2 < w.heap.size ∧ w.cell? ⟨b1, o1 + u, none⟩ = some (.slice (some ⟨b2, o2, none⟩) A c2) ∧ ∀ a, a < A → w.cell? ⟨b2, o2 + a, none⟩ = some (.int .i64 (nxF m s u a)) ∧ nxF m s u a < N := by
    intro s u hs hu
    obtain ⟨hmem, b, o, e, hb, hc, hr⟩ := row s hs
    obtain ⟨q1, q2, q3⟩ := st s hs
    have hr1 := hr.1
    rw [q1] at hr1
    obtain ⟨b1, o1, hl1, e1, hb1, hc1, hok⟩ := hr1.get u hu
    have hA2 := q3 _ (List.getElem_mem hl1)
    have hok1 := hok.1
    rw [hA2] at hok1
    refine ⟨b1, o1, e1, hb1, ?_⟩
    obtain ⟨b2, o2, e2, hb2, hc2⟩ := hok1.open_ (by omega)
    refine ⟨b2, o2, (rowAt m s).2.2.2[u].2.2.1, hb2, by rw [hc1, e2, hA2], fun a ha => ?_⟩
    have en : iat ((rowAt m s).2.2.2.getD u (none, 0, 0, [])).2.2.2 a = iat (rowAt m s).2.2.2[u].2.2.2 a := by
      rw [List.getD_eq_getElem?_getD, List.getElem?_eq_getElem hl1]
      rfl
    have hal : a < (rowAt m s).2.2.2[u].2.2.2.length := by rw [hok1.2]; exact ha
    have hin : iat (rowAt m s).2.2.2[u].2.2.2 a ∈ allTo m := by
      unfold allTo
      rw [iat_eq _ _ hal]
      exact List.mem_flatMap.2 ⟨_, List.mem_flatMap.2 ⟨_, hmem, List.getElem_mem hl1⟩, List.getElem_mem hal⟩
    have hg := List.all_eq_true.1 hto _ hin
    unfold goesB at hg
    rw [Bool.and_eq_true, decide_eq_true_eq, decide_eq_true_eq] at hg
    have hnx : (nxF m s u a : Int) = iat (rowAt m s).2.2.2[u].2.2.2 a := by
      unfold nxF
      rw [en]
      omega
    rw [hnx]
    exact ⟨hc2 a ha, by omega⟩
  refine ⟨N, U, A, hN, hU, hA, by omega, by omega, by omega, ln, ls, fun s u a hs hu ha => ?_, ?_, ?_⟩
  · obtain ⟨_, _, _, _, _, _, _, _, _, hq⟩ := cel s u hs hu
    exact (hq a ha).2
  · obtain ⟨_, b, o, e, hb, _, _⟩ := row 0 (by omega)
    refine ⟨b, o, e, hb, fun s hs => ?_⟩
    obtain ⟨_, b', o', e', _, hc, _⟩ := row s hs
    rw [e] at e'
    injection e' with e'
    injection e' with ea eb
    subst ea eb
    obtain ⟨b1, o1, f1, hb1, _⟩ := cel s 0 hs (by omega)
    refine ⟨b1, o1, (rowAt m s).2.2.1, hb1, ?_, fun u hu => ?_⟩
    · rw [hc]
      unfold r2v
      rw [f1, (st s hs).1]
    · obtain ⟨b1', o1', f1', _, b2, o2, c2, h4, h5, h6⟩ := cel s u hs hu
      rw [f1] at f1'
      injection f1' with f1'
      injection f1' with ea eb
      subst ea eb
      exact ⟨b2, o2, c2, h4, h5, fun a ha => (h6 a ha).1⟩
  · obtain ⟨b, o, e, hb, _, _⟩ := see 0 (by omega)
    refine ⟨b, o, e, hb, fun s hs => ?_⟩
    obtain ⟨b', o', e', _, hc, hr⟩ := see s hs
    rw [e] at e'
    injection e' with e'
    injection e' with ea eb
    subst ea eb
    have hr1 := hr.1
    rw [(st s hs).2.1] at hr1
    obtain ⟨b1, o1, f1, hb1, hcs⟩ := hr1.open_ (by omega)
    refine ⟨b1, o1, (seeAt m s).2.2.1, hb1, ?_, fun u hu => hcs u hu⟩
    rw [hc]
    unfold rwv
    rw [f1, (st s hs).2.1]
end Go.Proofs.Ytjcooagchjjknaa
