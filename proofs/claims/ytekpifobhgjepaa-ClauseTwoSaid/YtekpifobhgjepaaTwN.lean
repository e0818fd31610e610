/- The walk of needed. -/
import Derived.Test.YtekpifobhgjepaaTwC
import Derived.Test.YtekpifobhgjepaaTwRQ
import Derived.Test.YtekpifobhgjepaaOwnB
import Derived.Test.YtekpifobhgjepaaArr
import Derived.Deep.RegionHeld3
namespace Go.Proofs.Ytekpifobhgjepaa
open Go Go.RowKit
set_option linter.unusedVariables false

def prCells (P : List Pr) : List Value := P.flatMap fun x => [.int .i64 (x.1 : Int), .int .i64 (x.2 : Int)]
theorem prCells_at : ∀ (P : List Pr) (k : Nat) (r : Pr), P[k]? = some r → (prCells P)[k * 2]? = some (.int .i64 (r.1 : Int)) ∧ (prCells P)[k * 2 + 1]? = some (.int .i64 (r.2 : Int)) := by
  intro P
  induction P with
  | nil => intro k r h; simp at h
  | cons a l ih =>
    intro k r h
    cases k with
    | zero => simp at h; subst h; simp [prCells]
    | succ k =>
      have := ih k r (by simpa using h)
      have e : (k + 1) * 2 = k * 2 + 1 + 1 := by omega
      rw [e]
      simpa [prCells] using this
theorem prCells_append (l m : List Pr) : prCells (l ++ m) = prCells l ++ prCells m := by
  unfold prCells
  rw [List.flatMap_append]
theorem prCells_length (P : List Pr) : (prCells P).length = P.length * 2 := by
  induction P with
  | nil => rfl
  | cons a l ih => simp [prCells] at ih ⊢; omega
/-- a slice of pairs of numbers -/
def SlP (w : World) (A : Option Addr) (n : Nat) (P : List Pr) : Prop := Sl w 2 A n (prCells P) ∧ P.length = n
theorem SlP.kept {w w' : World} {A : Option Addr} {n : Nat} {P : List Pr} (h : SlP w A n P) (k : Kept w w') : SlP w' A n P := ⟨h.1.kept k, h.2⟩
theorem SlP.get {w : World} {A : Option Addr} {n : Nat} {P : List Pr} (h : SlP w A n P) (k : Nat) (hk : k < n) : ∃ b off, A = some ⟨b, off, none⟩ ∧ b < w.heap.size ∧
    w.cell? ⟨b, off + k * 2, none⟩ = some (.int .i64 ((pr0 P k).1 : Int)) ∧ w.cell? ⟨b, off + k * 2 + 1, none⟩ = some (.int .i64 ((pr0 P k).2 : Int)) := by
  have hl : k < P.length := by rw [h.2]; exact hk
  obtain ⟨b, off, e, hb, hc⟩ := h.1.2 (by omega)
  obtain ⟨q1, q2⟩ := prCells_at P k (pr0 P k) (by rw [pr0_eq hl]; exact List.getElem?_eq_getElem hl)
  exact ⟨b, off, e, hb, hc _ _ q1, hc _ _ q2⟩
theorem info_pr : (Try.prog.info? 85).map (fun i => (i.zero, i.size, i.bytes)) = some (some (.agg #[.int .i64 0, .int .i64 0]), 2, 16) := by kernel_rfl
theorem info_bools : (Try.prog.info? 4).map (fun i => (i.zero, i.size, i.bytes)) = some (some (.bool false), 1, 1) := by kernel_rfl
theorem info_ints : (Try.prog.info? 3).map (fun i => (i.zero, i.size, i.bytes)) = some (some (.int .i64 0), 1, 8) := by kernel_rfl
def nv (x : Nat) : Value := .int .i64 (x : Int)
theorem nd0_at {nd : List Bool} {k : Nat} (h : k < nd.length) : (nd.map bv)[k]? = some (.bool (nd0 nd k)) := by
  unfold nd0
  rw [List.getElem?_map, List.getD_eq_getElem?_getD, List.getElem?_eq_getElem h]
  rfl
theorem nm0_at {num : List Nat} {k : Nat} (h : k < num.length) : (num.map nv)[k]? = some (.int .i64 ((nm0 num k : Nat) : Int)) := by
  unfold nm0
  rw [List.getElem?_map, List.getD_eq_getElem?_getD, List.getElem?_eq_getElem h]
  rfl
theorem setB_map {nd : List Bool} {k : Nat} (b : Bool) : (nd.map bv).set k (.bool b) = (nd.set k b).map bv := by rw [List.map_set]; rfl
theorem setN_map {num : List Nat} {k : Nat} (x : Nat) : (num.map nv).set k (.int .i64 (x : Int)) = (num.set k x).map nv := by rw [List.map_set]; rfl
theorem Row.setO {w0 w : World} {X B k : Nat} {e : TypeId} {xs : List Value} (h : Row w0 w B e xs) (hne : X ≠ B) (hX : w0.heap.size ≤ X) (u : Value) : Row w0 (w.setCell ⟨X, k, none⟩ u) B e xs := by
  obtain ⟨⟨cur, h1, h2⟩, h3, h4⟩ := h
  exact ⟨⟨cur, by simp [World.setCell, Array.getElem?_modify, hne, h1], h2⟩, h3, h4.setCell (p := ⟨X, k, none⟩) hX u⟩
/-- 'l = append(l, x)' at a step of a region that draws its order, beside rows that are written -/
theorem step_pushB {P : Program} {ops : Array Oper} {o : Oper} {a : Act} {K : Act → World → Prop} {Q : Exit → Act → World → Prop} {F : Prop} {base : Nat} (hgd : o.guard = none) (s x : Operand) (t : TypeId)
    (ho : o.op = .call { callee := .builtin .append, args := #[s, x], argTypes := #[t, t] })
    (e : TypeId) {z : Value} {size bytes : Nat} (ht : P.underlying t = some (.slice e)) (hi : (P.info? e).map (fun i => (i.zero, i.size, i.bytes)) = some (some z, size, bytes))
    (hzs : z.cells.size = size) (hsz : 0 < size) (hb1 : bytes ≤ 1000)
    (W : World) (v : Value) (n : Nat) (xs : List Value) (hown : OwnB base W e size v n xs) (cs : Array Value) (t' : TypeId) (fr : Nat × Nat) (B m c : Nat) (hh : W.heap[B]? = some (.cells cs t' fr))
    (hs : a.eval s = v) (hx : a.eval x = .slice (some ⟨B, 0, none⟩) m c) (hl : cs.size = m * size) (h1 : ∀ u ∈ cs.toList, u.oneCell' = true) (hn : n + m ≤ 1000000)
    (h : ∀ v' w', OwnB base w' e size v' (n + m) (xs ++ cs.toList) → W.grownBy w' v.ownBlock → K (a.put o.dst v') w') :
    if Region.wanted o (yielded ops a.tmps) = true then Oper.wp P o a W K Q else F := by
  have hw : Region.wanted o (yielded ops a.tmps) = true := by simp [Region.wanted, hgd]
  rw [if_pos hw]
  obtain ⟨i, hi0, hz, hsize, hby⟩ := info_parts hi
  have hbytes : (n + m) * bytes ≤ 140737488355328 := by
    calc (n + m) * bytes ≤ 1000000 * 1000 := Nat.mul_le_mul hn hb1
      _ ≤ 140737488355328 := by omega
  refine wp_append_own W s x t ho base e i z size bytes ht hi0 hz hsize hby hzs hsz v n xs hs hown.1 ⟨B, 0, none⟩ m c cs.toList hx (by simpa using hl)
    (World.news_of_block hh) h1 (by unfold maxLen; omega) hbytes hown.2 ?_
  intro v' w' hown' hg _
  exact h v' w' ⟨hown', Nat.le_trans hown.2 hg.size⟩ hg
theorem OwnB.own' {w w' : World} {base : Nat} {E : TypeId} {s n : Nat} {v : Value} {xs : List Value} (h : OwnB base w' E s v n xs) (hb : w.heap.size ≤ base) (k : Kept w w') : Own w w' E s v n xs := by
  refine ⟨⟨h.1.1, ?_⟩, k⟩
  rcases h.1.2 with hn | ⟨g, cap, cur, hv, hg, rest⟩
  · exact .inl hn
  · exact .inr ⟨g, cap, cur, hv, Nat.le_trans hb hg, rest⟩
def RetN (rs : List Ru) (w : World) (e : Ending) (w' : World) : Prop := ∃ A c out, e = .returned (.slice A (List.length out) c) ∧ SlP w' A out.length out ∧ Kept w w' ∧ refB rs out ∧ out.length ≤ 10000
theorem rep_map_bv (n : Nat) : rep n (.bool false) = ((List.replicate n false).map bv).toArray := by
  unfold rep
  rw [List.map_replicate]
  rfl
theorem rep_map_nv (n : Nat) : rep n (.int .i64 0) = ((List.replicate n 0).map nv).toArray := by
  unfold rep
  rw [List.map_replicate]
  rfl
end Go.Proofs.Ytekpifobhgjepaa
