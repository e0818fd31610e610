/- Slices of the call's own beside each other, with what is told of where an appended slice lies; a write to one block leaves the others. -/
import Derived.Test.YtekpifobhgjepaaHold
import Derived.Maps.AppendAt
import Derived.Deep.RegionLaw
namespace Go.Proofs.Ytekpifobhgjepaa
open Go Go.RowKit
set_option linter.unusedVariables false

/-- two slices do not lie in one block -/
def Dis (v1 v2 : Value) : Prop := ∀ k, v1.ownBlock = some k → v2.ownBlock ≠ some k
theorem Dis.symm {v1 v2 : Value} (h : Dis v1 v2) : Dis v2 v1 := fun k h1 h2 => h k h2 h1
theorem Dis.or {v1 v2 : Value} (h : Dis v1 v2) : v1.ownBlock = none ∨ v1.ownBlock ≠ v2.ownBlock := by
  rcases hv : v1.ownBlock with _ | k
  · exact .inl rfl
  · exact .inr fun e => h k hv e.symm
theorem Dis.nil (v : Value) : Dis (.slice none 0 0) v := fun k h => by cases h
section
variable {w0 w w' : World} {E : TypeId} {s n : Nat} {v v1 v2 v' : Value} {xs : List Value}
/-- behind an append: the other one lies where it lay, the new one where the old one lay or behind all -/
theorem Dis.moved {K : Nat} (h : Dis v1 v) (ho : Own w0 w E s v1 n xs) (hK : w.heap.size ≤ K) (hat : v'.ownBlock = v.ownBlock ∨ v'.ownBlock = some K) : Dis v1 v' := by
  intro k h1 h2
  rcases hat with e | e
  · rw [e] at h2; exact h k h1 h2
  · rw [e] at h2
    injection h2 with h2
    have := (World.ownsRow.lt ho.1 k h1).2
    omega
theorem Own.grownD (h : Own w0 w E s v n xs) (hg : w.grownBy w' v2.ownBlock) (hd : Dis v v2) (hrow : ∀ k, v2.ownBlock = some k → w0.heap.size ≤ k) : Own w0 w' E s v n xs := h.grown hg hd.or hrow
theorem low_moved {S K : Nat} (h : ∀ k, v.ownBlock = some k → S ≤ k) (hK : S ≤ K) (hat : v'.ownBlock = v.ownBlock ∨ v'.ownBlock = some K) : ∀ k, v'.ownBlock = some k → S ≤ k := by
  intro k hk
  rcases hat with e | e
  · rw [e] at hk; exact h k hk
  · rw [e] at hk; injection hk with hk; omega
/-- below S all is as it was at wa, but block B -/
def But (S B : Nat) (wa w : World) : Prop := (∀ k, k < S → k ≠ B → w.heap[k]? = wa.heap[k]?) ∧ S ≤ w.heap.size
theorem But.start (wa : World) (B : Nat) : But wa.heap.size B wa wa := ⟨fun _ _ _ => rfl, Nat.le_refl _⟩
theorem But.kept {S B : Nat} {wa : World} (h : But S B wa w) (k : Kept w w') : But S B wa w' := ⟨fun i h1 h2 => (k.block i (Nat.lt_of_lt_of_le h1 h.2)).trans (h.1 i h1 h2), Nat.le_trans h.2 k.size⟩
theorem But.grown {S B : Nat} {wa : World} {row : Option Nat} (h : But S B wa w) (hg : w.grownBy w' row) (hrow : ∀ k, row = some k → S ≤ k) : But S B wa w' :=
  ⟨fun i h1 h2 => (hg.block i (Nat.lt_of_lt_of_le h1 h.2) (fun e => by have := hrow i e.symm; omega)).trans (h.1 i h1 h2), Nat.le_trans h.2 hg.size⟩
theorem But.set {S B : Nat} {wa : World} (h : But S B wa w) (i : Nat) (u : Value) : But S B wa (w.setCell ⟨B, i, none⟩ u) :=
  ⟨fun k h1 h2 => by rw [← h.1 k h1 h2]; exact heap_setCell_other w _ k u (fun e => h2 (by simpa using e)), by simpa [World.setCell] using h.2⟩
theorem But.cell {S B : Nat} {wa : World} (h : But S B wa w) {p : Addr} (h1 : p.block < S) (h2 : p.block ≠ B) : w.cell? p = wa.cell? p := by
  unfold World.cell?
  rw [h.1 _ h1 h2]
theorem Own.but {S B : Nat} {wa : World} (h : Own w0 wa E s v n xs) (hb : But S B wa w) (hS : wa.heap.size ≤ S) (hne : ∀ k, v.ownBlock = some k → k ≠ B) (hk : Kept w0 w) : Own w0 w E s v n xs := by
  refine ⟨⟨h.1.1, ?_⟩, hk⟩
  rcases h.1.2 with hn | ⟨g, cap, cur, rfl, hbb, hgg, rest⟩
  · exact .inl hn
  · have hlt : g < wa.heap.size := (World.ownsRow.lt h.1 g rfl).2
    exact .inr ⟨g, cap, cur, rfl, hbb, (hb.1 g (Nat.lt_of_lt_of_le hlt hS) (hne g rfl)).trans hgg, rest⟩
theorem Row.but {S B D : Nat} {e : TypeId} {ys : List Value} {wa : World} (h : Row w0 wa D e ys) (hb : But S B wa w) (hS : wa.heap.size ≤ S) (hne : D ≠ B) (hk : Kept w0 w) : Row w0 w D e ys := by
  have hlt := h.lt
  obtain ⟨⟨cur, h1, h2⟩, h3, h4⟩ := h
  exact ⟨⟨cur, (hb.1 D (Nat.lt_of_lt_of_le hlt hS) hne).trans h1, h2⟩, h3, hk⟩
end
section
variable {P : Program}
/-- 'l = append(l, x)', and where it lies then -/
theorem wpList_pushAt {ops : Array Oper} {rest : List Oper} {o : Oper} {a : Act} {Q : Exit → Act → World → Prop} {w0 : World} (hgd : o.guard = none) (s x : Operand) (t : TypeId)
    (ho : o.op = .call { callee := .builtin .append, args := #[s, x], argTypes := #[t, t] })
    (e : TypeId) {z : Value} {size bytes : Nat} (ht : P.underlying t = some (.slice e)) (hi : (P.info? e).map (fun i => (i.zero, i.size, i.bytes)) = some (some z, size, bytes))
    (hzs : z.cells.size = size) (hsz : 0 < size) (hb1 : bytes ≤ 1000)
    (wr : World) (v : Value) (n : Nat) (xs : List Value) (hown : Own w0 wr e size v n xs) (cs : Array Value) (t' : TypeId) (B m c : Nat)
    (hs : a.eval s = v) (hx : a.eval x = .slice (some ⟨B, 0, none⟩) m c) (hB : wr.heap.size = B) (hl : cs.size = m * size) (h1 : ∀ u ∈ cs.toList, u.oneCell' = true) (hn : n + m ≤ 1000000)
    (h : ∀ v' w', Own w0 w' e size v' (n + m) (xs ++ cs.toList) → (wr.alloc (.cells cs t')).grownBy w' v.ownBlock → (v'.ownBlock = v.ownBlock ∨ v'.ownBlock = some (wr.heap.size + 1)) → wpList P ops Q rest (a.put o.dst v') w') : wpList P ops Q (o :: rest) a (wr.alloc (.cells cs t')) := by
  obtain ⟨i, hi0, hz, hsize, hby⟩ := info_parts hi
  subst hB
  refine wpList_append_own_at _ hgd s x t ho w0.heap.size e i z size bytes ht hi0 hz hsize hby hzs hsz v n xs hs (World.ownsRow.alloc hown.1 _) ⟨wr.heap.size, 0, none⟩ m c cs.toList hx (by simpa using hl) ?_ h1
    (by unfold maxLen; omega) ?_ (Nat.le_trans hown.2.size (by simp)) ?_
  · intro j u hu
    have hc := (Sl.new wr cs t' size m hl).2
    have hadd : (⟨wr.heap.size, 0, none⟩ : Addr).add j = ⟨wr.heap.size, j, none⟩ := by
      unfold Addr.add
      split
      · rename_i h0; subst h0; rfl
      · simp
    rw [hadd, cell_of_row _ _ _ cs t' (0, 0) (heap_alloc_new wr _)]
    simpa using hu
  · calc (n + m) * bytes ≤ 1000000 * 1000 := Nat.mul_le_mul hn hb1
      _ ≤ 140737488355328 := by omega
  · intro v' w' hown' hg _ hat
    refine h v' w' ⟨hown', Below.grown (hown.2.alloc _) hg (Nat.le_trans hown.2.size (by simp)) fun k hk => (World.ownsRow.lt hown.1 k hk).1⟩ hg ?_
    simpa using hat
/-- the same at a step of a region that draws its order -/
theorem step_pushAt {ops : Array Oper} {o : Oper} {a : Act} {K : Act → World → Prop} {Q : Exit → Act → World → Prop} {F : Prop} {w0 : World} (hgd : o.guard = none) (s x : Operand) (t : TypeId)
    (ho : o.op = .call { callee := .builtin .append, args := #[s, x], argTypes := #[t, t] }) (v : Value) (hs : a.eval s = v) (B m c : Nat) (hx : a.eval x = .slice (some ⟨B, 0, none⟩) m c)
    (e : TypeId) {z : Value} {size bytes : Nat} (ht : P.underlying t = some (.slice e)) (hi : (P.info? e).map (fun i => (i.zero, i.size, i.bytes)) = some (some z, size, bytes))
    (hzs : z.cells.size = size) (hsz : 0 < size) (hb1 : bytes ≤ 1000)
    (W : World) (n : Nat) (xs : List Value) (hown : Own w0 W e size v n xs) (cs : Array Value) (hsl : Sl W size (some ⟨B, 0, none⟩) m cs.toList)
    (h1 : ∀ u ∈ cs.toList, u.oneCell' = true) (hm : 0 < m) (hn : n + m ≤ 1000000)
    (h : ∀ v' w', Own w0 w' e size v' (n + m) (xs ++ cs.toList) → W.grownBy w' v.ownBlock → (v'.ownBlock = v.ownBlock ∨ v'.ownBlock = some W.heap.size) → K (a.put o.dst v') w') :
    if Region.wanted o (yielded ops a.tmps) = true then Oper.wp P o a W K Q else F := by
  have hw : Region.wanted o (yielded ops a.tmps) = true := by simp [Region.wanted, hgd]
  rw [if_pos hw]
  obtain ⟨i, hi0, hz, hsize, hby⟩ := info_parts hi
  have hbytes : (n + m) * bytes ≤ 140737488355328 := by
    calc (n + m) * bytes ≤ 1000000 * 1000 := Nat.mul_le_mul hn hb1
      _ ≤ 140737488355328 := by omega
  obtain ⟨b, off, e2, hb, hc⟩ := hsl.2 (by omega)
  injection e2 with e2
  injection e2 with ea eb
  subst ea eb
  obtain ⟨v', w', hr, h2, h3, h4, h5⟩ := run_append_own_at (P := P) W w0.heap.size t o.type e i z size bytes ht hi0 hz hsize hby hzs hsz v n xs hown.1 ⟨B, 0, none⟩ m c cs.toList hsl.1 (by
    intro j u hu
    have := hc j u hu
    unfold Addr.add
    split
    · rename_i h0; subst h0; simpa using this
    · simpa using this) h1 (by unfold maxLen; omega) hbytes hown.2.size
  unfold Oper.wp execOp
  simp only [ho, resolve, invoke, builtin, Sem.run_bind, Sem.run_pure, Result.andThen_ok, List.map_toArray, List.map_cons, List.map_nil, hs, hx, hr]
  exact h v' w' ⟨h2, Below.grown hown.2 h3 hown.2.size fun k hk => (World.ownsRow.lt hown.1 k hk).1⟩ h3 h5
end
end Go.Proofs.Ytekpifobhgjepaa
