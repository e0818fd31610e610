/- A slice that the call appends to, beside an array that it writes: the slice's blocks lie from a base on, the array below it. -/
import Derived.Test.YtekpifobhgjepaaArr
namespace Go.Proofs.Ytekpifobhgjepaa
open Go Go.RowKit

def OwnB (base : Nat) (w : World) (E : TypeId) (s : Nat) (v : Value) (n : Nat) (xs : List Value) : Prop := w.ownsRow base E s v n xs ∧ base ≤ w.heap.size
section
variable {base : Nat} {w w' : World} {E : TypeId} {s n : Nat} {v : Value} {xs : List Value}
theorem OwnB.start (h : base ≤ w.heap.size) : OwnB base w E s (.slice none 0 0) 0 [] := ⟨⟨by simp, .inl ⟨rfl, rfl⟩⟩, h⟩
theorem OwnB.kept (h : OwnB base w E s v n xs) (hk : Kept w w') : OwnB base w' E s v n xs := by
  refine ⟨⟨h.1.1, ?_⟩, Nat.le_trans h.2 hk.size⟩
  rcases h.1.2 with hn | ⟨g, cap, cur, rfl, hb, hgg, rest⟩
  · exact .inl hn
  · have hlt : g < w.heap.size := (World.ownsRow.lt h.1 g rfl).2
    exact .inr ⟨g, cap, cur, rfl, hb, (hk.block g hlt).trans hgg, rest⟩
theorem OwnB.alloc (h : OwnB base w E s v n xs) (o : Obj) : OwnB base (w.alloc o) E s v n xs := h.kept ((Kept.refl w).alloc o)
theorem OwnB.setCell (h : OwnB base w E s v n xs) {B : Nat} (hB : B < base) (k : Nat) (u : Value) : OwnB base (w.setCell ⟨B, k, none⟩ u) E s v n xs := by
  refine ⟨⟨h.1.1, ?_⟩, by simpa [World.setCell] using h.2⟩
  rcases h.1.2 with hn | ⟨g, cap, cur, rfl, hb, hgg, rest⟩
  · exact .inl hn
  · refine .inr ⟨g, cap, cur, rfl, hb, ?_, rest⟩
    have hne : ¬ B = g := by omega
    simp [World.setCell, Array.getElem?_modify, hgg, hne]
theorem OwnB.form (h : OwnB base w E s v n xs) : ∃ A c, v = .slice A n c ∧ Sl w s A n xs ∧ n ≤ c := by
  rcases h.1.2 with ⟨rfl, hn⟩ | ⟨g, cap, cur, rfl, _⟩
  · subst hn
    have : xs = [] := List.eq_nil_of_length_eq_zero (by simpa using h.1.1)
    subst this
    exact ⟨none, 0, rfl, Sl.nil_ _ _ _, Nat.le_refl _⟩
  · rename_i hr
    exact ⟨_, cap, rfl, Sl.of_own h.1, hr.2.2.1⟩
theorem Row.grownB {w0 : World} {B : Nat} {e : TypeId} {ys : List Value} {row : Option Nat} (h : Row w0 w B e ys) (hg : w.grownBy w' row) (hne : ∀ k, row = some k → B < k) : Row w0 w' B e ys := by
  obtain ⟨⟨cur, h1, h2⟩, h3, h4⟩ := h
  have hlt : B < w.heap.size := Row.lt ⟨⟨cur, h1, h2⟩, h3, h4⟩
  refine ⟨⟨cur, (hg.block B hlt (fun e => ?_)).trans h1, h2⟩, h3, Below.grown h4 hg h4.size fun k hk => ?_⟩
  · have := hne B e.symm; omega
  · have := hne k hk; omega
theorem OwnB.above (h : OwnB base w E s v n xs) {B : Nat} (hB : B < base) : ∀ k, v.ownBlock = some k → B < k := fun k hk => by
  have := (World.ownsRow.lt h.1 k hk).1
  omega
end
section
variable {P : Program}
/-- 'l = append(l, x)': the new element lies in the block that was just made. -/
theorem wpList_pushB {ops : Array Oper} {rest : List Oper} {o : Oper} {a : Act} {Q : Exit → Act → World → Prop} {base : Nat} (hgd : o.guard = none) (s x : Operand) (t : TypeId)
    (ho : o.op = .call { callee := .builtin .append, args := #[s, x], argTypes := #[t, t] })
    (e : TypeId) {z : Value} {size bytes : Nat} (ht : P.underlying t = some (.slice e)) (hi : (P.info? e).map (fun i => (i.zero, i.size, i.bytes)) = some (some z, size, bytes))
    (hzs : z.cells.size = size) (hsz : 0 < size) (hb1 : bytes ≤ 1000)
    (wr : World) (v : Value) (n : Nat) (xs : List Value) (hown : OwnB base wr e size v n xs) (cs : Array Value) (t' : TypeId) (B m c : Nat)
    (hs : a.eval s = v) (hx : a.eval x = .slice (some ⟨B, 0, none⟩) m c) (hB : wr.heap.size = B) (hl : cs.size = m * size) (h1 : ∀ u ∈ cs.toList, u.oneCell' = true) (hn : n + m ≤ 1000000)
    (h : ∀ v' w', OwnB base w' e size v' (n + m) (xs ++ cs.toList) → (wr.alloc (.cells cs t')).grownBy w' v.ownBlock → wpList P ops Q rest (a.put o.dst v') w') : wpList P ops Q (o :: rest) a (wr.alloc (.cells cs t')) := by
  obtain ⟨i, hi0, hz, hsize, hby⟩ := info_parts hi
  subst hB
  refine wpList_append_own _ hgd s x t ho base e i z size bytes ht hi0 hz hsize hby hzs hsz v n xs hs (World.ownsRow.alloc hown.1 _) ⟨wr.heap.size, 0, none⟩ m c cs.toList hx (by simpa using hl) ?_ h1
    (by unfold maxLen; omega) ?_ (Nat.le_trans hown.2 (by simp)) ?_
  · intro j u hu
    have hc := (Sl.new wr cs t' size m hl).2
    have hadd : (⟨wr.heap.size, 0, none⟩ : Addr).add j = ⟨wr.heap.size, j, none⟩ := by
      unfold Addr.add
      split
      · rename_i h0; subst h0; rfl
      · simp
    rw [hadd, cell_of_row _ _ _ cs t' (0, 0) (heap_alloc_new wr _)]
    simpa using hu
  · calc (n + m) * bytes ≤ 1000000 * 1000 := Nat.mul_le_mul hn hb1
      _ ≤ 140737488355328 := by omega
  · intro v' w' hown' hg _
    refine h v' w' ⟨hown', Nat.le_trans hown.2 (Nat.le_trans (by simp) hg.size)⟩ hg
end
end Go.Proofs.Ytekpifobhgjepaa
