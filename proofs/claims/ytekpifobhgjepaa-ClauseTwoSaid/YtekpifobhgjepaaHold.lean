/- Structs and slices of the call's own beside each other: what a write to one block leaves of the others. Over any program. -/
import Derived.Test.YtekpifobhgjepaaArr
namespace Go.Proofs.Ytekpifobhgjepaa
open Go Go.RowKit

section
variable {w0 w w' : World} {B : Nat} {e : TypeId} {xs : List Value} {row : Option Nat}
theorem Kept.grown (h : Kept w0 w) (hg : w.grownBy w' row) (hrow : ∀ k, row = some k → w0.heap.size ≤ k) : Kept w0 w' := Below.grown h hg h.size hrow
theorem Row.grown (h : Row w0 w B e xs) (hg : w.grownBy w' row) (hne : some B ≠ row) (hrow : ∀ k, row = some k → w0.heap.size ≤ k) : Row w0 w' B e xs := by
  obtain ⟨cur, h1, h2⟩ := h.1
  exact ⟨⟨cur, (hg.block B h.lt hne).trans h1, h2⟩, h.2.1, h.2.2.grown hg hrow⟩
theorem grown_set (w : World) (a : Addr) (u : Value) : w.grownBy (w.setCell a u) (some a.block) :=
  ⟨rfl, rfl, rfl, by simp, fun k _ hk => heap_setCell_other w a k u (fun e => hk (by simp [e]))⟩
theorem Row.other (h : Row w0 w B e xs) {p : Addr} (u : Value) (hne : B ≠ p.block) (hp : w0.heap.size ≤ p.block) : Row w0 (w.setCell p u) B e xs :=
  h.grown (grown_set w p u) (fun h => hne (by injection h)) (fun k hk => by injection hk with hk; omega)
variable {E : TypeId} {s n : Nat} {v : Value} {ys : List Value}
theorem Own.grown (h : Own w0 w E s v n ys) (hg : w.grownBy w' row) (hne : v.ownBlock = none ∨ v.ownBlock ≠ row) (hrow : ∀ k, row = some k → w0.heap.size ≤ k) : Own w0 w' E s v n ys := by
  refine ⟨⟨h.1.1, ?_⟩, h.2.grown hg hrow⟩
  rcases h.1.2 with hn | ⟨g, cap, cur, rfl, hb, hgg, rest⟩
  · exact .inl hn
  · have hlt : g < w.heap.size := (World.ownsRow.lt h.1 g rfl).2
    refine .inr ⟨g, cap, cur, rfl, hb, (hg.block g hlt fun e => ?_).trans hgg, rest⟩
    rcases hne with hne | hne
    · cases hne
    · exact hne e
theorem Own.since (h : Own w0 w E s v n ys) : ∀ k, v.ownBlock = some k → w0.heap.size ≤ k := fun k hk => (World.ownsRow.lt h.1 k hk).1
/-- blocks of two types are two blocks -/
theorem Own.far (h : Own w0 w E s v n ys) (k : Row w0 w B e xs) (hne : E ≠ e) : some B ≠ v.ownBlock := by
  intro he
  rcases h.1.2 with ⟨rfl, _⟩ | ⟨g, cap, cur, rfl, _, hg, _⟩
  · cases he
  · injection he with he
    obtain ⟨cur2, h1, _⟩ := k.1
    have he : B = g := he
    rw [he, hg] at h1
    injection h1 with h1
    injection h1 with _ h1
    exact hne h1
theorem Own.far2 {E2 : TypeId} {s2 n2 : Nat} {v2 : Value} {ys2 : List Value} (h : Own w0 w E s v n ys) (k : Own w0 w E2 s2 v2 n2 ys2) (hne : E ≠ E2) : v.ownBlock = none ∨ v.ownBlock ≠ v2.ownBlock := by
  rcases h.1.2 with ⟨rfl, _⟩ | ⟨g, cap, cur, rfl, _, hg, _⟩
  · exact .inl rfl
  · refine .inr fun he => ?_
    rcases k.1.2 with ⟨rfl, _⟩ | ⟨g2, cap2, cur2, rfl, _, hg2, _⟩
    · cases he
    · injection he with he
      have he : g = g2 := he
      rw [he, hg2] at hg
      injection hg with hg
      injection hg with _ h1
      exact hne h1.symm
theorem Own.setRow (h : Own w0 w E s v n ys) (k : Row w0 w B e xs) (hne : E ≠ e) (i : Nat) (u : Value) : Own w0 (w.setCell ⟨B, i, none⟩ u) E s v n ys :=
  h.grown (grown_set w _ u) (.inr fun he => h.far k hne he.symm) (fun k' hk => by injection hk with hk; subst hk; exact k.2.1)
/-- a struct's cell that a store hits -/
theorem Row.at0 {u : Value} (h : Row w0 w B e xs) (k : Nat) (hu : xs[k]? = some u) : w.cell? ⟨B, k, none⟩ = some u ∧ w.frozen? ⟨B, k, none⟩ = false := ⟨h.cell k hu, h.free k⟩
/-- a store into the call's own array, at its own place -/
theorem Own.put {g c : Nat} (h : Own w0 w E s (.slice (some ⟨g, 0, none⟩) n c) n ys) (j : Nat) (u : Value) : Own w0 (w.setCell ⟨g, j, none⟩ u) E s (.slice (some ⟨g, 0, none⟩) n c) n (ys.set j u) :=
  ⟨(World.ownsRow.stored h.1 j u).1, h.2.setCell (p := ⟨g, j, none⟩) (h.since g rfl) u⟩
theorem Own.block {A : Option Addr} {c : Nat} (h : Own w0 w E s (.slice A n c) n ys) (hn : 0 < n) : ∃ g, A = some ⟨g, 0, none⟩ ∧ w0.heap.size ≤ g ∧ g < w.heap.size := by
  rcases h.1.2 with ⟨_, h0⟩ | ⟨g, cap, cur, hv, hb, hg, _⟩
  · omega
  · injection hv with hA
    exact ⟨g, hA, hb, by
      rcases Nat.lt_or_ge g w.heap.size with hlt | hge
      · exact hlt
      · rw [Array.getElem?_eq_none hge] at hg; cases hg⟩
theorem Own.free {g c : Nat} (h : Own w0 w E s (.slice (some ⟨g, 0, none⟩) n c) n ys) (j : Nat) : w.frozen? ⟨g, j, none⟩ = false := World.ownsRow.frozenAt h.1 j
theorem Own.cell {g c : Nat} (h : Own w0 w E s (.slice (some ⟨g, 0, none⟩) n c) n ys) (j : Nat) {u : Value} (hu : ys[j]? = some u) : w.cell? ⟨g, j, none⟩ = some u := by
  have hj : j < n * s := by
    have := h.1.1
    rcases Nat.lt_or_ge j ys.length with hlt | hge
    · omega
    · rw [List.getElem?_eq_none hge] at hu; cases hu
  rw [World.ownsRow.cellAt h.1 j hj]
  exact hu
end
end Go.Proofs.Ytekpifobhgjepaa
