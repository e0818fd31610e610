/- Slices in memory: 'Sl w s A n xs' says that a slice value reads, in the world w, as the cells xs (n elements of s cells each). -/
import Derived.WalkKit
import Derived.Laws.OwnMore
import Derived.Deep.Draws
import Derived.Deep.AppendLies
import Derived.Laws.Rows
namespace Go.Proofs.Ytekpifobhgjepaa
open Go Go.RowKit

/-- What was there is as it was; more may be there. -/
def Kept (w w' : World) : Prop := Below w.heap.size w w'
theorem Kept.refl (w : World) : Kept w w := Below.refl _ _
theorem Kept.below {w w' : World} (h : Kept w w') : Below w.heap.size w w' := h
theorem Kept.size {w w' : World} (h : Kept w w') : w.heap.size ≤ w'.heap.size := Below.size h
theorem Kept.of {B : Nat} {w w' : World} (h : Below B w w') (hB : w.heap.size ≤ B) : Kept w w' := Below.mono h hB
theorem Kept.trans {w w1 w2 : World} (h : Kept w w1) (k : Kept w1 w2) : Kept w w2 := Below.trans h (Below.mono k h.size)
theorem Kept.alloc {w w1 : World} (h : Kept w w1) (o : Obj) : Kept w (w1.alloc o) := Below.alloc h h.size o
theorem Kept.drew {w w1 : World} (h : Kept w w1) : Kept w w1.drew := Below.drew h
theorem Kept.drewN {w w1 : World} (h : Kept w w1) (n : Nat) : Kept w (w1.drewN n) := ⟨h.os, h.tape, h.output, h.size, h.block⟩
theorem Kept.setCell {w w1 : World} (h : Kept w w1) {p : Addr} (hp : w.heap.size ≤ p.block) (v : Value) : Kept w (w1.setCell p v) := Below.setCell h hp v
theorem Kept.cell {w w' : World} (h : Kept w w') {p : Addr} (hp : p.block < w.heap.size) : w'.cell? p = w.cell? p := Below.cell h hp
theorem Kept.frozen {w w' : World} (h : Kept w w') {p : Addr} (hp : p.block < w.heap.size) : w'.frozen? p = w.frozen? p := Below.frozen h hp

theorem block_of_add (a : Addr) (n : Nat) : (a.add n).block = a.block := by unfold Addr.add; split <;> rfl

/-- The slice value '.slice A n c' reads as the cells xs, n elements of s cells each. -/
def Sl (w : World) (s : Nat) (A : Option Addr) (n : Nat) (xs : List Value) : Prop :=
  xs.length = n * s ∧ (0 < n → ∃ b off, A = some ⟨b, off, none⟩ ∧ b < w.heap.size ∧ ∀ j u, xs[j]? = some u → w.cell? ⟨b, off + j, none⟩ = some u)

theorem Sl.nil_ (w : World) (s : Nat) (A : Option Addr) : Sl w s A 0 [] := ⟨by simp, fun h => absurd h (by omega)⟩
theorem Sl.kept {w w' : World} {s : Nat} {A : Option Addr} {n : Nat} {xs : List Value} (h : Sl w s A n xs) (hk : Kept w w') : Sl w' s A n xs :=
  ⟨h.1, fun hn => by
    obtain ⟨b, off, e, hb, hc⟩ := h.2 hn
    exact ⟨b, off, e, Nat.lt_of_lt_of_le hb hk.size, fun j u hu => (hk.cell (p := ⟨b, off + j, none⟩) hb).trans (hc j u hu)⟩⟩
theorem Sl.at_ {w : World} {s : Nat} {A : Option Addr} {n : Nat} {xs : List Value} (h : Sl w s A n xs) (hn : 0 < n) :
    ∃ b off, A = some ⟨b, off, none⟩ ∧ b < w.heap.size ∧ ∀ j u, xs[j]? = some u → w.cell? ⟨b, off + j, none⟩ = some u := h.2 hn
theorem Sl.of_own {w : World} {base : Nat} {e : TypeId} {s c n : Nat} {A : Option Addr} {xs : List Value} (h : w.ownsRow base e s (.slice A n c) n xs) : Sl w s A n xs := by
  refine ⟨h.1, fun hn => ?_⟩
  obtain ⟨g, cap, hv, _, hlt⟩ := World.ownsRow.form h hn
  have hA : A = some ⟨g, 0, none⟩ := by injection hv
  subst hA
  refine ⟨g, 0, rfl, hlt, fun j u hu => ?_⟩
  have hc := World.ownsRow.cells h (g := g) rfl j u hu
  unfold Addr.add at hc
  split at hc
  · rename_i h0
    subst h0
    simpa using hc
  · simpa using hc
theorem Sl.new (w : World) (cs : Array Value) (t : TypeId) (s n : Nat) (h : cs.size = n * s) : Sl (w.alloc (.cells cs t)) s (some ⟨w.heap.size, 0, none⟩) n cs.toList := by
  refine ⟨by simpa using h, fun _ => ⟨w.heap.size, 0, rfl, by simp, fun j u hu => ?_⟩⟩
  rw [cell_of_row _ _ _ cs t (0, 0) (heap_alloc_new w _)]
  simpa using hu
/-- what a block holds that was just made: its cells, none frozen -/
def Box (w : World) (B : Nat) (cs : Array Value) : Prop := B < w.heap.size ∧ (∀ i u, cs[i]? = some u → w.cell? ⟨B, i, none⟩ = some u) ∧ ∀ i, w.frozen? ⟨B, i, none⟩ = false
theorem Box.new (w : World) (cs : Array Value) (t : TypeId) (B : Nat) (h : w.heap.size = B) : Box (w.alloc (.cells cs t)) B cs := by
  subst h
  refine ⟨by simp, fun i u hu => ?_, fun i => ?_⟩
  · rw [cell_of_row _ _ _ cs t (0, 0) (heap_alloc_new w _)]
    exact hu
  · have hh := heap_alloc_new w (.cells cs t)
    unfold World.frozen?
    simp only [hh]
    simp
theorem Box.kept {w w' : World} {B : Nat} {cs : Array Value} (h : Box w B cs) (k : Kept w w') : Box w' B cs :=
  ⟨Nat.lt_of_lt_of_le h.1 k.size, fun i u hu => (k.cell (p := ⟨B, i, none⟩) h.1).trans (h.2.1 i u hu), fun i => (k.frozen (p := ⟨B, i, none⟩) h.1).trans (h.2.2 i)⟩
theorem boxes1 {w w1 : World} {a : Array Value} {ta : TypeId} (k : Kept (w.alloc (.cells a ta)) w1) : Box w1 w.heap.size a := (Box.new w a ta _ rfl).kept k
theorem boxes2 {w w1 : World} {a b : Array Value} {ta tb : TypeId} (k : Kept ((w.alloc (.cells a ta)).alloc (.cells b tb)) w1) : Box w1 w.heap.size a ∧ Box w1 (w.heap.size + 1) b :=
  ⟨(Box.new w a ta _ rfl).kept (((Kept.refl _).alloc _).trans k), (Box.new _ b tb _ (by simp)).kept k⟩
theorem boxes3 {w w1 : World} {a b c : Array Value} {ta tb tc : TypeId} (k : Kept (((w.alloc (.cells a ta)).alloc (.cells b tb)).alloc (.cells c tc)) w1) : Box w1 w.heap.size a ∧ Box w1 (w.heap.size + 1) b ∧ Box w1 (w.heap.size + 1 + 1) c :=
  ⟨(Box.new w a ta _ rfl).kept ((((Kept.refl _).alloc _).alloc _).trans k), (Box.new _ b tb _ (by simp)).kept (((Kept.refl _).alloc _).trans k), (Box.new _ c tc _ (by simp)).kept k⟩
theorem Box.at_ {w : World} {B : Nat} {cs : Array Value} (h : Box w B cs) (i : Nat) {u : Value} (hu : cs[i]? = some u) : w.cell? ⟨B, i, none⟩ = some u := h.2.1 i u hu
/-- one cell, behind whatever keeps what was there -/
theorem keep1 {w w' : World} {B i : Nat} {u : Value} (hk : Kept w w') (hb : B < w.heap.size) (c0 : w.cell? ⟨B, i, none⟩ = some u) :
    w'.cell? ⟨B, i, none⟩ = some u ∧ Kept w w' :=
  ⟨(hk.cell (p := ⟨B, i, none⟩) hb).trans c0, hk⟩
/-- two cells of one block, behind whatever keeps what was there -/
theorem keep2 {w w' : World} {B i j : Nat} {u v : Value} (hk : Kept w w') (hb : B < w.heap.size) (c0 : w.cell? ⟨B, i, none⟩ = some u) (c1 : w.cell? ⟨B, j, none⟩ = some v) :
    w'.cell? ⟨B, i, none⟩ = some u ∧ w'.cell? ⟨B, j, none⟩ = some v ∧ Kept w w' :=
  ⟨(hk.cell (p := ⟨B, i, none⟩) hb).trans c0, (hk.cell (p := ⟨B, j, none⟩) hb).trans c1, hk⟩
end Go.Proofs.Ytekpifobhgjepaa
