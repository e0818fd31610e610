/- What a write leaves of the codes; labels of a list as a function. -/
import Derived.Test.YtnnddjanbfamkaaLow1
namespace Go.Proofs.Ytnnddjanbfamkaa
open Go Go.RowKit
set_option linter.unusedVariables false

/-- codes are as they were -/
def KeepC (w0 w w' : World) : Prop := ∀ (v : Value) (n : Nat) (xs : List Value), Own w0 w 25 1 v n xs → Own w0 w' 25 1 v n xs
theorem KeepC.of {w0 w w' : World} (k : Kept w w') : KeepC w0 w w' := fun _ _ _ h => h.kept k
theorem KeepC.trans {w0 w w1 w2 : World} (h : KeepC w0 w w1) (k : KeepC w0 w1 w2) : KeepC w0 w w2 := fun v n xs h1 => k v n xs (h v n xs h1)
theorem KeepC.setRow {w0 w : World} {B : Nat} {e : TypeId} {ys : List Value} (k : Row w0 w B e ys) (hne : 25 ≠ e) (i : Nat) (u : Value) : KeepC w0 w (w.setCell ⟨B, i, none⟩ u) := fun _ _ _ h => h.setRow k hne i u
theorem KeepC.setOwn {w0 w : World} {e : TypeId} {s n c m : Nat} {g : Nat} {ys : List Value} (o : Own w0 w e s (.slice (some ⟨g, 0, none⟩) n c) m ys) (hne : 25 ≠ e) (i : Nat) (u : Value) : KeepC w0 w (w.setCell ⟨g, i, none⟩ u) := fun _ _ _ h =>
  h.grown (grown_set w ⟨g, i, none⟩ u) (h.far2 o hne) (fun k hk => by injection hk with hk; subst hk; exact o.since g rfl)
theorem setM_keep {w0 w : World} {g n c : Nat} {xs : List Value} (o : Own w0 w 24 2 (.slice (some ⟨g, 0, none⟩) n c) n xs) (i j : Nat) (u v : Value) : KeepC w0 w ((w.setCell ⟨g, i, none⟩ u).setCell ⟨g, j, none⟩ v) :=
  (KeepC.setOwn o (by decide) i u).trans (KeepC.setOwn (e := 24) (o.put i u) (by decide) j v)
/-- a list of labels as a function -/
def lab (ls : List Lab) (i : Nat) : Lab := ls.getD i (0, 0#32)
theorem lab_eq {ls : List Lab} {i : Nat} (h : i < ls.length) : lab ls i = ls[i] := by unfold lab; rw [List.getD_eq_getElem?_getD, List.getElem?_eq_getElem h]; rfl
theorem SlLab.lab_get {w : World} {A : Option Addr} {n : Nat} {ls : List Lab} (h : SlLab w A n ls) (k : Nat) (hk : k < n) : ∃ b off, A = some ⟨b, off, none⟩ ∧ b < w.heap.size ∧
    w.cell? ⟨b, off + k * 2, none⟩ = some (.int .i64 (lab ls k).1) ∧ w.cell? ⟨b, off + k * 2 + 1, none⟩ = some (.int .u32 (W (lab ls k).2)) := by
  obtain ⟨b, off, hb, e, hlt, c0, c1⟩ := h.get k hk
  rw [lab_eq hb]
  exact ⟨b, off, e, hlt, c0, c1⟩
def readSt (s : MSt) (u t : Nat) (x : Lab) : MSt := ⟨upd s.marks u (meetL (s.marks u) x), upd s.knows u (s.knows u ||| s.from_ t), s.from_⟩
end Go.Proofs.Ytnnddjanbfamkaa
