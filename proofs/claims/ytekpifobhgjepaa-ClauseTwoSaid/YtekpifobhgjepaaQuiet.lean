/- A region that draws its order, whose operations read, and whose calls hand back one value and keep what was there: one walk in the order of the text serves every order. -/
import Derived.Test.YtekpifobhgjepaaMem
import Derived.Deep.QuietTactic
import Derived.BigQuiet
namespace Go.Proofs.Ytekpifobhgjepaa
open Go Go.RowKit

/-- the worlds that keep what was there at w -/
def KW (w : World) : Type := { w' : World // Kept w w' }
def KW.val {w : World} (x : KW w) : World := x.1
theorem KW.kept {w : World} (x : KW w) : Kept w x.val := x.2
instance KW.some_ (w : World) : Nonempty (KW w) := ⟨⟨w, Kept.refl w⟩⟩
theorem KW.of {w w' : World} (h : Kept w w') : ∃ x : KW w, w' = x.val := ⟨⟨w', h⟩, rfl⟩

theorem wp_region_kept {P : Program} {id : Nat} {Q : Exit → Act → World → Prop} {a : Act} {w : World} {l : List Oper} (hm : P.follows .mixedOrders = true) (hB : Region.lexB .any l.toArray = true)
    (h : wpQuiet P l.toArray (fun w' => ∃ x : KW w, w' = x.val) (fun a' => ∀ w', Kept w w' → Q .normal a' w') l a) : (Code.region id l.toArray true).wp P Q a w := by
  refine wp_region_quiet (C := fun w' => ∃ x : KW w, w' = x.val) hm hB (KW.of (Kept.refl w).drew) ?_
  have e : (fun a' => ∀ w', (∃ x : KW w, w' = x.val) → Q .normal a' w') = (fun a' => ∀ w', Kept w w' → Q .normal a' w') := by
    funext a'
    apply propext
    exact ⟨fun h w' hk => h w' (KW.of hk), fun h w' ⟨x, hx⟩ => by subst hx; exact h _ x.kept⟩
  rw [e]
  exact h
theorem kept_of {P : Program} {f : FuncId} {args : Array Value} {w : World} {x : KW w} {v : Value}
    (h : Calls P f args x.val fun e w' => e = .returned v ∧ Kept x.val w') : Calls P f args x.val fun e w'' => e = .returned v ∧ ∃ y : KW w, w'' = y.val :=
  h.mono fun _ _ ⟨he, hk⟩ => ⟨he, KW.of (x.kept.trans hk)⟩
theorem kept_of_same {P : Program} {f : FuncId} {args : Array Value} {w : World} {x : KW w} {v : Value}
    (h : Calls P f args x.val fun e w' => e = .returned v ∧ x.val = w') : Calls P f args x.val fun e w'' => e = .returned v ∧ ∃ y : KW w, w'' = y.val :=
  h.mono fun _ _ ⟨he, hk⟩ => ⟨he, x, hk.symm⟩
theorem kw_cell {w : World} {a : Addr} {v : Value} (h : w.cell? a = some v) : ∀ x : KW w, x.val.cell? a = some v := fun x =>
  (x.kept.cell (p := a) (by
    rcases Nat.lt_or_ge a.block w.heap.size with hlt | hge
    · exact hlt
    · exfalso
      unfold World.cell? at h
      rw [Array.getElem?_eq_none hge] at h
      simp at h)).trans h
end Go.Proofs.Ytekpifobhgjepaa
