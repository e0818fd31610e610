/- All searches of Kuhn's, and Koenig's set: plain laws. -/
import Derived.Test.YtgcpomdlajoifaaDilP
namespace Go.Proofs.Ytgcpomdlajoifaa
open Go Go.RowKit
set_option linter.unusedVariables false

/-- the things below i are looked for; S is closed, and whoever is left over has all that come next within S -/
structure KInv (E : Nat → Nat → Bool) (n : Nat) (last : Ls) (i : Nat) (S : Nat → Prop) : Prop where
  ok : ∀ j, j < n → last j < 0 ∨ ∃ x : Nat, x < n ∧ last j = (x : Int) ∧ E x j = true
  inj : ∀ j k, j < n → k < n → last j = last k → 0 ≤ last j → j = k
  below : ∀ j, j < n → ∀ x : Nat, last j = (x : Int) → x < i
  shut : ClosedT E n last S
  left : ∀ f, f < i → (∃ j, j < n ∧ last j = (f : Int)) ∨ ∀ k, k < n → E f k = true → S k
section
variable {E : Nat → Nat → Bool} {n : Nat} {last last' : Ls} {i : Nat} {S : Nat → Prop} {seen' : Nat → Bool}
theorem KInv.start : KInv E n (fun _ => -1) 0 (fun _ => False) :=
  ⟨fun j _ => .inl (by omega), fun j k _ _ _ h => by omega, fun j _ x h => by omega, fun j _ h => h.elim, fun f h => by omega⟩
theorem KInv.pre (h : KInv E n last i S) (hi : i < n) : FPre E n last (fun _ => false) i :=
  ⟨hi, h.ok, fun j k hj hk _ _ e hge => h.inj j k hj hk e hge, fun j hj _ e => by have := h.below j hj i e; omega⟩
theorem KInv.yes (h : KInv E n last i S) (hi : i < n) (P : FPost E n last (fun _ => false) i true last' seen') : KInv E n last' (i + 1) S := by
  refine ⟨P.ok, fun j k hj hk e hge => P.inj rfl j k hj hk rfl rfl e hge, fun j hj x e => ?_, fun j hj hS => ?_, fun f hf => ?_⟩
  · rcases (P.ends rfl x).1 ⟨j, hj, rfl, e⟩ with rfl | ⟨j', h1, _, h3⟩
    · omega
    · have := h.below j' h1 x h3; omega
  · obtain ⟨x, hx, e, hN⟩ := h.shut j hj hS
    exact ⟨x, hx, by rw [(P.closed S h.shut).1 j hj hS]; exact e, hN⟩
  · by_cases e : f = i
    · subst e
      obtain ⟨j, hj, _, e2⟩ := (P.ends rfl f).2 (.inl rfl)
      exact .inl ⟨j, hj, e2⟩
    · rcases h.left f (by omega) with ⟨j, hj, e2⟩ | h2
      · obtain ⟨j', h1, _, h3⟩ := (P.ends rfl f).2 (.inr ⟨j, hj, rfl, e2⟩)
        exact .inl ⟨j', h1, h3⟩
      · exact .inr h2
theorem KInv.no (h : KInv E n last i S) (hi : i < n) (P : FPost E n last (fun _ => false) i false last' seen') : KInv E n last' (i + 1) (fun j => S j ∨ seen' j = true) := by
  obtain ⟨p1, p2, p3⟩ := P.no rfl
  subst p1
  refine ⟨h.ok, h.inj, fun j hj x e => by have := h.below j hj x e; omega, fun j hj hS => ?_, fun f hf => ?_⟩
  · rcases hS with hS | hS
    · obtain ⟨x, hx, e, hN⟩ := h.shut j hj hS
      exact ⟨x, hx, e, fun k hk hE => .inl (hN k hk hE)⟩
    · obtain ⟨x, hx, e, hN⟩ := p3 j hj hS rfl
      exact ⟨x, hx, e, fun k hk hE => .inr (hN k hk hE)⟩
  · by_cases e : f = i
    · subst e
      exact .inr fun k hk hE => .inr (p2 k hk hE)
    · rcases h.left f (by omega) with h2 | h2
      · exact .inl h2
      · exact .inr fun k hk hE => .inl (h2 k hk hE)
/-- Koenig's set -/
def KSet (E : Nat → Nat → Bool) (n : Nat) (S : Nat → Prop) (v : Nat) : Prop := (∀ k, k < n → E v k = true → S k) ∧ ¬ S v
theorem KSet.free {v u : Nat} (hv : KSet E n S v) (hu : KSet E n S u) (hn : u < n) : E v u = false := by
  cases he : E v u with
  | false => rfl
  | true => exact absurd (hv.1 u hn he) hu.2
/-- whoever is not in it has a mark of its own among those that somebody goes on to -/
theorem KInv.other (h : KInv E n last n S) {v : Nat} (hv : v < n) (hno : ¬ KSet E n S v) : ∃ j, j < n ∧ 0 ≤ last j ∧ ((S v ∧ j = v) ∨ (¬ S v ∧ ¬ S j ∧ last j = (v : Int))) := by
  by_cases hS : S v
  · obtain ⟨x, _, e, _⟩ := h.shut v hv hS
    exact ⟨v, hv, by omega, .inl ⟨hS, rfl⟩⟩
  · rcases h.left v hv with ⟨j, hj, e⟩ | h2
    · refine ⟨j, hj, by omega, .inr ⟨hS, fun hj2 => ?_, e⟩⟩
      obtain ⟨x, _, e2, hN⟩ := h.shut j hj hj2
      obtain rfl : x = v := by omega
      exact hno ⟨hN, hS⟩
    · exact absurd ⟨h2, hS⟩ hno
end
end Go.Proofs.Ytgcpomdlajoifaa
