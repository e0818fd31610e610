/- The size of an argument's slice, from the form's own reach. -/
import Derived.SizedLaws
import Derived.ChangeArms
namespace Go.Proofs.Ytodkpojmonikiaa
open Go Go.ChangeShapes Go.WideShapes
set_option linter.unusedVariables false
theorem reach_of {H : Type} {enc : TypeId × Value → H} {P : Program} {w : World} {base : Nat} {spare : Nat → Bool} {held : Bool} {ts : List TypeId} {ds : List (DataW H)} (hsz : (DataW.weightsEach P ts ds).all (· ≤ reachBytes) = true) {j : Nat} {t e : TypeId} {fuel : Nat} {A : Option Addr} {n c : Nat} {x : DataW H} {pl : List MemPlace}
    (ht : ts[j]? = some t) (hd : ds[j]? = some x) (hu : P.underlying t = some (.slice e)) (h : DataW.trod enc P w base spare held fuel t [.slice A n c] = some (x, pl)) : n * P.bytesOf e ≤ 140737488351232 := by
  rcases DataW.trod_slice hu h with ⟨h0, _⟩ | ⟨a, len, cap, elems, rest, m, _, hcs, hx, _, _, _, hlen, _, _, _⟩
  · simp at h0
    obtain ⟨rfl, rfl, rfl⟩ := h0
    simp
  · simp at hcs hx
    obtain ⟨rfl, rfl, rfl⟩ := hcs
    obtain ⟨rfl, _⟩ := hx
    have := sized_slice hsz ht hd hu
    simp only [List.length_map, reachBytes] at this
    rw [hlen] at this
    exact Nat.le_trans (Nat.mul_le_mul_right _ (by omega)) this
end Go.Proofs.Ytodkpojmonikiaa
