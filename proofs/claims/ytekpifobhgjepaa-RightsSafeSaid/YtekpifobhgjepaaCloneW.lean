/- slices.Clone at words. -/
import Derived.Test.YtekpifobhgjepaaQuiet
import Derived.Test.YtekpifobhgjepaaSeat
import Derived.WalkLawsBesides
import Derived.WalkSpells
namespace Go.Proofs.Ytekpifobhgjepaa
open Go Go.RowKit
set_option linter.unusedVariables false

def RetOwn (w : World) (xs : List (BitVec 32)) (e : Ending) (w' : World) : Prop := ∃ v, e = .returned v ∧ Own w w' 23 1 v xs.length (xs.map wv)
theorem clone_any (A : Option Addr) (n c : Nat) (xs : List (BitVec 32)) (w : World) (hs : SlW w A n xs) (hn : n ≤ 1000) :
    Calls Try.prog 62 #[.slice A n c] w (RetOwn w xs) := by
  have hnil := fun W => Lib.run_eql_slice_nil (P := Try.prog) W 42 23 A n c 0 0 Try.underlying42
  rcases A with _ | ad
  · have h0 : n = 0 := by
      rcases Nat.eq_zero_or_pos n with h | h
      · exact h
      · obtain ⟨b, off, e, _⟩ := hs.1.2 h
        cases e
    subst h0
    have hx : xs = [] := List.eq_nil_of_length_eq_zero hs.2
    subst hx
    go_enter Try.func62, Try.ntmps62
    go_wp2_with fail
    go_ret
    exact ⟨_, rfl, Own.start (Kept.refl _)⟩
  · have hl := hs.2
    go_enter Try.func62, Try.ntmps62
    go_wp2_with (at_builtin; refine wpList_pushAll rfl _ _ 42 rfl 23 Try.underlying42 info_u32 rfl (by decide) (by decide) _ _ _ _ (Own.empty (Kept.refl w) 23 1 _ rfl) _ _ _ _ (hs.kept ((Kept.refl w).alloc _)).1 rfl rfl (one_words _) n (by omega) (by omega) ?_; intro v' w3 hown3)
    go_ret
    refine ⟨_, rfl, ?_⟩
    rw [hl]
    simpa using hown3
end Go.Proofs.Ytekpifobhgjepaa
