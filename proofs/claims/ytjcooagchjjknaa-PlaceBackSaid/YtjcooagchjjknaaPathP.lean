/- A path and the leaf it leads to tell each other: plain facts. -/
import Derived.Test.YtjcooagchjjknaaPenP
namespace Go.Proofs.Ytjcooagchjjknaa
open Go
set_option linter.unusedVariables false

section
variable {ls : List Lf} {who : Lab}
theorem go_last (ps : List Int) (q : Int) {b c : Int} (h : goF ls who b (ps ++ [q]) = some c) : ∃ i : Nat, i < ls.length ∧ c = (i : Int) ∧ seenI ls who i = true ∧ goF ls who b ps = some (lfAt ls i).1 ∧ q = ((cntI (belowP ls who (lfAt ls i).1) i : Nat) : Int) := by
  rw [goF_app] at h
  cases hg : goF ls who b ps
  · rw [hg] at h; cases h
  · rename_i d
    rw [hg] at h
    have h : goF ls who d [q] = some c := h
    unfold goF at h
    by_cases hp : 0 ≤ q ∧ q < (belowL ls who d).length
    · rw [if_pos hp] at h
      obtain ⟨i, h1, h2, h3, h4⟩ := belowL_from (ls := ls) (who := who) (b := d) (q := q.toNat) (by omega)
      rw [h4] at h
      have h : some (i : Int) = some c := h
      injection h with h
      obtain ⟨h5, h6⟩ := belowP_iff.1 h2
      refine ⟨i, h1, h.symm, h6, by rw [h5], ?_⟩
      rw [h5, h3]
      omega
    · rw [if_neg hp] at h; cases h
theorem go_uniq : ∀ (m : Nat) (ps qs : List Int) (n : Int), ps.length = m → goF ls who (-1) ps = some n → goF ls who (-1) qs = some n → ps = qs := by
  intro m
  induction m with
  | zero =>
    intro ps qs n hm hp hq
    have e : ps = [] := List.length_eq_zero_iff.1 hm
    subst e
    have hn : (-1 : Int) = n := Option.some.inj hp
    rcases List.eq_nil_or_concat qs with e | ⟨l, x, e⟩
    · exact e.symm
    · rw [e] at hq
      rw [List.concat_eq_append] at hq
      obtain ⟨i, _, h2, _⟩ := go_last l x hq
      omega
  | succ m ih =>
    intro ps qs n hm hp hq
    rcases List.eq_nil_or_concat ps with e | ⟨l, x, e⟩
    · subst e; simp at hm
    · rw [List.concat_eq_append] at e
      subst e
      obtain ⟨i, h1, h2, h3, h4, h5⟩ := go_last l x hp
      rcases List.eq_nil_or_concat qs with e | ⟨l2, y, e⟩
      · subst e
        have hn : (-1 : Int) = n := Option.some.inj hq
        omega
      · rw [List.concat_eq_append] at e
        subst e
        obtain ⟨j, g1, g2, g3, g4, g5⟩ := go_last l2 y hq
        have e : i = j := by omega
        subst e
        have e2 : l = l2 := ih l l2 _ (by simpa using hm) h4 g4
        rw [e2, h5, g5]
/-- one step up: the way from the leaf's own leads on -/
theorem go_up {i : Nat} (hi : i < ls.length) (hs : seenI ls who i = true) {acc : List Int} {k : Int} (h : goF ls who (i : Int) acc = some k) : goF ls who (lfAt ls i).1 (((cntI (belowP ls who (lfAt ls i).1) i : Nat) : Int) :: acc) = some k := by
  obtain ⟨h1, h2⟩ := belowL_val (ls := ls) (who := who) (b := (lfAt ls i).1) hi (belowP_iff.2 ⟨rfl, hs⟩)
  unfold goF
  rw [if_pos ⟨by omega, by omega⟩, Int.toNat_natCast, h2]
  exact h
/-- at which place it stands among those below the same one -/
theorem place_at {i : Nat} (hi : i < ls.length) (hs : seenI ls who i = true) : ∃ hq : cntI (belowP ls who (lfAt ls i).1) i < (belowL ls who (lfAt ls i).1).length, (belowL ls who (lfAt ls i).1)[cntI (belowP ls who (lfAt ls i).1) i] = (i : Int) ∧ ∀ j, j < cntI (belowP ls who (lfAt ls i).1) i → ∀ hj : j < (belowL ls who (lfAt ls i).1).length, (belowL ls who (lfAt ls i).1)[j] ≠ (i : Int) := by
  have hb : belowP ls who (lfAt ls i).1 i = true := belowP_iff.2 ⟨rfl, hs⟩
  obtain ⟨h1, h2⟩ := belowL_val hi hb
  refine ⟨h1, ?_, fun j hj hj2 e => ?_⟩
  · rw [List.getD_eq_getElem?_getD, List.getElem?_eq_getElem h1] at h2
    exact h2
  · obtain ⟨m, h3, h4, h5, h6⟩ := belowL_from hj2
    rw [List.getD_eq_getElem?_getD, List.getElem?_eq_getElem hj2] at h6
    have h6 : (belowL ls who (lfAt ls i).1)[j] = (m : Int) := h6
    have : m = i := by omega
    subst this
    omega
end
end Go.Proofs.Ytjcooagchjjknaa
