/- The walks of package concept: what is wrong; who has what. -/
import Derived.Test.YtmdlfngdmlhpmaaSeat
import Derived.Test.YtmdlfngdmlhpmaaQuiet
import Derived.WalkLawsBesides
import Derived.WalkSpells
namespace Go.Proofs.Ytmdlfngdmlhpmaa
open Go Go.RowKit
set_option linter.unusedVariables false

/-! ### plain functions -/
def tabF (n : Int) (rows : List (BitVec 32)) (objects : BitVec 32) (marks : List (BitVec 32)) : Int :=
  if n < 1 ∨ 6 < n ∨ 8 < rows.length then 1 else if (rows ++ marks).all (fitB n.toNat) && fitB rows.length objects then 0 else 4
theorem tabF_zero {n : Int} {rows : List (BitVec 32)} {objects : BitVec 32} {marks : List (BitVec 32)} (h : tabF n rows objects marks = 0) :
    1 ≤ n ∧ n ≤ 6 ∧ rows.length ≤ 8 ∧ rows.all (fitB n.toNat) = true ∧ marks.all (fitB n.toNat) = true ∧ fitB rows.length objects = true := by
  unfold tabF at h
  split at h
  · omega
  · split at h
    · rename_i h1 h2
      rw [List.all_append, Bool.and_eq_true, Bool.and_eq_true] at h2
      exact ⟨by omega, by omega, by omega, h2.1.1, h2.1.2, h2.2⟩
    · omega
theorem tabF_ok {n : Int} {rows : List (BitVec 32)} {objects : BitVec 32} {marks : List (BitVec 32)} (h1 : 1 ≤ n) (h2 : n ≤ 6) (h3 : rows.length ≤ 8) (h4 : rows.all (fitB n.toNat) = true) (h5 : marks.all (fitB n.toNat) = true) (h6 : fitB rows.length objects = true) :
    tabF n rows objects marks = 0 := by
  unfold tabF
  rw [if_neg (by omega), List.all_append, h4, h5, h6]
  rfl
/-- what all of some objects have, among the first k -/
def upF (full objects : BitVec 32) (rows : List (BitVec 32)) : Nat → BitVec 32
  | 0 => full
  | k + 1 => if objects.getLsbD k then upF full objects rows k &&& nth rows k else upF full objects rows k
/-- who has all of some marks, among the first k -/
def downF (marks : BitVec 32) (rows : List (BitVec 32)) : Nat → BitVec 32
  | 0 => 0#32
  | k + 1 => if subB marks (nth rows k) then downF marks rows k ||| 1#32 <<< k else downF marks rows k
theorem upF_bit (full objects : BitVec 32) (rows : List (BitVec 32)) (i : Nat) : ∀ k, (upF full objects rows k).getLsbD i = true ↔ full.getLsbD i = true ∧ ∀ j, j < k → objects.getLsbD j = true → (nth rows j).getLsbD i = true := by
  intro k
  induction k with
  | zero => simp [upF]
  | succ k ih =>
    unfold upF
    cases ho : objects.getLsbD k
    · simp only [Bool.false_eq_true, if_false]
      rw [ih]
      constructor
      · rintro ⟨h1, h2⟩
        refine ⟨h1, fun j hj hoj => ?_⟩
        by_cases e : j = k
        · subst e; rw [ho] at hoj; cases hoj
        · exact h2 j (by omega) hoj
      · rintro ⟨h1, h2⟩
        exact ⟨h1, fun j hj => h2 j (by omega)⟩
    · simp only [if_true]
      rw [BitVec.getLsbD_and, Bool.and_eq_true, ih]
      constructor
      · rintro ⟨⟨h1, h2⟩, h3⟩
        refine ⟨h1, fun j hj hoj => ?_⟩
        by_cases e : j = k
        · subst e; exact h3
        · exact h2 j (by omega) hoj
      · rintro ⟨h1, h2⟩
        exact ⟨⟨h1, fun j hj => h2 j (by omega)⟩, h2 k (by omega) ho⟩
theorem downF_bit (marks : BitVec 32) (rows : List (BitVec 32)) (i : Nat) : ∀ k, k ≤ 32 → ((downF marks rows k).getLsbD i = true ↔ i < k ∧ subB marks (nth rows i) = true) := by
  intro k
  induction k with
  | zero => intro _; simp [downF]
  | succ k ih =>
    intro hk
    unfold downF
    cases hs : subB marks (nth rows k)
    · simp only [Bool.false_eq_true, if_false]
      rw [ih (by omega)]
      constructor
      · rintro ⟨h1, h2⟩; exact ⟨by omega, h2⟩
      · rintro ⟨h1, h2⟩
        refine ⟨?_, h2⟩
        by_cases e : i = k
        · subst e; rw [hs] at h2; cases h2
        · omega
    · simp only [if_true]
      rw [BitVec.getLsbD_or, Bool.or_eq_true, ih (by omega), getLsbD_bit]
      constructor
      · rintro (⟨h1, h2⟩ | h)
        · exact ⟨by omega, h2⟩
        · simp at h
          obtain ⟨rfl, _⟩ := h
          exact ⟨by omega, hs⟩
      · rintro ⟨h1, h2⟩
        by_cases e : i = k
        · subst e
          refine .inr ?_
          simp
          omega
        · exact .inl ⟨by omega, h2⟩

/-! ### walks -/
def RetOwn (w : World) (xs : List (BitVec 32)) (e : Ending) (w' : World) : Prop := ∃ v, e = .returned v ∧ Own w w' 23 1 v xs.length (xs.map wv)
theorem clone_any (A : Option Addr) (n c : Nat) (xs : List (BitVec 32)) (w : World) (hs : SlW w A n xs) (hn : n ≤ 1000) :
    Calls Try.prog 51 #[.slice A n c] w (RetOwn w xs) := by
  have hnil := fun W => Lib.run_eql_slice_nil (P := Try.prog) W 36 23 A n c 0 0 Try.underlying36
  rcases A with _ | ad
  · have h0 : n = 0 := by
      rcases Nat.eq_zero_or_pos n with h | h
      · exact h
      · obtain ⟨b, off, e, _⟩ := hs.1.2 h
        cases e
    subst h0
    have hx : xs = [] := List.eq_nil_of_length_eq_zero hs.2
    subst hx
    go_enter Try.func51, Try.ntmps51
    go_wp2_with fail
    go_ret
    exact ⟨_, rfl, Own.start (Kept.refl _)⟩
  · have hl := hs.2
    go_enter Try.func51, Try.ntmps51
    go_wp2_with (at_builtin; refine wpList_pushAll rfl _ _ 36 rfl 23 Try.underlying36 info_u32 rfl (by decide) (by decide) _ _ _ _ (Own.empty (Kept.refl w) 23 1 _ rfl) _ _ _ _ (hs.kept ((Kept.refl w).alloc _)).1 rfl rfl (one_words _) n (by omega) (by omega) ?_; intro v' w3 hown3)
    go_ret
    refine ⟨_, rfl, ?_⟩
    rw [hl]
    simpa using hown3
end Go.Proofs.Ytmdlfngdmlhpmaa
