/- The run of closed sets: plain laws. -/
import Derived.Test.YtmdlfngdmlhpmaaNext1
namespace Go.Proofs.Ytmdlfngdmlhpmaa
open Go
set_option linter.unusedVariables false

theorem clG_bit {n : Nat} (hn : n < 32) {rows : List (BitVec 32)} (hl : rows.length ≤ 32) (m : BitVec 32) (i : Nat) : (clG n rows m).getLsbD i = true ↔ i < n ∧ ∀ j, j < rows.length → subB m (nth rows j) = true → (nth rows j).getLsbD i = true := by
  unfold clG
  rw [upG_bit n hn]
  constructor
  · rintro ⟨h1, h2⟩
    exact ⟨h1, fun j hj hs => h2 j hj ((downG_bit rows hl m j).2 ⟨hj, hs⟩)⟩
  · rintro ⟨h1, h2⟩
    exact ⟨h1, fun j hj hd => h2 j hj ((downG_bit rows hl m j).1 hd).2⟩
theorem clG_fit {n : Nat} (hn : n < 32) {rows : List (BitVec 32)} (hl : rows.length ≤ 32) (m : BitVec 32) : fitB n (clG n rows m) = true := fitB_iff.2 fun i hi => ((clG_bit hn hl m i).1 hi).1
theorem clG_ext {n : Nat} (hn : n < 32) {rows : List (BitVec 32)} (hl : rows.length ≤ 32) {m : BitVec 32} {i : Nat} (hi : i < n) (h : m.getLsbD i = true) : (clG n rows m).getLsbD i = true :=
  (clG_bit hn hl m i).2 ⟨hi, fun j _ hs => subB_iff.1 hs i h⟩
theorem clG_none {n : Nat} (hn : n < 32) {rows : List (BitVec 32)} (hl : rows.length ≤ 32) (m : BitVec 32) : subB (clG n rows 0#32) (clG n rows m) = true :=
  subB_iff.2 fun i hi => by
    obtain ⟨h1, h2⟩ := (clG_bit hn hl _ i).1 hi
    exact (clG_bit hn hl _ i).2 ⟨h1, fun j hj _ => h2 j hj (subB_iff.2 fun k hk => by simp at hk)⟩
theorem sub_le {x y : BitVec 32} (h : subB x y = true) : x.toNat ≤ y.toNat := by
  have e : x &&& y = x := by
    apply BitVec.eq_of_getLsbD_eq
    intro i _
    rw [BitVec.getLsbD_and]
    cases hx : x.getLsbD i
    · rfl
    · rw [subB_iff.1 h i hx]; rfl
  have : (x &&& y).toNat ≤ y.toNat := by rw [BitVec.toNat_and]; exact Nat.and_le_right
  rw [e] at this
  exact this
/-- the place of a set, its first mark weighing most -/
def lexN (c : BitVec 32) : Nat → Nat
  | 0 => 0
  | k + 1 => 2 * lexN c k + (if c.getLsbD k then 1 else 0)
theorem lexN_lt (c : BitVec 32) : ∀ k, lexN c k < 2 ^ k := by
  intro k
  induction k with
  | zero => simp [lexN]
  | succ k ih =>
    unfold lexN
    rw [Nat.pow_succ]
    split <;> omega
theorem lexN_same {c d : BitVec 32} : ∀ k, (∀ j, j < k → c.getLsbD j = d.getLsbD j) → lexN c k = lexN d k := by
  intro k
  induction k with
  | zero => intro _; rfl
  | succ k ih =>
    intro h
    unfold lexN
    rw [ih (fun j hj => h j (by omega)), h k (by omega)]
theorem lexN_more {c d : BitVec 32} {i : Nat} (h : ∀ j, j < i → c.getLsbD j = d.getLsbD j) (hc : c.getLsbD i = false) (hd : d.getLsbD i = true) : ∀ k, i < k → lexN c k < lexN d k := by
  intro k
  induction k with
  | zero => intro hk; omega
  | succ k ih =>
    intro hk
    unfold lexN
    by_cases e : i = k
    · subst e
      rw [lexN_same i h, hc, hd]
      simp
    · have := ih (by omega)
      split <;> split <;> omega
/-- the next one is a closed set, and lies behind -/
theorem nextG_some {n : Nat} (hn : n < 32) {rows : List (BitVec 32)} (hl : rows.length ≤ 32) {cur c : BitVec 32} : ∀ k, k ≤ n → nextG n rows cur k = some c → (∃ m, c = clG n rows m) ∧ lexN cur n < lexN c n := by
  intro k
  induction k with
  | zero => intro _ h; cases h
  | succ i ih =>
    intro hk h
    unfold nextG at h
    cases hb : cur.getLsbD i
    · rw [hb] at h
      simp only [Bool.false_eq_true, if_false] at h
      split at h
      · rename_i he
        injection h with h
        have he : clG n rows (cur &&& (1#32 <<< i - 1#32) ||| 1#32 <<< i) &&& (1#32 <<< i - 1#32) = cur &&& (1#32 <<< i - 1#32) := by simpa using he
        rw [h] at he
        refine ⟨⟨_, h.symm⟩, lexN_more (i := i) (fun j hj => ?_) hb ?_ n (by omega)⟩
        · have := congrArg (fun x => x.getLsbD j) he
          simp only [BitVec.getLsbD_and, full_bit i j (by omega), decide_eq_true hj, Bool.and_true] at this
          exact this.symm
        · rw [← h]
          refine clG_ext hn hl (by omega) ?_
          rw [BitVec.getLsbD_or, Bool.or_eq_true]
          right
          simp
          omega
      · exact ih (by omega) h
    · rw [hb] at h
      exact ih (by omega) (by simpa using h)
/-- the run from a set on -/
def runG (n : Nat) (rows : List (BitVec 32)) : Nat → BitVec 32 → List (BitVec 32)
  | 0, c => [c]
  | q + 1, c => c :: match nextG n rows c n with | none => [] | some d => runG n rows q d
theorem runG_closed {n : Nat} (hn : n < 32) {rows : List (BitVec 32)} (hl : rows.length ≤ 32) : ∀ q c, (∃ m, c = clG n rows m) → ∀ x ∈ runG n rows q c, ∃ m, x = clG n rows m := by
  intro q
  induction q with
  | zero => intro c hc x hx; simp [runG] at hx; subst hx; exact hc
  | succ q ih =>
    intro c hc x hx
    unfold runG at hx
    rcases List.mem_cons.1 hx with rfl | hx
    · exact hc
    · cases he : nextG n rows c n with
      | none => rw [he] at hx; simp at hx
      | some d =>
        rw [he] at hx
        exact ih d (nextG_some hn hl n (Nat.le_refl n) he).1 x hx
end Go.Proofs.Ytmdlfngdmlhpmaa
