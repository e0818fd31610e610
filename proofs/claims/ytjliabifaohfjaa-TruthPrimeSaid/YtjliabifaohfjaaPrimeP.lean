/- Prime implicants: plain laws of cubes. -/
import Derived.Test.YtjliabifaohfjaaSl
namespace Go.Proofs.Ytjliabifaohfjaa
open Go
set_option linter.unusedVariables false

/-- a cube: what must be in, what must be out -/
abbrev Cb := BitVec 32 × BitVec 32
def covB (c : Cb) (s : BitVec 32) : Bool := subB c.1 s && (c.2 &&& s == 0#32)
theorem covB_iff {c : Cb} {s : BitVec 32} : covB c s = true ↔ (∀ i, c.1.getLsbD i = true → s.getLsbD i = true) ∧ (∀ i, c.2.getLsbD i = true → s.getLsbD i = false) := by
  unfold covB
  rw [Bool.and_eq_true, subB_iff]
  constructor
  · rintro ⟨h1, h2⟩
    refine ⟨h1, fun i hi => ?_⟩
    have h2 : c.2 &&& s = 0#32 := by simpa using h2
    have := congrArg (fun x => x.getLsbD i) h2
    simp only [BitVec.getLsbD_and, hi, Bool.true_and] at this
    simpa using this
  · rintro ⟨h1, h2⟩
    refine ⟨h1, ?_⟩
    rw [beq_iff_eq]
    apply BitVec.eq_of_getLsbD_eq
    intro i _
    rw [BitVec.getLsbD_and]
    cases hc : c.2.getLsbD i
    · simp
    · rw [h2 i hc]; simp
def nbC (c : Cb) (v : Nat) : Cb := (c.1 ^^^ 1#32 <<< v, c.2 ^^^ 1#32 <<< v)
def mgC (c : Cb) (v : Nat) : Cb := (c.1 &&& ~~~(1#32 <<< v), c.2 &&& ~~~(1#32 <<< v))
/-- is the variable fixed in a cube? -/
def fixB (c : Cb) (v : Nat) : Bool := (c.1 ||| c.2).getLsbD v
theorem one_bit32 (v i : Nat) (hi : i < 32) : (1#32 <<< v).getLsbD i = decide (i = v) := by
  rw [BitVec.getLsbD_shiftLeft]
  by_cases e : i = v
  · subst e
    simp [hi]
  · by_cases h : i < v
    · simp [h, e]
    · have h2 : i - v ≠ 0 := by omega
      simp [h, e, h2, hi]
theorem nb_bit (c : Cb) (v i : Nat) (hi : i < 32) : (nbC c v).1.getLsbD i = (if i = v then !c.1.getLsbD i else c.1.getLsbD i) ∧ (nbC c v).2.getLsbD i = (if i = v then !c.2.getLsbD i else c.2.getLsbD i) := by
  unfold nbC
  simp only [BitVec.getLsbD_xor, one_bit32 v i hi]
  by_cases e : i = v <;> simp [e]
theorem mg_bit (c : Cb) (v i : Nat) (hi : i < 32) : (mgC c v).1.getLsbD i = (c.1.getLsbD i && decide (i ≠ v)) ∧ (mgC c v).2.getLsbD i = (c.2.getLsbD i && decide (i ≠ v)) := by
  unfold mgC
  simp only [BitVec.getLsbD_and, BitVec.getLsbD_not, one_bit32 v i hi, hi, decide_true, Bool.true_and]
  by_cases e : i = v <;> simp [e]
theorem bit_lt {x : BitVec 32} {i : Nat} (h : x.getLsbD i = true) : i < 32 := BitVec.lt_of_getLsbD h
/-- what a cube covers, the merged one covers -/
theorem cov_mg {c : Cb} {s : BitVec 32} (v : Nat) (h : covB c s = true) : covB (mgC c v) s = true := by
  rw [covB_iff] at h ⊢
  refine ⟨fun i hi => ?_, fun i hi => ?_⟩
  · rw [(mg_bit c v i (bit_lt hi)).1, Bool.and_eq_true] at hi
    exact h.1 i hi.1
  · rw [(mg_bit c v i (bit_lt hi)).2, Bool.and_eq_true] at hi
    exact h.2 i hi.1
/-- no variable both in and out -/
def ApartC (c : Cb) : Prop := ∀ i, c.1.getLsbD i = true → c.2.getLsbD i = false
theorem cov_split {c : Cb} {s : BitVec 32} {v : Nat} (hv : v < 32) (ha : ApartC c) (hf : fixB c v = true) (h : covB (mgC c v) s = true) : covB c s = true ∨ covB (nbC c v) s = true := by
  rw [covB_iff] at h
  have k1 : ∀ i, i ≠ v → c.1.getLsbD i = true → s.getLsbD i = true := fun i hi hc => h.1 i (by rw [(mg_bit c v i (bit_lt hc)).1, hc]; simpa using hi)
  have k2 : ∀ i, i ≠ v → c.2.getLsbD i = true → s.getLsbD i = false := fun i hi hc => h.2 i (by rw [(mg_bit c v i (bit_lt hc)).2, hc]; simpa using hi)
  have n1 : ∀ i, i ≠ v → (nbC c v).1.getLsbD i = true → c.1.getLsbD i = true := fun i hi hc => by rw [(nb_bit c v i (bit_lt hc)).1, if_neg hi] at hc; exact hc
  have n2 : ∀ i, i ≠ v → (nbC c v).2.getLsbD i = true → c.2.getLsbD i = true := fun i hi hc => by rw [(nb_bit c v i (bit_lt hc)).2, if_neg hi] at hc; exact hc
  have b1 := (nb_bit c v v hv).1
  have b2 := (nb_bit c v v hv).2
  rw [if_pos rfl] at b1 b2
  unfold fixB at hf
  rw [BitVec.getLsbD_or, Bool.or_eq_true] at hf
  -- does s hold v where c wants it in?
  have key : (c.1.getLsbD v = s.getLsbD v ∧ c.2.getLsbD v = !s.getLsbD v) ∨ ((!c.1.getLsbD v) = s.getLsbD v ∧ (!c.2.getLsbD v) = !s.getLsbD v) := by
    have hap := ha v
    revert hf hap
    cases c.1.getLsbD v <;> cases c.2.getLsbD v <;> cases s.getLsbD v <;> simp
  rcases key with ⟨e1, e2⟩ | ⟨e1, e2⟩
  · left
    rw [covB_iff]
    refine ⟨fun i hi => ?_, fun i hi => ?_⟩
    · by_cases e : i = v
      · subst e; rw [← e1]; exact hi
      · exact k1 i e hi
    · by_cases e : i = v
      · subst e; rw [hi] at e2; simpa using e2.symm
      · exact k2 i e hi
  · right
    rw [covB_iff]
    refine ⟨fun i hi => ?_, fun i hi => ?_⟩
    · by_cases e : i = v
      · subst e; rw [b1] at hi; rw [← e1]; exact hi
      · exact k1 i e (n1 i e hi)
    · by_cases e : i = v
      · subst e; rw [b2] at hi; rw [hi] at e2; simpa using e2.symm
      · exact k2 i e (n2 i e hi)
/-- a cube of n variables with d of them fixed -/
def ShC (n d : Nat) (c : Cb) : Prop := ApartC c ∧ (∀ i, fixB c i = true → i < n) ∧ ((List.range n).filter (fixB c)).length = d
theorem fix_mg (c : Cb) (v i : Nat) : fixB (mgC c v) i = (fixB c i && decide (i ≠ v)) := by
  by_cases hi : i < 32
  · unfold fixB
    rw [BitVec.getLsbD_or, BitVec.getLsbD_or, (mg_bit c v i hi).1, (mg_bit c v i hi).2]
    cases c.1.getLsbD i <;> cases c.2.getLsbD i <;> simp
  · unfold fixB
    rw [BitVec.getLsbD_of_ge _ _ (by omega), BitVec.getLsbD_of_ge _ _ (by omega)]
    rfl
theorem filter_less {α : Type} (p q : α → Bool) (l : List α) (h : ∀ x ∈ l, q x = true → p x = true) : (l.filter q).length ≤ (l.filter p).length := by
  induction l with
  | nil => simp
  | cons a l ih =>
    have ih := ih (fun x hx => h x (List.mem_cons_of_mem _ hx))
    have ha := h a (List.mem_cons_self ..)
    cases hq : q a <;> cases hp : p a
    · simp [List.filter, hq, hp]; exact ih
    · simp [List.filter, hq, hp]; omega
    · rw [ha hq] at hp; cases hp
    · simp [List.filter, hq, hp]; exact ih
theorem filter_one (p : Nat → Bool) (v : Nat) (hp : p v = true) : ∀ n, ((List.range n).filter p).length = ((List.range n).filter fun i => p i && decide (i ≠ v)).length + (if v < n then 1 else 0) := by
  intro n
  induction n with
  | zero => rfl
  | succ n ih =>
    rw [List.range_succ, List.filter_append, List.filter_append, List.length_append, List.length_append, ih]
    by_cases e : n = v
    · subst e
      simp [hp]
    · cases hpn : p n
      · simp [hpn]
        split <;> split <;> omega
      · simp [hpn, e]
        split <;> split <;> omega
theorem ShC.mg {n d : Nat} {c : Cb} {v : Nat} (h : ShC n d c) (hv : v < n) (hf : fixB c v = true) : 1 ≤ d ∧ ShC n (d - 1) (mgC c v) := by
  obtain ⟨h1, h2, h3⟩ := h
  have h4 := filter_one (fixB c) v hf n
  rw [if_pos hv, h3] at h4
  refine ⟨by omega, fun i hi => ?_, fun i hi => ?_, ?_⟩
  · rw [(mg_bit c v i (bit_lt hi)).1, Bool.and_eq_true] at hi
    rw [(mg_bit c v i (bit_lt hi.1)).2, h1 i hi.1]
    rfl
  · rw [fix_mg, Bool.and_eq_true] at hi
    exact h2 i hi.1
  · have : (List.range n).filter (fixB (mgC c v)) = (List.range n).filter fun i => fixB c i && decide (i ≠ v) := by
      congr 1
      funext i
      exact fix_mg c v i
    rw [this]
    omega
end Go.Proofs.Ytjliabifaohfjaa
