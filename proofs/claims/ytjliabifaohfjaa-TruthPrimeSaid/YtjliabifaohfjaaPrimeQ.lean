/- Prime implicants: where they begin, and what a round does. Plain laws. -/
import Derived.Test.YtjliabifaohfjaaPrimeP
namespace Go.Proofs.Ytjliabifaohfjaa
open Go
set_option linter.unusedVariables false

def iniC (n k : Nat) : Cb := (BitVec.ofNat 32 k, BitVec.ofNat 32 (2 ^ n - (k + 1)))
theorem ini_bit {n k : Nat} (hk : k < 2 ^ n) (i : Nat) (hi : i < 32) : (iniC n k).1.getLsbD i = k.testBit i ∧ (iniC n k).2.getLsbD i = (decide (i < n) && !k.testBit i) := by
  unfold iniC
  simp only [BitVec.getLsbD_ofNat, hi, decide_true, Bool.true_and]
  exact ⟨trivial, Nat.testBit_two_pow_sub_succ hk i⟩
theorem testBit_high {n k i : Nat} (hk : k < 2 ^ n) (hi : n ≤ i) : k.testBit i = false := Nat.testBit_lt_two_pow (Nat.lt_of_lt_of_le hk (Nat.pow_le_pow_right (by omega) hi))
theorem ini_sh {n k : Nat} (hn : n ≤ 4) (hk : k < 2 ^ n) : ShC n n (iniC n k) := by
  have hfix : ∀ i, i < 32 → fixB (iniC n k) i = decide (i < n) := by
    intro i hi
    unfold fixB
    obtain ⟨a, b⟩ := ini_bit hk i hi
    rw [BitVec.getLsbD_or, a, b]
    by_cases h : i < n
    · simp [h]
    · rw [testBit_high hk (by omega)]
      simp [h]
  refine ⟨fun i hi => ?_, fun i hi => ?_, ?_⟩
  · obtain ⟨a, b⟩ := ini_bit hk i (bit_lt hi)
    rw [a] at hi
    rw [b, hi]
    simp
  · by_cases h : i < 32
    · rw [hfix i h] at hi
      simpa using hi
    · unfold fixB at hi
      rw [BitVec.getLsbD_of_ge _ _ (by omega)] at hi
      cases hi
  · have : (List.range n).filter (fixB (iniC n k)) = List.range n := by
      rw [List.filter_eq_self]
      intro i hi
      have hi := List.mem_range.1 hi
      rw [hfix i (by omega)]
      simpa using hi
    rw [this, List.length_range]
theorem ini_cov {n k s : Nat} (hn : n ≤ 4) (hk : k < 2 ^ n) (hs : s < 2 ^ n) : covB (iniC n k) (BitVec.ofNat 32 s) = true ↔ k = s := by
  rw [covB_iff]
  have hsb : ∀ i, i < 32 → (BitVec.ofNat 32 s).getLsbD i = s.testBit i := fun i hi => by rw [BitVec.getLsbD_ofNat, decide_eq_true hi, Bool.true_and]
  constructor
  · rintro ⟨h1, h2⟩
    apply Nat.eq_of_testBit_eq
    intro i
    by_cases hi : i < n
    · obtain ⟨a, b⟩ := ini_bit hk i (by omega)
      cases hkb : k.testBit i
      · have := h2 i (by rw [b, hkb]; simpa using hi)
        rw [hsb i (by omega)] at this
        exact this.symm
      · have := h1 i (by rw [a, hkb])
        rw [hsb i (by omega)] at this
        exact this.symm
    · rw [testBit_high hk (by omega), testBit_high hs (by omega)]
  · rintro rfl
    refine ⟨fun i hi => ?_, fun i hi => ?_⟩
    · rw [hsb i (bit_lt hi), ← (ini_bit hk i (bit_lt hi)).1]
      exact hi
    · have := (ini_bit hk i (bit_lt hi)).2
      have hlt := bit_lt hi
      rw [this, Bool.and_eq_true] at hi
      rw [hsb i hlt]
      simpa using hi.2
/-! ### rounds -/
/-- all that some cubes cover is told -/
def SndC (N : Nat) (f : Nat → Bool) (l : List Cb) : Prop := ∀ c ∈ l, ∀ s, s < N → covB c (BitVec.ofNat 32 s) = true → f s = true
/-- all that is told is covered -/
def CmpC (N : Nat) (f : Nat → Bool) (l : List Cb) : Prop := ∀ s, s < N → f s = true → ∃ c ∈ l, covB c (BitVec.ofNat 32 s) = true
theorem SndC.nil (N : Nat) (f : Nat → Bool) : SndC N f [] := fun c hc => by cases hc
theorem SndC.app {N : Nat} {f : Nat → Bool} {a b : List Cb} (h : SndC N f a) (k : SndC N f b) : SndC N f (a ++ b) := fun c hc => by
  rcases List.mem_append.1 hc with hc | hc
  · exact h c hc
  · exact k c hc
theorem SndC.one {N : Nat} {f : Nat → Bool} {a : List Cb} (h : SndC N f a) {c : Cb} (hc : c ∈ a) : SndC N f [c] := fun x hx => by
  rw [List.mem_singleton] at hx
  subst hx
  exact h x hc
/-- a merged cube tells no more -/
theorem SndC.mg {N n d : Nat} {f : Nat → Bool} {lev : List Cb} (h : SndC N f lev) {c : Cb} {v : Nat} (hv : v < 32) (hs : ShC n d c) (hc : c ∈ lev) (hf : fixB c v = true) (hn : nbC c v ∈ lev) : SndC N f [mgC c v] := fun x hx => by
  rw [List.mem_singleton] at hx
  subst hx
  intro s hs1 hcov
  rcases cov_split hv hs.1 hf hcov with e | e
  · exact h c hc s hs1 e
  · exact h _ hn s hs1 e
/-- one cube is through: it is prime, or a merged one covers it -/
theorem CmpC.step {N : Nat} {f : Nat → Bool} {P L X : List Cb} {c : Cb} (h : CmpC N f (P ++ (c :: L) ++ X)) {P' X' : List Cb} (hP : ∀ x ∈ P, x ∈ P') (hX : ∀ x ∈ X, x ∈ X') (hc : c ∈ P' ∨ ∃ y ∈ X', ∀ s, covB c s = true → covB y s = true) : CmpC N f (P' ++ L ++ X') := by
  intro s hs hfs
  obtain ⟨x, hx, hcov⟩ := h s hs hfs
  rcases List.mem_append.1 hx with hx | hx
  · rcases List.mem_append.1 hx with hx | hx
    · exact ⟨x, by simp [hP x hx], hcov⟩
    · rcases List.mem_cons.1 hx with rfl | hx
      · rcases hc with hc | ⟨y, hy, hyc⟩
        · exact ⟨x, by simp [hc], hcov⟩
        · exact ⟨y, by simp [hy], hyc _ hcov⟩
      · exact ⟨x, by simp [hx], hcov⟩
  · exact ⟨x, by simp [hX x hx], hcov⟩
end Go.Proofs.Ytjliabifaohfjaa
