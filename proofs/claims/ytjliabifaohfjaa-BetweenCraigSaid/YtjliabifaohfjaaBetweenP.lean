/- What stands between: plain facts on tables, with no program in sight. -/
import Derived.Test.YtjliabifaohfjaaSumsP
import Derived.Test.YtjliabifaohfjaaWordP
namespace Go.Proofs.Ytjliabifaohfjaa
open Go Go.RowKit

/-- a variable is forgotten -/
def passL (v : Nat) (g : Nat → Bool) (s : Nat) : Bool := g s || g (s ^^^ 2 ^ v)
def leastN (f : Nat → Bool) (keep : Nat → Bool) : Nat → Nat → Bool
  | 0 => f
  | i + 1 => if keep i then leastN f keep i else passL i (leastN f keep i)
def AgreeN (keep : Nat → Bool) (i s t : Nat) : Prop := ∀ b, keep b = true ∨ i ≤ b → t.testBit b = s.testBit b
theorem testBit_flip (s i b : Nat) : (s ^^^ 2 ^ i).testBit b = if b = i then !s.testBit b else s.testBit b := by
  rw [Nat.testBit_xor, Nat.testBit_two_pow]
  by_cases h : b = i
  · subst h
    simp
  · have : ¬ i = b := fun e => h e.symm
    simp [h, this]
theorem leastN_iff (f : Nat → Bool) (keep : Nat → Bool) : ∀ i s, leastN f keep i s = true ↔ ∃ t, AgreeN keep i s t ∧ f t = true := by
  intro i
  induction i with
  | zero =>
    intro s
    constructor
    · intro h
      exact ⟨s, fun _ _ => rfl, h⟩
    · rintro ⟨t, h1, h2⟩
      have : t = s := Nat.eq_of_testBit_eq fun b => h1 b (.inr (Nat.zero_le b))
      rw [← this]
      exact h2
  | succ i ih =>
    intro s
    show (if keep i then leastN f keep i else passL i (leastN f keep i)) s = true ↔ _
    cases hk : keep i
    · show (leastN f keep i s || leastN f keep i (s ^^^ 2 ^ i)) = true ↔ _
      rw [Bool.or_eq_true, ih, ih]
      constructor
      · rintro (⟨t, h1, h2⟩ | ⟨t, h1, h2⟩)
        · exact ⟨t, fun b hb => h1 b (hb.imp id (by omega)), h2⟩
        · refine ⟨t, fun b hb => ?_, h2⟩
          have := h1 b (hb.imp id (by omega))
          rw [testBit_flip] at this
          have hne : b ≠ i := by
            rintro rfl
            rcases hb with hb | hb
            · rw [hk] at hb; cases hb
            · omega
          rw [if_neg hne] at this
          exact this
      · rintro ⟨t, h1, h2⟩
        by_cases e : t.testBit i = s.testBit i
        · refine .inl ⟨t, fun b hb => ?_, h2⟩
          by_cases hbi : b = i
          · subst hbi; exact e
          · exact h1 b (hb.imp id (by omega))
        · refine .inr ⟨t, fun b hb => ?_, h2⟩
          rw [testBit_flip]
          by_cases hbi : b = i
          · subst hbi
            rw [if_pos rfl]
            cases h3 : t.testBit b <;> cases h4 : s.testBit b <;> simp_all
          · rw [if_neg hbi]
            exact h1 b (hb.imp id (by omega))
    · show leastN f keep i s = true ↔ _
      rw [ih]
      constructor
      · rintro ⟨t, h1, h2⟩
        exact ⟨t, fun b hb => h1 b (hb.imp id (by omega)), h2⟩
      · rintro ⟨t, h1, h2⟩
        refine ⟨t, fun b hb => ?_, h2⟩
        by_cases hbi : b = i
        · subst hbi; exact h1 b (.inl hk)
        · exact h1 b (hb.imp id (by omega))
/-- in the midst of a pass -/
def lowB (v s : Nat) : Nat := if s.testBit v then s ^^^ 2 ^ v else s
def midL (v : Nat) (g : Nat → Bool) (k s : Nat) : Bool := if lowB v s < k then passL v g s else g s
theorem flip_flip (s v : Nat) : (s ^^^ 2 ^ v) ^^^ 2 ^ v = s := by
  apply Nat.eq_of_testBit_eq
  intro b
  rw [testBit_flip, testBit_flip]
  by_cases h : b = v
  · simp [h]
  · simp [h]
theorem lowB_bit (v s : Nat) : (lowB v s).testBit v = false := by
  unfold lowB
  split
  · rename_i h
    rw [testBit_flip, if_pos rfl, h]
    rfl
  · rename_i h
    simpa using h
theorem lowB_flip (v s : Nat) : lowB v (s ^^^ 2 ^ v) = lowB v s := by
  unfold lowB
  rw [testBit_flip, if_pos rfl]
  cases h : s.testBit v
  · simp [flip_flip]
  · simp
theorem lowB_self {v s : Nat} (h : s.testBit v = false) : lowB v s = s := by unfold lowB; rw [h]; rfl
theorem midL_zero (v : Nat) (g : Nat → Bool) : midL v g 0 = g := by
  funext s
  unfold midL
  rw [if_neg (Nat.not_lt_zero _)]
theorem midL_skip {v k : Nat} (g : Nat → Bool) (h : k.testBit v = true) : midL v g (k + 1) = midL v g k := by
  funext s
  unfold midL
  have : lowB v s ≠ k := by
    intro e
    have := lowB_bit v s
    rw [e, h] at this
    cases this
  by_cases h2 : lowB v s < k
  · rw [if_pos h2, if_pos (by omega)]
  · rw [if_neg h2, if_neg (by omega)]
theorem midL_at {v k : Nat} (g : Nat → Bool) (h : k.testBit v = false) : midL v g k k = g k ∧ midL v g k (k ^^^ 2 ^ v) = g (k ^^^ 2 ^ v) := by
  unfold midL
  rw [lowB_flip, lowB_self h, if_neg (Nat.lt_irrefl k), if_neg (Nat.lt_irrefl k)]
  exact ⟨rfl, rfl⟩
theorem passL_flip (v : Nat) (g : Nat → Bool) (s : Nat) : passL v g (s ^^^ 2 ^ v) = passL v g s := by
  unfold passL
  rw [flip_flip, Bool.or_comm]
theorem midL_next {v k : Nat} (g : Nat → Bool) (h : k.testBit v = false) (s : Nat) : midL v g (k + 1) s = if s = k ∨ s = k ^^^ 2 ^ v then passL v g k else midL v g k s := by
  by_cases e : s = k ∨ s = k ^^^ 2 ^ v
  · rw [if_pos e]
    unfold midL
    rcases e with rfl | rfl
    · rw [lowB_self h, if_pos (Nat.lt_succ_self _)]
    · rw [lowB_flip, lowB_self h, if_pos (Nat.lt_succ_self _), passL_flip]
  · rw [if_neg e]
    unfold midL
    have : lowB v s ≠ k := by
      intro e2
      apply e
      unfold lowB at e2
      split at e2
      · right; rw [← e2, flip_flip]
      · left; exact e2
    by_cases h2 : lowB v s < k
    · rw [if_pos h2, if_pos (by omega)]
    · rw [if_neg h2, if_neg (by omega)]
theorem midL_done {v n : Nat} (g : Nat → Bool) {s : Nat} (hs : s < n) : midL v g n s = passL v g s := by
  unfold midL
  have : lowB v s ≤ s := by
    unfold lowB
    split
    · rename_i h
      have h2 : (s ^^^ 2 ^ v) ||| s = s := by
        apply Nat.eq_of_testBit_eq
        intro b
        rw [Nat.testBit_or, testBit_flip]
        by_cases hb : b = v
        · subst hb; simp [h]
        · simp [hb]
      have := @Nat.left_le_or (s ^^^ 2 ^ v) s
      rw [h2] at this
      exact this
    · exact Nat.le_refl _
  rw [if_pos (by omega)]
theorem or_flip {k v : Nat} (h : k.testBit v = false) : k ||| 2 ^ v = k ^^^ 2 ^ v := by
  apply Nat.eq_of_testBit_eq
  intro b
  rw [testBit_flip, Nat.testBit_or, Nat.testBit_two_pow]
  by_cases hb : b = v
  · subst hb; simp [h]
  · have : ¬ v = b := fun e => hb e.symm
    simp [hb, this]
def keepB (keep : BitVec 32) (i : Nat) : Bool := keep.getLsbD i
def leastL (n : Nat) (f : List Bool) (keep : BitVec 32) : List Bool := (List.range f.length).map (leastN (bat f) (keepB keep) n)
theorem leastL_length (n : Nat) (f : List Bool) (keep : BitVec 32) : (leastL n f keep).length = f.length := by simp [leastL]
theorem bat_leastL {n : Nat} {f : List Bool} {keep : BitVec 32} {s : Nat} (h : s < f.length) : bat (leastL n f keep) s = leastN (bat f) (keepB keep) n s := bat_map_range _ _ _ h
theorem agree_lt {n s t : Nat} {keep : Nat → Bool} (hs : s < 2 ^ n) (h : AgreeN keep n s t) : t < 2 ^ n := by
  apply Nat.lt_pow_two_of_testBit
  intro b hb
  rw [h b (.inr hb)]
  exact Nat.testBit_lt_two_pow (Nat.lt_of_lt_of_le hs (Nat.pow_le_pow_right (by omega) hb))
theorem leastL_iff {n : Nat} {f : List Bool} {keep : BitVec 32} {s : Nat} (hl : f.length = 2 ^ n) (h : s < 2 ^ n) : bat (leastL n f keep) s = true ↔ ∃ t, t < 2 ^ n ∧ AgreeN (keepB keep) n s t ∧ bat f t = true := by
  rw [bat_leastL (by rw [hl]; exact h), leastN_iff]
  constructor
  · rintro ⟨t, h1, h2⟩
    exact ⟨t, agree_lt h h1, h1, h2⟩
  · rintro ⟨t, _, h1, h2⟩
    exact ⟨t, h1, h2⟩
theorem leastL_ext {n : Nat} {f : List Bool} {keep : BitVec 32} {s : Nat} (hl : f.length = 2 ^ n) (h : s < 2 ^ n) (hf : bat f s = true) : bat (leastL n f keep) s = true := (leastL_iff hl h).2 ⟨s, h, fun _ _ => rfl, hf⟩
def notL (f : List Bool) : List Bool := (List.range f.length).map fun s => !bat f s
theorem notL_length (f : List Bool) : (notL f).length = f.length := by simp [notL]
theorem bat_notL {f : List Bool} {s : Nat} (h : s < f.length) : bat (notL f) s = !bat f s := bat_map_range _ _ _ h
def mostL (n : Nat) (f : List Bool) (keep : BitVec 32) : List Bool := notL (leastL n (notL f) keep)
theorem mostL_length (n : Nat) (f : List Bool) (keep : BitVec 32) : (mostL n f keep).length = f.length := by unfold mostL; rw [notL_length, leastL_length, notL_length]
theorem bat_mostL {n : Nat} {f : List Bool} {keep : BitVec 32} {s : Nat} (h : s < f.length) : bat (mostL n f keep) s = !bat (leastL n (notL f) keep) s := by
  unfold mostL
  rw [bat_notL (by rw [leastL_length, notL_length]; exact h)]
theorem mostL_sub {n : Nat} {f : List Bool} {keep : BitVec 32} {s : Nat} (hl : f.length = 2 ^ n) (h : s < 2 ^ n) (hb : bat (mostL n f keep) s = true) : bat f s = true := by
  rw [bat_mostL (by rw [hl]; exact h)] at hb
  cases hf : bat f s
  · have : bat (leastL n (notL f) keep) s = true := leastL_ext (by rw [notL_length]; exact hl) h (by rw [bat_notL (by rw [hl]; exact h), hf]; rfl)
    rw [this] at hb
    cases hb
  · rfl
/-- does one follow from another one, in the first k? -/
def folTo (f g : List Bool) (k : Nat) : Bool := (List.range k).all fun s => !bat f s || bat g s
theorem folTo_iff {f g : List Bool} {k : Nat} : folTo f g k = true ↔ ∀ s, s < k → bat f s = true → bat g s = true := by
  unfold folTo
  rw [List.all_eq_true]
  constructor
  · intro h s hs hf
    have := h s (List.mem_range.2 hs)
    rw [hf] at this
    simpa using this
  · intro h s hs
    cases hf : bat f s
    · rfl
    · rw [h s (List.mem_range.1 hs) hf]; rfl
theorem sub_word {n v : Nat} (hn : n < 32) (hv : v < n) : (1#32 <<< n - 1#32) - 1#32 <<< v = (1#32 <<< n - 1#32) &&& ~~~(1#32 <<< v) := by
  have h1 : ((1#32 <<< n - 1#32) &&& ~~~(1#32 <<< v)) + 1#32 <<< v = 1#32 <<< n - 1#32 := by
    rw [BitVec.add_eq_or_of_and_eq_zero]
    · apply BitVec.eq_of_getLsbD_eq
      intro i hi
      rw [BitVec.getLsbD_or, BitVec.getLsbD_and, BitVec.getLsbD_not, full_bit n i hn, getLsbD_bit]
      by_cases e : v = i
      · subst e; simp [hv, hi]
      · simp [e, hi]
    · apply BitVec.eq_of_getLsbD_eq
      intro i hi
      rw [BitVec.getLsbD_and, BitVec.getLsbD_and, BitVec.getLsbD_not, getLsbD_bit]
      by_cases e : v = i
      · subst e; simp [hi]
      · simp [e]
  generalize (1#32 <<< n - 1#32) &&& ~~~(1#32 <<< v) = x at h1
  rw [← h1, BitVec.add_sub_cancel]
theorem keep_but {n v : Nat} (hn : n < 32) (hv : v < n) (i : Nat) (hi : i < n) : keepB ((1#32 <<< n - 1#32) - 1#32 <<< v) i = (i != v) := by
  unfold keepB
  rw [sub_word hn hv, BitVec.getLsbD_and, BitVec.getLsbD_not, full_bit n i hn, getLsbD_bit]
  have : i < 32 := by omega
  by_cases e : v = i
  · subst e; simp [hi, this]
  · have e' : ¬ i = v := fun h => e h.symm
    simp [hi, this, e, e']
theorem least_but {f : Nat → Bool} {keep : Nat → Bool} {v : Nat} : ∀ n, (∀ i, i < n → keep i = (i != v)) → leastN f keep n = if v < n then passL v f else f := by
  intro n
  induction n with
  | zero => intro _; rfl
  | succ n ih =>
    intro h
    show (if keep n then leastN f keep n else passL n (leastN f keep n)) = _
    rw [ih (fun i hi => h i (by omega)), h n (by omega)]
    by_cases e : n = v
    · subst e
      simp
    · have h1 : (n != v) = true := by simpa using e
      rw [h1, if_pos rfl]
      by_cases h2 : v < n
      · rw [if_pos h2, if_pos (by omega)]
      · rw [if_neg h2, if_neg (by omega)]
end Go.Proofs.Ytjliabifaohfjaa
