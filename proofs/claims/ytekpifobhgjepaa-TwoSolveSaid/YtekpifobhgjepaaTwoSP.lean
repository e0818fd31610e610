/- Clauses of two: from the greatest variable on, what may be; plain laws. -/
import Derived.Test.YtekpifobhgjepaaTwoP
namespace Go.Proofs.Ytekpifobhgjepaa
open Go
set_option linter.unusedVariables false

/-! ### counting bits -/
theorem half_xor (x i : Nat) : (x ^^^ 2 ^ (i + 1)) / 2 = x / 2 ^^^ 2 ^ i := by
  apply Nat.eq_of_testBit_eq
  intro j
  rw [Nat.testBit_div_two, Nat.testBit_xor, Nat.testBit_xor, Nat.testBit_div_two, Nat.testBit_two_pow, Nat.testBit_two_pow]
  congr 1
  simp
theorem mod_of_bit {x y : Nat} (h : x.testBit 0 = y.testBit 0) : x % 2 = y % 2 := by
  rw [Nat.testBit_zero, Nat.testBit_zero] at h
  have h2 : (x % 2 = 1) ↔ (y % 2 = 1) := by simpa using h
  omega
theorem pop_off : ∀ (f x i : Nat), i < f → x.testBit i = true → Lib.popAux f x = 1 + Lib.popAux f (x ^^^ 2 ^ i) := by
  intro f
  induction f with
  | zero => intro x i h; omega
  | succ f ih =>
    intro x i hi hb
    show x % 2 + Lib.popAux f (x / 2) = 1 + ((x ^^^ 2 ^ i) % 2 + Lib.popAux f ((x ^^^ 2 ^ i) / 2))
    cases i with
    | zero =>
      have h1 : x % 2 = 1 := by rw [Nat.testBit_zero] at hb; simpa using hb
      have h2 : (x ^^^ 2 ^ 0) % 2 = 0 := by
        have h3 : (x ^^^ 2 ^ 0).testBit 0 = false := by rw [Nat.testBit_xor, hb, Nat.testBit_two_pow_self]; rfl
        rw [Nat.testBit_zero] at h3
        have := of_decide_eq_false h3
        omega
      have h4 : (x ^^^ 2 ^ 0) / 2 = x / 2 := by
        apply Nat.eq_of_testBit_eq
        intro j
        rw [Nat.testBit_div_two, Nat.testBit_div_two, Nat.testBit_xor, Nat.testBit_two_pow]
        simp
      rw [h1, h2, h4]
      omega
    | succ i =>
      have h1 : (x ^^^ 2 ^ (i + 1)) % 2 = x % 2 := mod_of_bit (by rw [Nat.testBit_xor, Nat.testBit_two_pow]; simp)
      rw [h1, half_xor, ih (x / 2) i (by omega) (by rw [Nat.testBit_div_two]; exact hb)]
      omega
def offW (x : BitVec 32) (i : Nat) : BitVec 32 := x ^^^ (1#32 <<< i)
theorem offW_bit {x : BitVec 32} {i j : Nat} (hi : i < 32) : (offW x i).getLsbD j = if i = j then !x.getLsbD j else x.getLsbD j := by
  unfold offW
  rw [BitVec.getLsbD_xor, getLsbD_bit]
  by_cases e : i = j
  · subst e; simp [hi]
  · simp [e]
theorem cnt_off {x : BitVec 32} {i : Nat} (hx : fitB 12 x = true) (hb : x.getLsbD i = true) : cnt x = 1 + cnt (offW x i) ∧ fitB 12 (offW x i) = true := by
  have hi := fitB_iff.1 hx i hb
  refine ⟨?_, ?_⟩
  · unfold cnt offW Lib.onesCount
    rw [BitVec.toNat_xor, one_shl_toNat i (by omega)]
    exact pop_off 64 x.toNat i (by omega) (by rw [BitVec.getLsbD] at hb; exact hb)
  · rw [fitB_iff]
    intro j hj
    rw [offW_bit (by omega)] at hj
    by_cases e : i = j
    · subst e; exact hi
    · rw [if_neg e] at hj; exact fitB_iff.1 hx j hj
theorem cnt_one {x : BitVec 32} (hx : fitB 12 x = true) (h1 : cnt x = 1) {a b : Nat} (ha : x.getLsbD a = true) (hb : x.getLsbD b = true) : a = b := by
  rcases Classical.em (a = b) with h | h
  · exact h
  exfalso
  obtain ⟨h2, h3⟩ := cnt_off hx ha
  have := fitB_iff.1 hx a ha
  have hb2 : (offW x a).getLsbD b = true := by rw [offW_bit (by omega), if_neg h]; exact hb
  have := (cnt_off h3 hb2).1
  omega
theorem cnt_two {x : BitVec 32} (hx : fitB 12 x = true) (h2 : cnt x ≤ 2) {a b c : Nat} (ha : x.getLsbD a = true) (hb : x.getLsbD b = true) (hc : x.getLsbD c = true) (hab : a ≠ b) (hac : c ≠ a) : c = b := by
  rcases Classical.em (c = b) with h | h
  · exact h
  exfalso
  obtain ⟨h3, h4⟩ := cnt_off hx ha
  have ha12 := fitB_iff.1 hx a ha
  have hb12 := fitB_iff.1 hx b hb
  have hb2 : (offW x a).getLsbD b = true := by rw [offW_bit (by omega), if_neg hab]; exact hb
  have hc2 : (offW x a).getLsbD c = true := by rw [offW_bit (by omega), if_neg (fun e => hac e.symm)]; exact hc
  obtain ⟨h5, h6⟩ := cnt_off h4 hb2
  have hc3 : (offW (offW x a) b).getLsbD c = true := by rw [offW_bit (by omega), if_neg (fun e => h e.symm)]; exact hc2
  have := (cnt_off h6 hc3).1
  omega
theorem cnt_more {x : BitVec 32} (hx : fitB 12 x = true) (h1 : cnt x ≠ 1) {a : Nat} (ha : x.getLsbD a = true) : ∃ b, x.getLsbD b = true ∧ b ≠ a := by
  obtain ⟨h3, h4⟩ := cnt_off hx ha
  have ha12 := fitB_iff.1 hx a ha
  have h0 : Lib.onesCount (offW x a).toNat ≠ 0 := by
    have : cnt (offW x a) ≠ 0 := by omega
    exact this
  obtain ⟨b, hb⟩ := ones_pos h0
  rw [offW_bit (by omega)] at hb
  by_cases e : a = b
  · subst e; rw [if_pos rfl, ha] at hb; cases hb
  · rw [if_neg e] at hb; exact ⟨b, hb, fun h => e h.symm⟩
/-! ### literals -/
section
variable {n : Nat} {rs : List Ru}
/-- whether a literal is so in s -/
def isL (n : Nat) (s : BitVec 32) (a : Nat) : Bool := if a < n then s.getLsbD a else !s.getLsbD (a - n)
theorem isL_neg {s : BitVec 32} {a : Nat} (ha : a < 2 * n) : isL n s (negN n a) = !isL n s a := by
  rw [negN_eq ha]
  unfold isL
  by_cases h : a < n
  · rw [if_pos h, if_neg (by omega), if_pos h]; congr 2; omega
  · rw [if_neg h, if_pos (by omega), if_neg h, Bool.not_not]
theorem lit_bit {r : Ru} {a : Nat} (h6 : n ≤ 6) (hr : fitB n (r.1 ||| r.2) = true) : (litW n r).getLsbD a = true ↔ (a < n ∧ r.1.getLsbD a = true) ∨ (n ≤ a ∧ r.2.getLsbD (a - n) = true) := by
  rw [fitB_or, Bool.and_eq_true] at hr
  unfold litW
  rw [BitVec.getLsbD_or, BitVec.getLsbD_shiftLeft, Bool.or_eq_true]
  constructor
  · rintro (h | h)
    · exact .inl ⟨fitB_iff.1 hr.1 a h, h⟩
    · simp only [Bool.and_eq_true, decide_eq_true_eq, Bool.not_eq_true', decide_eq_false_iff_not] at h
      exact .inr ⟨by omega, h.2⟩
  · rintro (⟨_, h⟩ | ⟨h1, h⟩)
    · exact .inl h
    · right
      have := fitB_iff.1 hr.2 _ h
      have h2 : a < 32 := by omega
      have h3 : ¬ a < n := by omega
      simp [h, h2, h3]
theorem hold_lit {r : Ru} {s : BitVec 32} (h6 : n ≤ 6) (hr : fitB n (r.1 ||| r.2) = true) : holdB s r = true ↔ ∃ a, a < 2 * n ∧ (litW n r).getLsbD a = true ∧ isL n s a = true := by
  have hr0 := hr
  rw [fitB_or, Bool.and_eq_true] at hr
  rw [holdB_iff]
  constructor
  · rintro (⟨i, h1, h2⟩ | ⟨i, h1, h2⟩)
    · have := fitB_iff.1 hr.1 i h1
      exact ⟨i, by omega, (lit_bit h6 hr0).2 (.inl ⟨this, h1⟩), by unfold isL; rw [if_pos this]; exact h2⟩
    · have := fitB_iff.1 hr.2 i h1
      refine ⟨i + n, by omega, (lit_bit h6 hr0).2 (.inr ⟨by omega, by rw [Nat.add_sub_cancel]; exact h1⟩), ?_⟩
      unfold isL
      rw [if_neg (by omega), Nat.add_sub_cancel, h2]; rfl
  · rintro ⟨a, ha, h1, h2⟩
    rcases (lit_bit h6 hr0).1 h1 with ⟨h3, h4⟩ | ⟨h3, h4⟩
    · unfold isL at h2
      rw [if_pos h3] at h2
      exact .inl ⟨a, h4, h2⟩
    · unfold isL at h2
      rw [if_neg (by omega)] at h2
      exact .inr ⟨a - n, h4, by simpa using h2⟩
/-- clauses of one or two -/
def Twos (n : Nat) (rs : List Ru) : Prop := n ≤ 6 ∧ (∀ r ∈ rs, fitB n (r.1 ||| r.2) = true) ∧ ∀ r ∈ rs, oddB n r = false
def Mod (n : Nat) (rs : List Ru) (s : BitVec 32) : Prop := fitB n s = true ∧ ∀ r ∈ rs, holdB s r = true
theorem lit12 {r : Ru} (h6 : n ≤ 6) (hr : fitB n (r.1 ||| r.2) = true) : fitB 12 (litW n r) = true := fitB_iff.2 fun i hi => by have := fitB_iff.1 (litW_fit h6 hr) i hi; omega
theorem Mod.edge (ht : Twos n rs) {s : BitVec 32} (hs : Mod n rs s) {a b : Nat} (ha : a < 2 * n) (hb : b < 2 * n) (he : edgeL n rs a b = true) (h : isL n s a = true) : isL n s b = true := by
  unfold edgeL at he
  rw [Bool.or_eq_true, beq_iff_eq, List.any_eq_true] at he
  rcases he with rfl | ⟨r, hr, he⟩
  · exact h
  have hf := ht.2.1 r hr
  have h12 := lit12 ht.1 hf
  obtain ⟨c, hc, hc1, hc2⟩ := (hold_lit ht.1 hf).1 (hs.2 r hr)
  unfold edgeW at he
  simp only [Bool.and_eq_true, Bool.or_eq_true, bne_iff_ne, beq_iff_eq] at he
  have hodd := ht.2.2 r hr
  unfold oddB at hodd
  rw [Bool.or_eq_false_iff] at hodd
  have hle : cnt (litW n r) ≤ 2 := by have := hodd.2; simp at this; omega
  have hca : c ≠ negN n a := fun e => by rw [e, isL_neg ha, h] at hc2; cases hc2
  rcases he.2.2 with h1 | hne
  · exact absurd (cnt_one h12 h1 hc1 he.1) hca
  · rw [← cnt_two h12 hle he.1 he.2.1 hc1 hne hca]
    exact hc2
/-- reached literals are so -/
theorem Mod.goes (ht : Twos n rs) {s : BitVec 32} (hs : Mod n rs s) {a b : Nat} (ha : a < 2 * n) (hb : b < 2 * n) (he : matE (edgeL n rs) (2 * n) a b = true) (h : isL n s a = true) : isL n s b = true :=
  (matE_goes (fun x _ => edgeL_self n rs x) ha hb).1 he (fun x => isL n s x = true) h fun x y hx hy hxy hS => hs.edge ht hx hy hxy hS
/-! ### choosing -/
def toW (n : Nat) (rs : List Ru) (a : Nat) : BitVec 32 := nth (upE (2 * n) (edgeL n rs)) a
theorem toW_bit (h6 : n ≤ 6) {a : Nat} (ha : a < 2 * n) (b : Nat) : (toW n rs a).getLsbD b = (decide (b < 2 * n) && matE (edgeL n rs) (2 * n) a b) := upE_bit (by omega) ha b
/-- no variable is so and not so -/
def consB (n : Nat) (x : BitVec 32) : Bool := x &&& (1#32 <<< n - 1#32) &&& (x >>> n) == 0#32
theorem consB_iff (h6 : n ≤ 6) {x : BitVec 32} : consB n x = true ↔ ∀ v, v < n → ¬ (x.getLsbD v = true ∧ x.getLsbD (v + n) = true) := by
  unfold consB
  rw [beq_iff_eq]
  constructor
  · intro h v hv ⟨h1, h2⟩
    have := congrArg (fun y : BitVec 32 => y.getLsbD v) h
    simp only [BitVec.getLsbD_and, BitVec.getLsbD_ushiftRight] at this
    rw [h1, full_bit n v (by omega), Nat.add_comm n v, h2] at this
    simp [hv] at this
  · intro h
    apply BitVec.eq_of_getLsbD_eq
    intro v _
    rw [BitVec.getLsbD_and, BitVec.getLsbD_and, BitVec.getLsbD_ushiftRight, full_bit n v (by omega)]
    by_cases hv : v < n
    · have := h v hv
      rw [Nat.add_comm n v]
      cases h1 : x.getLsbD v
      · simp
      · cases h2 : x.getLsbD (v + n)
        · simp
        · exact absurd ⟨h1, h2⟩ this
    · simp [hv]
def pickW (n : Nat) (rs : List Ru) (v : Nat) (so : BitVec 32) : BitVec 32 :=
  if consB n (so ||| toW n rs (v + n)) then so ||| toW n rs (v + n) else if consB n (so ||| toW n rs v) then so ||| toW n rs v else so
/-- behind k variables, from the greatest on -/
def soW (n : Nat) (rs : List Ru) : Nat → BitVec 32
  | 0 => 0#32
  | k + 1 => pickW n rs (n - 1 - k) (soW n rs k)
structure SInv (n : Nat) (rs : List Ru) (k : Nat) (so : BitVec 32) : Prop where
  fit : fitB (2 * n) so = true
  shut : ∀ a b, a < 2 * n → b < 2 * n → so.getLsbD a = true → matE (edgeL n rs) (2 * n) a b = true → so.getLsbD b = true
  cons : ∀ v, v < n → ¬ (so.getLsbD v = true ∧ so.getLsbD (v + n) = true)
  full : ∀ v, n - k ≤ v → v < n → so.getLsbD v = true ∨ so.getLsbD (v + n) = true
  best : ∀ s, Mod n rs s → (∀ a, a < 2 * n → so.getLsbD a = true → isL n s a = true) ∨ ∃ t, n - k ≤ t ∧ t < n ∧ s.getLsbD t = true ∧ so.getLsbD t = false ∧ ∀ v, t < v → v < n → s.getLsbD v = so.getLsbD v
/-- the variable that is equal to what is not so of it -/
def Stuck (n : Nat) (rs : List Ru) (v : Nat) : Prop := matE (edgeL n rs) (2 * n) v (v + n) = true ∧ matE (edgeL n rs) (2 * n) (v + n) v = true
theorem R_trans {a b c : Nat} (ha : a < 2 * n) (hb : b < 2 * n) (hc : c < 2 * n) (h1 : matE (edgeL n rs) (2 * n) a b = true) (h2 : matE (edgeL n rs) (2 * n) b c = true) : matE (edgeL n rs) (2 * n) a c = true :=
  (matE_goes (fun x _ => edgeL_self n rs x) ha hc).2 (((matE_goes (fun x _ => edgeL_self n rs x) ha hb).1 h1).trans ((matE_goes (fun x _ => edgeL_self n rs x) hb hc).1 h2))
theorem SInv.start (h6 : n ≤ 6) : SInv n rs 0 0#32 := by
  refine ⟨fitB_zero _, fun a b _ _ h => by simp at h, fun v _ h => by simp at h, fun v h1 h2 => by omega, fun s _ => .inl fun a _ h => by simp at h⟩
/-- what the choice keeps -/
theorem SInv.next (h6 : n ≤ 6) {k : Nat} {so x : BitVec 32} {i v : Nat} (h : SInv n rs k so) (hk : k < n) (hv : v = n - 1 - k) (hi : i < 2 * n) (hiv : i = v ∨ i = v + n) (hx : x = so ||| toW n rs i) (hc : consB n x = true) (hb : ∀ s, Mod n rs s → (∀ a, a < 2 * n → so.getLsbD a = true → isL n s a = true) → isL n s i = true ∨ (i = v + n ∧ s.getLsbD v = true)) (ht : Twos n rs) : SInv n rs (k + 1) x := by
  have hxb : ∀ b, x.getLsbD b = true ↔ so.getLsbD b = true ∨ (b < 2 * n ∧ matE (edgeL n rs) (2 * n) i b = true) := by
    intro b
    rw [hx, BitVec.getLsbD_or, toW_bit h6 hi, Bool.or_eq_true, Bool.and_eq_true, decide_eq_true_eq]
  have hcons := (consB_iff h6).1 hc
  have hxi : x.getLsbD i = true := (hxb i).2 (.inr ⟨hi, two_self rs hi⟩)
  have hkeep : ∀ t, n - k ≤ t → t < n → x.getLsbD t = so.getLsbD t := by
    intro t h1 h2
    cases hs : so.getLsbD t
    · rcases h.full t h1 h2 with h3 | h3
      · rw [hs] at h3; cases h3
      · cases hxt : x.getLsbD t
        · rfl
        · exact absurd ⟨hxt, (hxb _).2 (.inl h3)⟩ (hcons t h2)
    · exact (hxb t).2 (.inl hs)
  refine ⟨?_, ?_, hcons, ?_, ?_⟩
  · rw [fitB_iff]
    intro b hb2
    rcases (hxb b).1 hb2 with h1 | h1
    · exact fitB_iff.1 h.fit b h1
    · exact h1.1
  · intro a b ha hb2 hxa hR
    refine (hxb b).2 ?_
    rcases (hxb a).1 hxa with h1 | h1
    · exact .inl (h.shut a b ha hb2 h1 hR)
    · exact .inr ⟨hb2, R_trans hi ha hb2 h1.2 hR⟩
  · intro t h1 h2
    by_cases e : t = v
    · subst e
      rcases hiv with e2 | e2
      · rw [e2] at hxi; exact .inl hxi
      · rw [e2] at hxi; exact .inr hxi
    · rcases h.full t (by omega) h2 with h3 | h3
      · exact .inl ((hxb _).2 (.inl h3))
      · exact .inr ((hxb _).2 (.inl h3))
  · intro s hs
    rcases h.best s hs with h1 | ⟨t, h1, h2, h3, h4, h5⟩
    · rcases hb s hs h1 with h2 | ⟨h2, h3⟩
      · left
        intro a ha hxa
        rcases (hxb a).1 hxa with h3 | h3
        · exact h1 a ha h3
        · exact hs.goes ht hi ha h3.2 h2
      · right
        refine ⟨v, by omega, by omega, h3, ?_, fun t h4 h5 => ?_⟩
        · cases hxv : x.getLsbD v
          · rfl
          · rw [h2] at hxi
            exact absurd ⟨hxv, hxi⟩ (hcons v (by omega))
        · rw [hkeep t (by omega) h5]
          rcases h.full t (by omega) h5 with h6' | h6'
          · have := h1 t (by omega) h6'
            unfold isL at this
            rw [if_pos h5] at this
            rw [this, h6']
          · have := h1 (t + n) (by omega) h6'
            unfold isL at this
            rw [if_neg (by omega), Nat.add_sub_cancel] at this
            have h7 : so.getLsbD t = false := by
              cases hst : so.getLsbD t
              · rfl
              · exact absurd ⟨hst, h6'⟩ (h.cons t h5)
            rw [h7]
            simpa using this
    · right
      refine ⟨t, by omega, h2, h3, by rw [hkeep t h1 h2]; exact h4, fun v' h6' h7 => ?_⟩
      rw [hkeep v' (by omega) h7]
      exact h5 v' h6' h7
theorem cons_false (h6 : n ≤ 6) {x : BitVec 32} (h : consB n x = false) : ∃ v, v < n ∧ x.getLsbD v = true ∧ x.getLsbD (v + n) = true := by
  rcases Classical.em (∃ v, v < n ∧ x.getLsbD v = true ∧ x.getLsbD (v + n) = true) with h1 | h1
  · exact h1
  · rw [(consB_iff h6).2 fun v hv h2 => h1 ⟨v, hv, h2⟩] at h
    cases h
/-- a choice that may not be: what is not so of it is so already, or it comes to what is not so of it -/
theorem SInv.clash (h6 : n ≤ 6) {k : Nat} {so : BitVec 32} {i : Nat} (h : SInv n rs k so) (hi : i < 2 * n) (hc : consB n (so ||| toW n rs i) = false) : so.getLsbD (negN n i) = true ∨ matE (edgeL n rs) (2 * n) i (negN n i) = true := by
  obtain ⟨v, hv, h1, h2⟩ := cons_false h6 hc
  have hxb : ∀ b, (so ||| toW n rs i).getLsbD b = true → so.getLsbD b = true ∨ (b < 2 * n ∧ matE (edgeL n rs) (2 * n) i b = true) := by
    intro b hb
    rw [BitVec.getLsbD_or, toW_bit h6 hi, Bool.or_eq_true, Bool.and_eq_true, decide_eq_true_eq] at hb
    exact hb
  have hni := negN_lt hi
  have e1 : negN n v = v + n := by rw [negN_eq (by omega), if_pos hv]
  have e2 : negN n (v + n) = v := by rw [negN_eq (by omega), if_neg (by omega)]; omega
  -- i comes to b, and what is not so of b is so
  have key : ∀ b, b < 2 * n → matE (edgeL n rs) (2 * n) i b = true → so.getLsbD (negN n b) = true → so.getLsbD (negN n i) = true := by
    intro b hb hR hs
    have h3 : matE (edgeL n rs) (2 * n) (negN n b) (negN n i) = true := by rw [← two_turn rs hi hb]; exact hR
    exact h.shut _ _ (negN_lt hb) hni hs h3
  rcases hxb v h1 with a1 | a1
  · rcases hxb (v + n) h2 with b1 | b1
    · exact absurd ⟨a1, b1⟩ (h.cons v hv)
    · left; exact key (v + n) b1.1 b1.2 (by rw [e2]; exact a1)
  · rcases hxb (v + n) h2 with b1 | b1
    · left; exact key v a1.1 a1.2 (by rw [e1]; exact b1)
    · right
      have h3 : matE (edgeL n rs) (2 * n) (negN n (v + n)) (negN n i) = true := by rw [← two_turn rs hi b1.1]; exact b1.2
      rw [e2] at h3
      exact R_trans hi (by omega) hni a1.2 h3
theorem SInv.pick (ht : Twos n rs) (hno : ∀ v, v < n → ¬ Stuck n rs v) {k : Nat} {so : BitVec 32} (h : SInv n rs k so) (hk : k < n) : SInv n rs (k + 1) (pickW n rs (n - 1 - k) so) := by
  have h6 := ht.1
  obtain ⟨v, hv⟩ : ∃ v, v = n - 1 - k := ⟨_, rfl⟩
  rw [← hv]
  unfold pickW
  have e1 : negN n v = v + n := by rw [negN_eq (by omega), if_pos (by omega)]
  have e2 : negN n (v + n) = v := by rw [negN_eq (by omega), if_neg (by omega)]; omega
  cases hc : consB n (so ||| toW n rs (v + n))
  · have hcl := h.clash h6 (show v + n < 2 * n by omega) hc
    rw [e2] at hcl
    have hgo : ∀ b, b < 2 * n → so.getLsbD v = true → (so ||| toW n rs v).getLsbD b = so.getLsbD b := by
      intro b hb hs
      rw [BitVec.getLsbD_or, toW_bit h6 (by omega)]
      cases hsb : so.getLsbD b
      · cases hR : matE (edgeL n rs) (2 * n) v b
        · simp
        · rw [h.shut v b (by omega) hb hs hR] at hsb; cases hsb
      · rfl
    have hc2 : consB n (so ||| toW n rs v) = true := by
      rcases hcl with hcl | hcl
      · exact (consB_iff h6).2 fun u hu hh => by
          rw [hgo u (by omega) hcl, hgo (u + n) (by omega) hcl] at hh
          exact h.cons u hu hh
      · cases hc3 : consB n (so ||| toW n rs v)
        · have hcl2 := h.clash h6 (show v < 2 * n by omega) hc3
          rw [e1] at hcl2
          rcases hcl2 with h1 | h1
          · -- what is not so of v is so already: then the first choice may be
            exfalso
            have : consB n (so ||| toW n rs (v + n)) = true := (consB_iff h6).2 fun u hu hh => by
              have hgo2 : ∀ b, b < 2 * n → (so ||| toW n rs (v + n)).getLsbD b = so.getLsbD b := by
                intro b hb
                rw [BitVec.getLsbD_or, toW_bit h6 (by omega)]
                cases hsb : so.getLsbD b
                · cases hR : matE (edgeL n rs) (2 * n) (v + n) b
                  · simp
                  · rw [h.shut (v + n) b (by omega) hb h1 hR] at hsb; cases hsb
                · rfl
              rw [hgo2 u (by omega), hgo2 (u + n) (by omega)] at hh
              exact h.cons u hu hh
            rw [hc] at this
            cases this
          · exact absurd ⟨h1, hcl⟩ (hno v (by omega))
        · rfl
    simp only [Bool.false_eq_true, if_false, hc2, if_true]
    refine h.next h6 hk hv (by omega) (.inl rfl) rfl hc2 (fun s hs hall => .inl ?_) ht
    -- v is so in s: what is not so of it comes to it, or it was so already
    have hR : isL n s v = true := by
      rcases hcl with h1 | h1
      · exact hall v (by omega) h1
      · cases hsv : isL n s v
        · have h3 : isL n s (v + n) = true := by rw [← e1, isL_neg (by omega), hsv]; rfl
          have := hs.goes ht (by omega) (by omega) h1 h3
          rw [hsv] at this
          cases this
        · rfl
    exact hR
  · simp only [if_true]
    refine h.next h6 hk hv (by omega) (.inr rfl) rfl hc (fun s hs hall => ?_) ht
    cases hsv : s.getLsbD v
    · left
      unfold isL
      rw [if_neg (by omega), Nat.add_sub_cancel, hsv]; rfl
    · exact .inr ⟨rfl, rfl⟩
theorem soW_inv (ht : Twos n rs) (hno : ∀ v, v < n → ¬ Stuck n rs v) : ∀ k, k ≤ n → SInv n rs k (soW n rs k) := by
  intro k
  induction k with
  | zero => intro _; exact SInv.start ht.1
  | succ k ih => intro hk; exact (ih (by omega)).pick ht hno (by omega)
/-- what is found is a least one -/
theorem two_res (ht : Twos n rs) (hno : ∀ v, v < n → ¬ Stuck n rs v) : Res n rs 0#32 0#32 (soW n rs n &&& (1#32 <<< n - 1#32)) true := by
  have h6 := ht.1
  have h := soW_inv ht hno n (Nat.le_refl n)
  generalize soW n rs n = so at h ⊢
  have hbit : ∀ v, v < n → (so &&& (1#32 <<< n - 1#32)).getLsbD v = so.getLsbD v := by
    intro v hv
    rw [BitVec.getLsbD_and, full_bit n v (by omega)]
    simp [hv]
  have hfit : fitB n (so &&& (1#32 <<< n - 1#32)) = true := by
    rw [fitB_iff]
    intro i hi
    rw [BitVec.getLsbD_and, full_bit n i (by omega), Bool.and_eq_true, decide_eq_true_eq] at hi
    exact hi.2
  have hlit : ∀ a, a < 2 * n → isL n (so &&& (1#32 <<< n - 1#32)) a = so.getLsbD a := by
    intro a ha
    unfold isL
    by_cases hlt : a < n
    · rw [if_pos hlt, hbit a hlt]
    · rw [if_neg hlt, hbit (a - n) (by omega)]
      rcases h.full (a - n) (by omega) (by omega) with h1 | h1
      · have : so.getLsbD a = false := by
          cases hb : so.getLsbD a
          · rfl
          · exact absurd ⟨h1, by rw [show a - n + n = a by omega]; exact hb⟩ (h.cons (a - n) (by omega))
        rw [h1, this]; rfl
      · rw [show a - n + n = a by omega] at h1
        have : so.getLsbD (a - n) = false := by
          cases hb : so.getLsbD (a - n)
          · rfl
          · exact absurd ⟨hb, by rw [show a - n + n = a by omega]; exact h1⟩ (h.cons (a - n) (by omega))
        rw [h1, this]; rfl
  have hmod : Mod n rs (so &&& (1#32 <<< n - 1#32)) := by
    refine ⟨hfit, fun r hr => ?_⟩
    have hf := ht.2.1 r hr
    have h12 := lit12 h6 hf
    have hodd := ht.2.2 r hr
    unfold oddB at hodd
    rw [Bool.or_eq_false_iff] at hodd
    have h0 : Lib.onesCount (litW n r).toNat ≠ 0 := by have := hodd.1; simpa [cnt] using this
    obtain ⟨a, ha⟩ := ones_pos h0
    have ha2 := fitB_iff.1 (litW_fit h6 hf) a ha
    rw [hold_lit h6 hf]
    cases hsa : so.getLsbD a
    · -- what is not so of a is so
      have hna : so.getLsbD (negN n a) = true := by
        have h1 := isL_neg (n := n) (s := so &&& (1#32 <<< n - 1#32)) ha2
        rw [hlit a ha2, hsa, hlit _ (negN_lt ha2)] at h1
        exact h1
      have hedge : ∀ b, b < 2 * n → edgeW n (litW n r) (negN n a) b = true → so.getLsbD b = true := by
        intro b hb he
        have h2 : edgeL n rs (negN n a) b = true := by
          unfold edgeL
          rw [Bool.or_eq_true, List.any_eq_true]
          exact .inr ⟨r, hr, he⟩
        exact h.shut _ b (negN_lt ha2) hb hna ((matE_goes (fun x _ => edgeL_self n rs x) (negN_lt ha2) hb).2 (Goes.one (negN_lt ha2) hb h2))
      by_cases h1 : cnt (litW n r) = 1
      · have := hedge a ha2 (by unfold edgeW; rw [negN_neg ha2, ha, h1]; rfl)
        rw [hsa] at this
        cases this
      · obtain ⟨b, hb, hba⟩ := cnt_more h12 h1 ha
        have hb2 := fitB_iff.1 (litW_fit h6 hf) b hb
        have := hedge b hb2 (by
          unfold edgeW
          rw [negN_neg ha2, ha, hb]
          have : (a != b) = true := by simpa using fun e => hba e.symm
          rw [this]; simp)
        exact ⟨b, hb2, hb, by rw [hlit b hb2]; exact this⟩
    · exact ⟨a, ha2, ha, by rw [hlit a ha2]; exact hsa⟩
  refine .inl ⟨rfl, ⟨hfit, fun i hi => by simp at hi, fun i hi => by simp at hi, hmod.2⟩, fun s hs => ?_⟩
  have hsm : Mod n rs s := ⟨hs.1, hs.2.2.2⟩
  rcases h.best s hsm with h1 | ⟨t, _, h2, h3, h4, h5⟩
  · have : so &&& (1#32 <<< n - 1#32) = s := by
      refine word_ext hfit hs.1 fun v hv => ?_
      rw [hbit v hv]
      rcases h.full v (by omega) hv with h2 | h2
      · have := h1 v (by omega) h2
        unfold isL at this
        rw [if_pos hv] at this
        rw [h2, this]
      · have := h1 (v + n) (by omega) h2
        unfold isL at this
        rw [if_neg (by omega), Nat.add_sub_cancel] at this
        have h3 : so.getLsbD v = false := by
          cases hb : so.getLsbD v
          · rfl
          · exact absurd ⟨hb, h2⟩ (h.cons v hv)
        rw [h3]
        simpa using this.symm
    rw [this]
    exact Nat.le_refl _
  · refine Nat.le_of_lt (lt_of_bit (t := t) ?_ ?_ ?_)
    · have := hbit t h2
      rw [h4] at this
      rw [BitVec.getLsbD] at this
      exact this
    · rw [BitVec.getLsbD] at h3; exact h3
    · intro j hj
      by_cases hjn : j < n
      · have h7 := h5 j hj hjn
        rw [← hbit j hjn] at h7
        rw [BitVec.getLsbD, BitVec.getLsbD] at h7
        exact h7.symm
      · have z1 : (so &&& (1#32 <<< n - 1#32)).getLsbD j = false := by
          cases hb : (so &&& (1#32 <<< n - 1#32)).getLsbD j
          · rfl
          · exact absurd (fitB_iff.1 hfit j hb) hjn
        have z2 : s.getLsbD j = false := by
          cases hb : s.getLsbD j
          · rfl
          · exact absurd (fitB_iff.1 hs.1 j hb) hjn
        rw [BitVec.getLsbD] at z1 z2
        rw [z1, z2]
/-- where a variable is stuck there is none -/
theorem two_none (ht : Twos n rs) {v : Nat} (hv : v < n) (h : Stuck n rs v) : Res n rs 0#32 0#32 0#32 false := by
  refine .inr ⟨rfl, rfl, fun s hs => ?_⟩
  have hsm : Mod n rs s := ⟨hs.1, hs.2.2.2⟩
  have e1 : negN n v = v + n := by rw [negN_eq (by omega), if_pos hv]
  have hneg := isL_neg (n := n) (s := s) (a := v) (by omega)
  rw [e1] at hneg
  cases hb : isL n s v
  · rw [hb] at hneg
    have := hsm.goes ht (by omega) (by omega) h.2 hneg
    rw [hb] at this
    cases this
  · have := hsm.goes ht (by omega) (by omega) h.1 hb
    rw [hneg, hb] at this
    cases this
end
end Go.Proofs.Ytekpifobhgjepaa
