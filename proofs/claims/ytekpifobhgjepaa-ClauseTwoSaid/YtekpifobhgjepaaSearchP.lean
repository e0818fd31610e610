/- Plain laws of clauses: which words make them true; what a search keeps. -/
import Derived.Test.YtekpifobhgjepaaWordP
import Derived.Test.YtekpifobhgjepaaOwn
import Derived.Test.YtekpifobhgjepaaBitsP
namespace Go.Proofs.Ytekpifobhgjepaa
open Go
set_option linter.unusedVariables false

theorem lt_of_bit {x y t : Nat} (hx : x.testBit t = false) (hy : y.testBit t = true) (h : ∀ j, t < j → x.testBit j = y.testBit j) : x < y := by
  have e : x / 2 ^ (t + 1) = y / 2 ^ (t + 1) := Nat.eq_of_testBit_eq fun i => by rw [Nat.testBit_div_two_pow, Nat.testBit_div_two_pow]; exact h _ (by omega)
  have e1 : x / 2 ^ t / 2 = x / 2 ^ (t + 1) := by rw [Nat.div_div_eq_div_mul, Nat.pow_succ]
  have e2 : y / 2 ^ t / 2 = y / 2 ^ (t + 1) := by rw [Nat.div_div_eq_div_mul, Nat.pow_succ]
  rw [Nat.testBit_eq_decide_div_mod_eq, decide_eq_false_iff_not] at hx
  rw [Nat.testBit_eq_decide_div_mod_eq, decide_eq_true_eq] at hy
  have : x / 2 ^ t < y / 2 ^ t := by omega
  rcases Nat.lt_or_ge x y with h1 | h1
  · exact h1
  · have := Nat.div_le_div_right (c := 2 ^ t) h1
    omega
/-- a clause holds at a word -/
def holdB (s : BitVec 32) (r : Ru) : Bool := (r.1 &&& s != 0#32) || !subB r.2 s
theorem and_ne {a b : BitVec 32} : (a &&& b != 0#32) = true ↔ ∃ i, a.getLsbD i = true ∧ b.getLsbD i = true := by
  rw [bne_iff_ne]
  constructor
  · intro h
    rcases Classical.em (∃ i, a.getLsbD i = true ∧ b.getLsbD i = true) with h2 | h2
    · exact h2
    · exfalso
      apply h
      apply BitVec.eq_of_getLsbD_eq
      intro i _
      rw [BitVec.getLsbD_and]
      cases ha : a.getLsbD i
      · simp
      · cases hb : b.getLsbD i
        · simp
        · exact absurd ⟨i, ha, hb⟩ h2
  · rintro ⟨i, ha, hb⟩ h
    have : (a &&& b).getLsbD i = true := by rw [BitVec.getLsbD_and, ha, hb]; rfl
    rw [h] at this
    simp at this
theorem and_zero {a b : BitVec 32} (h : a &&& b = 0#32) (i : Nat) (ha : a.getLsbD i = true) : b.getLsbD i = false := by
  cases hb : b.getLsbD i
  · rfl
  · have : (a &&& b != 0#32) = true := and_ne.2 ⟨i, ha, hb⟩
    rw [h] at this
    simp at this
theorem not_sub {a b : BitVec 32} : (!subB a b) = true ↔ ∃ i, a.getLsbD i = true ∧ b.getLsbD i = false := by
  rw [Bool.not_eq_true', ← Bool.not_eq_true, subB_iff]
  constructor
  · intro h
    rcases Classical.em (∃ i, a.getLsbD i = true ∧ b.getLsbD i = false) with h2 | h2
    · exact h2
    · exfalso
      apply h
      intro i ha
      cases hb : b.getLsbD i
      · exact absurd ⟨i, ha, hb⟩ h2
      · rfl
  · rintro ⟨i, ha, hb⟩ h
    rw [h i ha] at hb
    cases hb
theorem holdB_iff {s : BitVec 32} {r : Ru} : holdB s r = true ↔ (∃ i, r.1.getLsbD i = true ∧ s.getLsbD i = true) ∨ ∃ i, r.2.getLsbD i = true ∧ s.getLsbD i = false := by
  unfold holdB
  rw [Bool.or_eq_true, and_ne, not_sub]
/-- all clauses hold -/
def trueB (rs : List Ru) (s : BitVec 32) : Bool := rs.all (holdB s)
/-- the words that go with what is known -/
def Sol (n : Nat) (rs : List Ru) (yes no s : BitVec 32) : Prop := fitB n s = true ∧ (∀ i, yes.getLsbD i = true → s.getLsbD i = true) ∧ (∀ i, no.getLsbD i = true → s.getLsbD i = false) ∧ ∀ r ∈ rs, holdB s r = true
/-- what is known is sound -/
def St (n : Nat) (yes no : BitVec 32) : Prop := fitB n yes = true ∧ fitB n no = true ∧ ∀ i, yes.getLsbD i = true → no.getLsbD i = false
/-- the least word, if there is one -/
def Res (n : Nat) (rs : List Ru) (yes no v : BitVec 32) (ok : Bool) : Prop := (ok = true ∧ Sol n rs yes no v ∧ ∀ s, Sol n rs yes no s → v.toNat ≤ s.toNat) ∨ (ok = false ∧ v = 0#32 ∧ ∀ s, ¬ Sol n rs yes no s)
section
variable {n : Nat} {rs : List Ru} {yes no s v : BitVec 32} {r : Ru} {ok : Bool}
theorem Sol.need (h : Sol n rs yes no s) (hr : r ∈ rs) : (r.1 &&& yes != 0#32) = true ∨ (r.2 &&& no != 0#32) = true ∨ (∃ i, (r.1 &&& ~~~no).getLsbD i = true ∧ s.getLsbD i = true) ∨ ∃ i, (r.2 &&& ~~~yes).getLsbD i = true ∧ s.getLsbD i = false := by
  obtain ⟨hf, hy, hn, ha⟩ := h
  rcases holdB_iff.1 (ha r hr) with ⟨i, h1, h2⟩ | ⟨i, h1, h2⟩
  · have hno : no.getLsbD i = false := by
      cases h3 : no.getLsbD i
      · rfl
      · rw [hn i h3] at h2; cases h2
    exact .inr (.inr (.inl ⟨i, by
      have hi : i < 32 := BitVec.lt_of_getLsbD h1
      rw [BitVec.getLsbD_and, BitVec.getLsbD_not, h1, hno]; simp [hi], h2⟩))
  · have hye : yes.getLsbD i = false := by
      cases h3 : yes.getLsbD i
      · rfl
      · rw [hy i h3] at h2; cases h2
    exact .inr (.inr (.inr ⟨i, by
      have hi : i < 32 := BitVec.lt_of_getLsbD h1
      rw [BitVec.getLsbD_and, BitVec.getLsbD_not, h1, hye]; simp [hi], h2⟩))
theorem bit_andNot {a b : BitVec 32} {i : Nat} : (a &&& ~~~b).getLsbD i = true ↔ a.getLsbD i = true ∧ b.getLsbD i = false := by
  rw [BitVec.getLsbD_and, BitVec.getLsbD_not]
  constructor
  · intro h
    simp at h
    exact ⟨h.1, h.2.2⟩
  · rintro ⟨h1, h2⟩
    have hi : i < 32 := BitVec.lt_of_getLsbD h1
    rw [h1, h2]; simp [hi]
theorem res_same {yes' no' : BitVec 32} (h : ∀ s, Sol n rs yes no s ↔ Sol n rs yes' no' s) (hr : Res n rs yes' no' v ok) : Res n rs yes no v ok := by
  rcases hr with ⟨h1, h2, h3⟩ | ⟨h1, h2, h3⟩
  · exact .inl ⟨h1, (h v).2 h2, fun s hs => h3 s ((h s).1 hs)⟩
  · exact .inr ⟨h1, h2, fun s hs => h3 s ((h s).1 hs)⟩
theorem ones_word_zero {a : BitVec 32} (hf : fitB 12 a = true) (h : Lib.onesCount a.toNat = 0) : a = 0#32 := by
  rw [fitB_lt (by omega), decide_eq_true_eq, BitVec.lt_def] at hf
  have := ones_zero ⟨a.toNat, hf⟩ h
  exact BitVec.eq_of_toNat_eq this
theorem ones_word_one {a : BitVec 32} (hf : fitB 12 a = true) (h : Lib.onesCount a.toNat = 1) : ∃ i, i < 12 ∧ a = 1#32 <<< i := by
  rw [fitB_lt (by omega), decide_eq_true_eq, BitVec.lt_def] at hf
  obtain ⟨i, hi⟩ := ones_one ⟨a.toNat, hf⟩ h
  refine ⟨i.val, i.isLt, BitVec.eq_of_toNat_eq ?_⟩
  rw [one_shl_toNat i.val (by omega)]
  exact hi
/-- a clause that nothing known makes true and that has no literal left -/
theorem res_none (hr : r ∈ rs) (h1 : (r.1 &&& yes != 0#32) = false) (h2 : (r.2 &&& no != 0#32) = false) (h3 : r.1 &&& ~~~no = 0#32) (h4 : r.2 &&& ~~~yes = 0#32) : Res n rs yes no 0#32 false := by
  refine .inr ⟨rfl, rfl, fun s hs => ?_⟩
  rcases hs.need hr with h | h | ⟨i, h, _⟩ | ⟨i, h, _⟩
  · rw [h1] at h; cases h
  · rw [h2] at h; cases h
  · rw [h3] at h; simp at h
  · rw [h4] at h; simp at h
theorem sol_or {y k : BitVec 32} : Sol n rs (yes ||| y) (no ||| k) s ↔ Sol n rs yes no s ∧ (∀ i, y.getLsbD i = true → s.getLsbD i = true) ∧ ∀ i, k.getLsbD i = true → s.getLsbD i = false := by
  unfold Sol
  constructor
  · rintro ⟨a, b, c, d⟩
    exact ⟨⟨a, fun i hi => b i (by rw [BitVec.getLsbD_or, hi]; rfl), fun i hi => c i (by rw [BitVec.getLsbD_or, hi]; rfl), d⟩, fun i hi => b i (by rw [BitVec.getLsbD_or, hi]; simp), fun i hi => c i (by rw [BitVec.getLsbD_or, hi]; simp)⟩
  · rintro ⟨⟨a, b, c, d⟩, e, f⟩
    refine ⟨a, fun i hi => ?_, fun i hi => ?_, d⟩
    · rw [BitVec.getLsbD_or, Bool.or_eq_true] at hi
      exact hi.elim (b i) (e i)
    · rw [BitVec.getLsbD_or, Bool.or_eq_true] at hi
      exact hi.elim (c i) (f i)
/-- a clause with one literal left -/
theorem unit (hst : St n yes no) (hn : n ≤ 6) (hr : r ∈ rs) (hok : fitB n (r.1 ||| r.2) = true) (h1 : (r.1 &&& yes != 0#32) = false) (h2 : (r.2 &&& no != 0#32) = false)
    (hc : Lib.onesCount (r.1 &&& ~~~no).toNat + Lib.onesCount (r.2 &&& ~~~yes).toNat = 1) :
    (∀ s, Sol n rs yes no s ↔ Sol n rs (yes ||| (r.1 &&& ~~~no)) (no ||| (r.2 &&& ~~~yes)) s) ∧ St n (yes ||| (r.1 &&& ~~~no)) (no ||| (r.2 &&& ~~~yes)) ∧
      (yes ||| no).toNat < ((yes ||| (r.1 &&& ~~~no)) ||| (no ||| (r.2 &&& ~~~yes))).toNat := by
  have hf := fitB_iff.1 hok
  have fy : fitB n (r.1 &&& ~~~no) = true := fitB_iff.2 fun i hi => hf i (by rw [BitVec.getLsbD_or, (bit_andNot.1 hi).1]; rfl)
  have fk : fitB n (r.2 &&& ~~~yes) = true := fitB_iff.2 fun i hi => hf i (by rw [BitVec.getLsbD_or, (bit_andNot.1 hi).1]; simp)
  have up : ∀ {a : BitVec 32}, fitB n a = true → fitB 12 a = true := fun h => fitB_iff.2 fun i hi => by have := fitB_iff.1 h i hi; omega
  have z1 : r.1 &&& yes = 0#32 := by simpa using h1
  have z2 : r.2 &&& no = 0#32 := by simpa using h2
  have yno : ∀ i, (r.1 &&& ~~~no).getLsbD i = true → yes.getLsbD i = false ∧ no.getLsbD i = false := fun i hi => ⟨and_zero z1 i (bit_andNot.1 hi).1, (bit_andNot.1 hi).2⟩
  have kno : ∀ i, (r.2 &&& ~~~yes).getLsbD i = true → yes.getLsbD i = false ∧ no.getLsbD i = false := fun i hi => ⟨(bit_andNot.1 hi).2, and_zero z2 i (bit_andNot.1 hi).1⟩
  have hneed : ∀ s, Sol n rs yes no s → (∃ i, (r.1 &&& ~~~no).getLsbD i = true ∧ s.getLsbD i = true) ∨ ∃ i, (r.2 &&& ~~~yes).getLsbD i = true ∧ s.getLsbD i = false := by
    intro s hs
    rcases hs.need hr with h | h | h | h
    · rw [h1] at h; cases h
    · rw [h2] at h; cases h
    · exact .inl h
    · exact .inr h
  generalize r.1 &&& ~~~no = y at hc fy yno hneed
  generalize r.2 &&& ~~~yes = k at hc fk kno hneed
  have grow : ∀ (x : BitVec 32) (t : Nat), t < 32 → (yes ||| no).getLsbD t = false → x.getLsbD t = true → (∀ i, (yes ||| no).getLsbD i = true → x.getLsbD i = true) → (yes ||| no).toNat < x.toNat := fun x t _ h0 h1 hs =>
    subB_lt (subB_iff.2 hs) fun e => by rw [e, h1] at h0; cases h0
  have sub : ∀ i, (yes ||| no).getLsbD i = true → ((yes ||| y) ||| (no ||| k)).getLsbD i = true := fun i hi => by
    simp only [BitVec.getLsbD_or, Bool.or_eq_true] at hi ⊢
    rcases hi with h | h
    · exact .inl (.inl h)
    · exact .inr (.inl h)
  have hcase : (k = 0#32 ∧ ∃ t, t < 12 ∧ y = 1#32 <<< t) ∨ (y = 0#32 ∧ ∃ t, t < 12 ∧ k = 1#32 <<< t) := by
    by_cases hy0 : Lib.onesCount y.toNat = 0
    · exact .inr ⟨ones_word_zero (up fy) hy0, ones_word_one (up fk) (by omega)⟩
    · exact .inl ⟨ones_word_zero (up fk) (by omega), ones_word_one (up fy) (by omega)⟩
  rcases hcase with ⟨rfl, t, ht, rfl⟩ | ⟨rfl, t, ht, rfl⟩
  · have hbt : (1#32 <<< t).getLsbD t = true := by rw [getLsbD_bit]; simp; omega
    have only : ∀ i, (1#32 <<< t).getLsbD i = true → i = t := fun i hi => by rw [getLsbD_bit] at hi; simp at hi; omega
    refine ⟨fun s => ⟨fun hs => sol_or.2 ⟨hs, fun i hi => ?_, fun i hi => by simp at hi⟩, fun hs => (sol_or.1 hs).1⟩, ⟨by rw [fitB_or, hst.1, fy]; rfl, by rw [fitB_or, hst.2.1, fk]; rfl, fun i hi => ?_⟩, grow _ t (by omega) ?_ ?_ sub⟩
    · rcases hneed s hs with ⟨j, h3, h4⟩ | ⟨j, h3, _⟩
      · rw [only i hi, ← only j h3]; exact h4
      · simp at h3
    · rw [BitVec.getLsbD_or, Bool.or_eq_true] at hi
      rw [BitVec.getLsbD_or]
      rcases hi with h | h
      · rw [hst.2.2 i h]; simp
      · rw [(yno i h).2]; simp
    · rw [BitVec.getLsbD_or, (yno t hbt).1, (yno t hbt).2]; rfl
    · rw [BitVec.getLsbD_or, BitVec.getLsbD_or, hbt]; simp
  · have hbt : (1#32 <<< t).getLsbD t = true := by rw [getLsbD_bit]; simp; omega
    have only : ∀ i, (1#32 <<< t).getLsbD i = true → i = t := fun i hi => by rw [getLsbD_bit] at hi; simp at hi; omega
    refine ⟨fun s => ⟨fun hs => sol_or.2 ⟨hs, fun i hi => by simp at hi, fun i hi => ?_⟩, fun hs => (sol_or.1 hs).1⟩, ⟨by rw [fitB_or, hst.1, fy]; rfl, by rw [fitB_or, hst.2.1, fk]; rfl, fun i hi => ?_⟩, grow _ t (by omega) ?_ ?_ sub⟩
    · rcases hneed s hs with ⟨j, h3, _⟩ | ⟨j, h3, h4⟩
      · simp at h3
      · rw [only i hi, ← only j h3]; exact h4
    · rw [BitVec.getLsbD_or, Bool.or_eq_true] at hi
      rcases hi with h | h
      · rw [BitVec.getLsbD_or, hst.2.2 i h]
        cases hk : (1#32 <<< t).getLsbD i
        · rfl
        · rw [(kno i hk).1] at h; cases h
      · simp at h
    · rw [BitVec.getLsbD_or, (kno t hbt).1, (kno t hbt).2]; rfl
    · rw [BitVec.getLsbD_or, BitVec.getLsbD_or (x := no), hbt]; simp
/-- a clause is settled: known to hold, or with two literals left -/
def Settled (yes no : BitVec 32) (r : Ru) : Prop := (r.1 &&& yes != 0#32) = true ∨ (r.2 &&& no != 0#32) = true ∨ 2 ≤ Lib.onesCount (r.1 &&& ~~~no).toNat + Lib.onesCount (r.2 &&& ~~~yes).toNat
/-- what is not known yet -/
def leftW (n : Nat) (yes no : BitVec 32) : BitVec 32 := (1#32 <<< n - 1#32) &&& ~~~(yes ||| no)
theorem left_bit (hn : n ≤ 6) {i : Nat} : (leftW n yes no).getLsbD i = true ↔ i < n ∧ yes.getLsbD i = false ∧ no.getLsbD i = false := by
  unfold leftW
  rw [bit_andNot, full_bit n i (by omega), BitVec.getLsbD_or, decide_eq_true_eq, Bool.or_eq_false_iff]
theorem left_fit (hn : n ≤ 6) : fitB 6 (leftW n yes no) = true := fitB_iff.2 fun i hi => by have := ((left_bit hn).1 hi).1; omega
theorem ones_pos {a : BitVec 32} (h : Lib.onesCount a.toNat ≠ 0) : ∃ i, a.getLsbD i = true := by
  rcases Classical.em (∃ i, a.getLsbD i = true) with h2 | h2
  · exact h2
  · exfalso
    have : a = 0#32 := by
      apply BitVec.eq_of_getLsbD_eq
      intro i _
      cases ha : a.getLsbD i
      · simp
      · exact absurd ⟨i, ha⟩ h2
    rw [this] at h
    exact h rfl
theorem res_full (hst : St n yes no) (hn : n ≤ 6) (hok : ∀ r ∈ rs, fitB n (r.1 ||| r.2) = true) (hs : ∀ r ∈ rs, Settled yes no r) (h0 : leftW n yes no = 0#32) : Res n rs yes no yes true := by
  have known : ∀ i, i < n → yes.getLsbD i = true ∨ no.getLsbD i = true := fun i hi => by
    cases h1 : yes.getLsbD i
    · cases h2 : no.getLsbD i
      · have := (left_bit (yes := yes) (no := no) hn).2 ⟨hi, h1, h2⟩
        rw [h0] at this
        simp at this
      · exact .inr rfl
    · exact .inl rfl
  refine .inl ⟨rfl, ⟨hst.1, fun i hi => hi, fun i hi => ?_, fun r hr => holdB_iff.2 ?_⟩, fun s h => subB_le (subB_iff.2 h.2.1)⟩
  · cases h : yes.getLsbD i
    · rfl
    · rw [hst.2.2 i h] at hi; cases hi
  · have fits := fitB_iff.1 (hok r hr)
    have no_yes : ∀ i, no.getLsbD i = true → yes.getLsbD i = false := fun i hi => by
      cases h : yes.getLsbD i
      · rfl
      · rw [hst.2.2 i h] at hi; cases hi
    rcases hs r hr with h | h | h
    · exact .inl (and_ne.1 h)
    · obtain ⟨i, h1, h2⟩ := and_ne.1 h
      exact .inr ⟨i, h1, no_yes i h2⟩
    · by_cases hy : Lib.onesCount (r.1 &&& ~~~no).toNat = 0
      · obtain ⟨i, hi⟩ := ones_pos (a := r.2 &&& ~~~yes) (by omega)
        exact .inr ⟨i, (bit_andNot.1 hi).1, (bit_andNot.1 hi).2⟩
      · obtain ⟨i, hi⟩ := ones_pos hy
        obtain ⟨h1, h2⟩ := bit_andNot.1 hi
        rcases known i (fits i (by rw [BitVec.getLsbD_or, h1]; rfl)) with h3 | h3
        · exact .inl ⟨i, h1, h3⟩
        · rw [h2] at h3; cases h3
theorem left_top (hn : n ≤ 6) (h0 : leftW n yes no ≠ 0#32) : ∃ t, t < 6 ∧ Lib.bitLen (leftW n yes no).toNat = t + 1 ∧ (leftW n yes no).getLsbD t = true ∧ ∀ j, t < j → (leftW n yes no).getLsbD j = false := by
  have hf := left_fit (yes := yes) (no := no) hn
  generalize leftW n yes no = x at h0 hf ⊢
  have hf2 := fitB_iff.1 hf
  rw [fitB_lt (by omega), decide_eq_true_eq, BitVec.lt_def] at hf
  obtain ⟨t, h1, h2, h3⟩ := len_top ⟨x.toNat, hf⟩ (fun h => h0 (BitVec.eq_of_toNat_eq h))
  refine ⟨t.val, t.isLt, h1, h2, fun j hj => ?_⟩
  cases hx : x.getLsbD j
  · rfl
  · have := hf2 j hx
    have := h3 ⟨j, this⟩ hj
    have e : x.toNat.testBit j = x.getLsbD j := rfl
    rw [e, hx] at this
    cases this
section
variable {t : Nat}
theorem sol_or0 : Sol n rs yes (no ||| (1#32 <<< t)) s ↔ Sol n rs yes no s ∧ ∀ i, (1#32 <<< t).getLsbD i = true → s.getLsbD i = false := by
  have h := sol_or (n := n) (rs := rs) (yes := yes) (no := no) (s := s) (y := 0#32) (k := 1#32 <<< t)
  rw [show yes ||| 0#32 = yes by simp] at h
  rw [h]
  exact ⟨fun ⟨a, _, c⟩ => ⟨a, c⟩, fun ⟨a, c⟩ => ⟨a, fun i hi => by simp at hi, c⟩⟩
theorem sol_or1 : Sol n rs (yes ||| (1#32 <<< t)) no s ↔ Sol n rs yes no s ∧ ∀ i, (1#32 <<< t).getLsbD i = true → s.getLsbD i = true := by
  have h := sol_or (n := n) (rs := rs) (yes := yes) (no := no) (s := s) (y := 1#32 <<< t) (k := 0#32)
  rw [show no ||| 0#32 = no by simp] at h
  rw [h]
  exact ⟨fun ⟨a, b, _⟩ => ⟨a, b⟩, fun ⟨a, b⟩ => ⟨a, b, fun i hi => by simp at hi⟩⟩
theorem one_only {i : Nat} (hi : (1#32 <<< t).getLsbD i = true) : i = t := by rw [getLsbD_bit] at hi; simp at hi; omega
theorem one_self (ht : t < 6) : (1#32 <<< t).getLsbD t = true := by rw [getLsbD_bit]; simp; omega
theorem branch_st (hst : St n yes no) (hn : n ≤ 6) (ht : t < 6) (hl : (leftW n yes no).getLsbD t = true) : St n yes (no ||| (1#32 <<< t)) ∧ St n (yes ||| (1#32 <<< t)) no ∧ (yes ||| no).toNat < (yes ||| (no ||| (1#32 <<< t))).toNat ∧ (yes ||| no).toNat < ((yes ||| (1#32 <<< t)) ||| no).toNat := by
  obtain ⟨h1, h2, h3⟩ := (left_bit hn).1 hl
  have f1 : fitB n (1#32 <<< t) = true := fitB_iff.2 fun i hi => by rw [one_only hi]; exact h1
  refine ⟨⟨hst.1, by rw [fitB_or, hst.2.1, f1]; rfl, fun i hi => ?_⟩, ⟨by rw [fitB_or, hst.1, f1]; rfl, hst.2.1, fun i hi => ?_⟩, ?_, ?_⟩
  · rw [BitVec.getLsbD_or, hst.2.2 i hi]
    cases hb : (1#32 <<< t).getLsbD i
    · rfl
    · rw [one_only hb, h2] at hi; cases hi
  · rw [BitVec.getLsbD_or, Bool.or_eq_true] at hi
    rcases hi with h | h
    · exact hst.2.2 i h
    · rw [one_only h]; exact h3
  · refine subB_lt (subB_iff.2 fun i hi => ?_) fun e => ?_
    · simp only [BitVec.getLsbD_or, Bool.or_eq_true] at hi ⊢
      rcases hi with h | h
      · exact .inl h
      · exact .inr (.inl h)
    · have : (yes ||| no).getLsbD t = true := by rw [e]; simp only [BitVec.getLsbD_or, one_self ht, Bool.or_true]
      rw [BitVec.getLsbD_or, h2, h3] at this; cases this
  · refine subB_lt (subB_iff.2 fun i hi => ?_) fun e => ?_
    · simp only [BitVec.getLsbD_or, Bool.or_eq_true] at hi ⊢
      rcases hi with h | h
      · exact .inl (.inl h)
      · exact .inr h
    · have : (yes ||| no).getLsbD t = true := by rw [e]; simp only [BitVec.getLsbD_or, one_self ht, Bool.or_true, Bool.true_or]
      rw [BitVec.getLsbD_or, h2, h3] at this; cases this
theorem res_low (hn : n ≤ 6) (ht : t < 6) (htop : ∀ j, t < j → (leftW n yes no).getLsbD j = false) (h : Res n rs yes (no ||| (1#32 <<< t)) v true) : Res n rs yes no v true := by
  rcases h with ⟨_, h2, h3⟩ | ⟨h1, _⟩
  · obtain ⟨h4, h5⟩ := sol_or0.1 h2
    refine .inl ⟨rfl, h4, fun s hs => ?_⟩
    cases hb : s.getLsbD t
    · exact h3 s (sol_or0.2 ⟨hs, fun i hi => by rw [one_only hi]; exact hb⟩)
    · refine Nat.le_of_lt (lt_of_bit (h5 t (one_self ht)) hb fun j hj => ?_)
      show v.getLsbD j = s.getLsbD j
      have hl := htop j hj
      by_cases hjn : j < n
      · cases hy : yes.getLsbD j
        · cases hno : no.getLsbD j
          · rw [(left_bit hn).2 ⟨hjn, hy, hno⟩] at hl; cases hl
          · rw [h4.2.2.1 j hno, hs.2.2.1 j hno]
        · rw [h4.2.1 j hy, hs.2.1 j hy]
      · have e1 : v.getLsbD j = false := by
          cases h : v.getLsbD j
          · rfl
          · exact absurd (fitB_iff.1 h4.1 j h) hjn
        have e2 : s.getLsbD j = false := by
          cases h : s.getLsbD j
          · rfl
          · exact absurd (fitB_iff.1 hs.1 j h) hjn
        rw [e1, e2]
  · cases h1
theorem res_high {u : BitVec 32} (h : Res n rs yes (no ||| (1#32 <<< t)) u false) (k : Res n rs (yes ||| (1#32 <<< t)) no v ok) : Res n rs yes no v ok := by
  rcases h with ⟨h1, _⟩ | ⟨_, _, h3⟩
  · cases h1
  · refine res_same (fun s => ⟨fun hs => sol_or1.2 ⟨hs, fun i hi => ?_⟩, fun hs => (sol_or1.1 hs).1⟩) k
    rw [one_only hi]
    cases hb : s.getLsbD t
    · exact absurd (sol_or0.2 ⟨hs, fun i hi => by rw [one_only hi]; exact hb⟩) (h3 s)
    · rfl
end
end
end Go.Proofs.Ytekpifobhgjepaa
