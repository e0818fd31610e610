/- Sharing a secret: plain laws. -/
import Derived.Test.YtodkpojmonikiaaOwn
namespace Go.Proofs.Ytodkpojmonikiaa
open Go
set_option linter.unusedVariables false

/-! ### who is lost -/
def lostB (sets : List (BitVec 32)) (who : BitVec 32) : Bool := !sets.any fun s => subB s who
theorem lostB_iff {sets : List (BitVec 32)} {who : BitVec 32} : lostB sets who = true ↔ ∀ s ∈ sets, subB s who = false := by
  unfold lostB
  simp
theorem lost_down {sets : List (BitVec 32)} {a b : BitVec 32} (h : subB a b = true) (hb : lostB sets b = true) : lostB sets a = true := by
  rw [lostB_iff] at hb ⊢
  intro s hs
  cases hc : subB s a
  · rfl
  · have := hb s hs
    rw [subB_trans hc h] at this
    cases this
def mostB (n : Nat) (sets : List (BitVec 32)) (who : BitVec 32) : Bool := lostB sets who && (List.range n).all fun i => who.getLsbD i || !lostB sets (who ||| 1#32 <<< i)
def mostL (n : Nat) (sets : List (BitVec 32)) : List (BitVec 32) := (words n).filter (mostB n sets)
theorem mostB_iff {n : Nat} {sets : List (BitVec 32)} {who : BitVec 32} : mostB n sets who = true ↔ lostB sets who = true ∧ ∀ i, i < n → who.getLsbD i = false → lostB sets (who ||| 1#32 <<< i) = false := by
  unfold mostB
  rw [Bool.and_eq_true, List.all_eq_true]
  constructor
  · rintro ⟨h1, h2⟩
    refine ⟨h1, fun i hi hb => ?_⟩
    have := h2 i (List.mem_range.2 hi)
    rw [hb] at this
    simpa using this
  · rintro ⟨h1, h2⟩
    refine ⟨h1, fun i hi => ?_⟩
    cases hb : who.getLsbD i
    · simpa using h2 i (List.mem_range.1 hi) hb
    · rfl
theorem mem_mostL {n : Nat} (hn : n < 32) {sets : List (BitVec 32)} {who : BitVec 32} : who ∈ mostL n sets ↔ fitB n who = true ∧ mostB n sets who = true := by
  unfold mostL
  rw [List.mem_filter, mem_words hn]
theorem bit_or_one {x : BitVec 32} {i j : Nat} (hi : i < 32) : (x ||| 1#32 <<< i).getLsbD j = (x.getLsbD j || decide (i = j)) := by
  rw [BitVec.getLsbD_or, getLsbD_bit]
  by_cases h : i = j
  · subst h; simp [hi]
  · simp [h]
/-- what a strictly greater set holds more -/
theorem more_bit {a b : BitVec 32} (h : subB a b = true) (hne : b ≠ a) : ∃ i, b.getLsbD i = true ∧ a.getLsbD i = false := by
  refine Classical.byContradiction fun hc => hne (subB_antisymm ?_ h)
  rw [subB_iff]
  intro i hi
  cases ha : a.getLsbD i
  · exact absurd ⟨i, hi, ha⟩ hc
  · rfl
/-- the statement's own way to tell it -/
def mostAt (sets : List (BitVec 32)) (who more : BitVec 32) : Bool := more != who && subB who more && lostB sets more
def mostR (n : Nat) (sets : List (BitVec 32)) (who : BitVec 32) : Bool := lostB sets who && !(words n).any (mostAt sets who)
theorem most_eq {n : Nat} (hn : n < 32) {sets : List (BitVec 32)} {who : BitVec 32} (hf : fitB n who = true) : mostR n sets who = mostB n sets who := by
  rw [Bool.eq_iff_iff, mostB_iff]
  unfold mostR
  rw [Bool.and_eq_true, Bool.not_eq_true', List.any_eq_false]
  constructor
  · rintro ⟨h1, h2⟩
    refine ⟨h1, fun i hi hb => ?_⟩
    have hfit : fitB n (who ||| 1#32 <<< i) = true := by
      rw [fitB_iff]
      intro j hj
      rw [bit_or_one (by omega), Bool.or_eq_true, decide_eq_true_eq] at hj
      rcases hj with hj | hj
      · exact fitB_iff.1 hf j hj
      · omega
    have := h2 _ ((mem_words hn _).2 hfit)
    unfold mostAt at this
    cases hl : lostB sets (who ||| 1#32 <<< i)
    · rfl
    · exfalso
      apply this
      rw [subB_or_left, hl]
      have : who ||| 1#32 <<< i ≠ who := by
        intro e
        have := bit_or_one (x := who) (i := i) (j := i) (by omega)
        rw [e, hb] at this
        simp at this
      simp [this]
  · rintro ⟨h1, h2⟩
    refine ⟨h1, fun more hm => ?_⟩
    intro hc
    unfold mostAt at hc
    rw [Bool.and_eq_true, Bool.and_eq_true, bne_iff_ne] at hc
    obtain ⟨⟨c1, c2⟩, c3⟩ := hc
    obtain ⟨i, b1, b2⟩ := more_bit c2 c1
    have hi : i < n := fitB_iff.1 ((mem_words hn _).1 hm) i b1
    have := h2 i hi b2
    rw [lost_down (b := more) ?_ c3] at this
    · cases this
    · rw [subB_iff]
      intro j hj
      rw [bit_or_one (by omega), Bool.or_eq_true, decide_eq_true_eq] at hj
      rcases hj with hj | hj
      · exact subB_iff.1 c2 j hj
      · subst hj; exact b1
theorem mostL_ref {n : Nat} (hn : n < 32) (sets : List (BitVec 32)) : (words n).filter (mostR n sets) = mostL n sets := by
  unfold mostL
  apply List.filter_congr
  intro who hw
  exact most_eq hn ((mem_words hn _).1 hw)
/-- who is lost is within some that are and with any one more are not -/
theorem most_above {n : Nat} (hn : n < 32) {sets : List (BitVec 32)} : ∀ (m : Nat) (who : BitVec 32), 2 ^ 32 - who.toNat ≤ m → fitB n who = true → lostB sets who = true → ∃ v, v ∈ mostL n sets ∧ subB who v = true := by
  intro m
  induction m with
  | zero => intro who hm; have := who.isLt; omega
  | succ m ih =>
    intro who hm hf hl
    by_cases hmo : mostB n sets who = true
    · exact ⟨who, (mem_mostL hn).2 ⟨hf, hmo⟩, subB_refl _⟩
    · have : ¬ ∀ i, i < n → who.getLsbD i = false → lostB sets (who ||| 1#32 <<< i) = false := fun hall => hmo (mostB_iff.2 ⟨hl, hall⟩)
      obtain ⟨i, h⟩ := Classical.not_forall.1 this
      have hi : i < n := Classical.byContradiction fun hc => h fun h2 => absurd h2 hc
      have hb : who.getLsbD i = false := by
        cases hb : who.getLsbD i
        · rfl
        · exact absurd (fun _ h2 => by rw [hb] at h2; cases h2) h
      have hl2 : lostB sets (who ||| 1#32 <<< i) = true := by
        cases hl2 : lostB sets (who ||| 1#32 <<< i)
        · exact absurd (fun _ _ => hl2) h
        · rfl
      have hne : who ≠ who ||| 1#32 <<< i := by
        intro e
        have := bit_or_one (x := who) (i := i) (j := i) (by omega)
        rw [← e, hb] at this
        simp at this
      have hlt := subB_lt (subB_or_left who (1#32 <<< i)) hne
      have hfit : fitB n (who ||| 1#32 <<< i) = true := by
        rw [fitB_iff]
        intro j hj
        rw [bit_or_one (by omega), Bool.or_eq_true, decide_eq_true_eq] at hj
        rcases hj with hj | hj
        · exact fitB_iff.1 hf j hj
        · omega
      obtain ⟨v, hv, hs⟩ := ih _ (by have := (who ||| 1#32 <<< i).isLt; omega) hfit hl2
      exact ⟨v, hv, subB_trans (subB_or_left _ _) hs⟩
theorem lost_iff_most {n : Nat} (hn : n < 32) {sets : List (BitVec 32)} {who : BitVec 32} (hf : fitB n who = true) : lostB sets who = true ↔ ∃ k, k < (mostL n sets).length ∧ subB who (nth (mostL n sets) k) = true := by
  constructor
  · intro h
    obtain ⟨v, hv, hs⟩ := most_above hn (2 ^ 32) who (by omega) hf h
    obtain ⟨k, hk, e⟩ := List.mem_iff_getElem.1 hv
    exact ⟨k, hk, by rw [nth_eq _ _ hk, e]; exact hs⟩
  · rintro ⟨k, hk, hs⟩
    rw [nth_eq _ _ hk] at hs
    exact lost_down hs (mostB_iff.1 ((mem_mostL hn).1 (List.getElem_mem hk)).2).1
/-! ### is nobody lost, or are all together? -/
def fullW (n : Nat) : BitVec 32 := 1#32 <<< n - 1#32
theorem fullW_fit {n : Nat} (hn : n < 32) : fitB n (fullW n) = true := by
  rw [fitB_iff]
  intro i hi
  unfold fullW at hi
  rw [full_bit n i hn] at hi
  simpa using hi
theorem sub_full {n : Nat} (hn : n < 32) {x : BitVec 32} (hf : fitB n x = true) : subB x (fullW n) = true := by
  rw [subB_iff]
  intro i hi
  unfold fullW
  rw [full_bit n i hn]
  simpa using fitB_iff.1 hf i hi
def noneB (n : Nat) (l : List (BitVec 32)) : Bool := decide (l.length = 0) || nth l (l.length - 1) == fullW n
theorem none_eq {n : Nat} (hn : n < 32) (sets : List (BitVec 32)) : noneB n (mostL n sets) = !(decide (0 < (mostL n sets).length) && !lostB sets (fullW n)) := by
  unfold noneB
  by_cases h0 : (mostL n sets).length = 0
  · simp [h0]
  · have hp : 0 < (mostL n sets).length := by omega
    have hk : (mostL n sets).length - 1 < (mostL n sets).length := by omega
    have hmem := List.getElem_mem hk
    rw [nth_eq _ _ hk]
    rw [Bool.eq_iff_iff]
    simp only [h0, decide_false, Bool.false_or, hp, decide_true, Bool.true_and, Bool.not_not, beq_iff_eq]
    constructor
    · intro e
      rw [e] at hmem
      exact (mostB_iff.1 ((mem_mostL hn).1 hmem).2).1
    · intro hl
      refine Classical.byContradiction fun hne => ?_
      obtain ⟨hf, hm⟩ := (mem_mostL hn).1 hmem
      obtain ⟨i, b1, b2⟩ := more_bit (sub_full hn hf) (fun e => hne e.symm)
      have hi : i < n := fitB_iff.1 (fullW_fit hn) i b1
      have := (mostB_iff.1 hm).2 i hi b2
      rw [lost_down (sub_full hn ?_) hl] at this
      · cases this
      · rw [fitB_iff]
        intro j hj
        rw [bit_or_one (by omega), Bool.or_eq_true, decide_eq_true_eq] at hj
        rcases hj with hj | hj
        · exact fitB_iff.1 hf j hj
        · omega
/-! ### parts -/
abbrev By := BitVec 8
def xorF (s : By) (l : List By) : By := l.foldl (· ^^^ ·) s
theorem xorF_init (s : By) (l : List By) : xorF s l = s ^^^ xorF 0#8 l := by
  unfold xorF
  induction l generalizing s with
  | nil => simp
  | cons a l ih =>
    rw [List.foldl_cons, List.foldl_cons, ih (s ^^^ a), ih (0#8 ^^^ a)]
    simp [BitVec.xor_assoc]
theorem xorF_append (s : By) (l m : List By) : xorF s (l ++ m) = xorF (xorF s l) m := by
  unfold xorF
  rw [List.foldl_append]
def bth (l : List By) (k : Nat) : By := l.getD k 0#8
theorem bth_eq (l : List By) (k : Nat) (h : k < l.length) : bth l k = l[k] := by
  unfold bth
  rw [List.getD_eq_getElem?_getD, List.getElem?_eq_getElem h]
  rfl
theorem xorF_take (s : By) (l : List By) (k : Nat) (h : k < l.length) : xorF s (l.take (k + 1)) = xorF s (l.take k) ^^^ bth l k := by
  rw [take_snoc l k h, xorF_append, bth_eq l k h]
  rfl
theorem xor_cancel (a b : By) : a ^^^ (b ^^^ a) = b := by
  rw [BitVec.xor_comm b a, ← BitVec.xor_assoc, BitVec.xor_self, BitVec.zero_xor]
/-- dice, and what with them all makes the secret -/
def partsF (s : By) (d : List By) : List By := d ++ [xorF s d]
theorem partsF_length (s : By) (d : List By) : (partsF s d).length = d.length + 1 := by simp [partsF]
theorem parts_all (s : By) (d : List By) : xorF 0#8 (partsF s d) = s := by
  unfold partsF
  rw [xorF_append, xorF_init s d]
  show xorF 0#8 d ^^^ (s ^^^ xorF 0#8 d) = s
  exact xor_cancel _ _
theorem xorF_set (s : By) (d : List By) (k : Nat) (x : By) (h : k < d.length) : xorF s (d.set k (bth d k ^^^ x)) = xorF s d ^^^ x := by
  have e : d.set k (bth d k ^^^ x) = d.take k ++ ((bth d k ^^^ x) :: d.drop (k + 1)) := by
    rw [List.set_eq_take_append_cons_drop, if_pos h]
  have e2 : d = d.take k ++ (bth d k :: d.drop (k + 1)) := by
    rw [bth_eq d k h]
    simp
  rw [e]
  conv => rhs; rw [e2]
  rw [xorF_append, xorF_append]
  show xorF (xorF s (d.take k) ^^^ (bth d k ^^^ x)) (d.drop (k + 1)) = xorF (xorF s (d.take k) ^^^ bth d k) (d.drop (k + 1)) ^^^ x
  rw [xorF_init, xorF_init (xorF s (d.take k) ^^^ bth d k)]
  simp only [BitVec.xor_assoc]
  congr 2
  rw [BitVec.xor_comm x]
/-- what one has of a part -/
def shV (L : List (BitVec 32)) (p : List By) (i k : Nat) : Int := if (nth L k).getLsbD i then -1 else ((bth p k).toNat : Int)
def shRow (L : List (BitVec 32)) (p : List By) (i : Nat) : List Int := (List.range L.length).map (shV L p i)
/-- what some have of a part, of the first m -/
def partTo (L : List (BitVec 32)) (p : List By) (who : BitVec 32) (k : Nat) : Nat → Int
  | 0 => -1
  | m + 1 => if who.getLsbD m && decide (partTo L p who k m < 0) then shV L p m k else partTo L p who k m
theorem partTo_eq (L : List (BitVec 32)) (p : List By) (who : BitVec 32) (k : Nat) : ∀ m, partTo L p who k m = if (List.range m).all fun i => !who.getLsbD i || (nth L k).getLsbD i then -1 else ((bth p k).toNat : Int) := by
  intro m
  induction m with
  | zero => rfl
  | succ m ih =>
    unfold partTo
    rw [ih, List.range_succ, List.all_append]
    have hneg : ¬ (((bth p k).toNat : Int) < 0) := by omega
    have hc : ∀ b : Bool, decide ((if b = true then (-1 : Int) else ((bth p k).toNat : Int)) < 0) = b := by
      intro b
      cases b <;> simp
    rw [hc]
    unfold shV
    cases (List.range m).all fun i => !who.getLsbD i || (nth L k).getLsbD i <;> cases hw : who.getLsbD m <;> cases hl : (nth L k).getLsbD m <;> simp [hw, hl]
theorem partTo_done {n : Nat} {L : List (BitVec 32)} {p : List By} {who : BitVec 32} (hf : fitB n who = true) (k : Nat) : partTo L p who k n = if subB who (nth L k) then -1 else ((bth p k).toNat : Int) := by
  rw [partTo_eq]
  congr 1
  rw [eq_iff_iff, List.all_eq_true, subB_iff]
  constructor
  · intro h i hi
    have := h i (List.mem_range.2 (fitB_iff.1 hf i hi))
    rw [hi] at this
    simpa using this
  · intro h i _
    cases hw : who.getLsbD i
    · rfl
    · simpa using h i hw
/-- dice turned at one place, so that with them another secret comes out -/
def otherF (d : List By) (k : Nat) (x : By) : List By := if k < d.length then d.set k (bth d k ^^^ x) else d
theorem other_length (d : List By) (k : Nat) (x : By) : (otherF d k x).length = d.length := by
  unfold otherF
  split <;> simp
theorem parts_lt {s : By} {d : List By} {j : Nat} (h : j < d.length) : bth (partsF s d) j = bth d j := by
  unfold bth partsF
  rw [List.getD_eq_getElem?_getD, List.getD_eq_getElem?_getD, List.getElem?_append_left h]
theorem parts_last {s : By} {d : List By} {j : Nat} (h : j = d.length) : bth (partsF s d) j = xorF s d := by
  subst h
  unfold bth partsF
  rw [List.getD_eq_getElem?_getD, List.getElem?_append_right (Nat.le_refl _)]
  simp
theorem other_part {d : List By} {k j : Nat} {a b : By} (hk : k ≤ d.length) (hj : j ≤ d.length) (hne : j ≠ k) : bth (partsF b (otherF d k (a ^^^ b))) j = bth (partsF a d) j := by
  by_cases hjd : j < d.length
  · rw [parts_lt (by rw [other_length]; exact hjd), parts_lt hjd]
    unfold otherF
    split
    · unfold bth
      rw [List.getD_eq_getElem?_getD, List.getD_eq_getElem?_getD, List.getElem?_set_ne (fun e => hne e.symm), ← List.getD_eq_getElem?_getD]
    · rfl
  · have hjl : j = d.length := by omega
    have hkd : k < d.length := by omega
    rw [parts_last (by rw [other_length]; exact hjl), parts_last hjl]
    unfold otherF
    rw [if_pos hkd, xorF_set _ _ _ _ hkd, xorF_init b, xorF_init a]
    rw [BitVec.xor_comm b, BitVec.xor_assoc, BitVec.xor_comm a b, ← BitVec.xor_assoc b b a, BitVec.xor_self, BitVec.zero_xor, BitVec.xor_comm]
theorem hides {L : List (BitVec 32)} {d : List By} {k i : Nat} {a b : By} {who : BitVec 32} (hl : d.length + 1 = L.length) (hk : k < L.length) (hs : subB who (nth L k) = true) (hi : who.getLsbD i = true) : shRow L (partsF b (otherF d k (a ^^^ b))) i = shRow L (partsF a d) i := by
  unfold shRow
  apply List.map_congr_left
  intro j hj
  rw [List.mem_range] at hj
  unfold shV
  by_cases e : j = k
  · subst e
    rw [subB_iff.1 hs i hi]
    rfl
  · rw [other_part (by omega) (by omega) e]
end Go.Proofs.Ytodkpojmonikiaa
