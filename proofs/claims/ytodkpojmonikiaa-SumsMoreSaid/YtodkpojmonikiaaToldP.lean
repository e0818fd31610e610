/- Rows with a greatest bit of their own: plain laws of what sums tell. -/
import Derived.Test.YtodkpojmonikiaaWordP
import Derived.Test.YtodkpojmonikiaaOwn
import Derived.Lib.BitFns
namespace Go.Proofs.Ytodkpojmonikiaa
open Go
set_option linter.unusedVariables false

/-! ### parity -/
def sizeN (x : BitVec 32) : Nat → Nat
  | 0 => 0
  | k + 1 => sizeN x k + if x.getLsbD k then 1 else 0
theorem sizeN_le (x : BitVec 32) (k : Nat) : sizeN x k ≤ k := by
  induction k with
  | zero => exact Nat.le_refl _
  | succ k ih => show sizeN x k + _ ≤ _; split <;> omega
def parN (x : BitVec 32) : Nat → Bool
  | 0 => false
  | k + 1 => Bool.xor (parN x k) (x.getLsbD k)
theorem par_size (x : BitVec 32) (k : Nat) : decide (sizeN x k % 2 = 1) = parN x k := by
  induction k with
  | zero => rfl
  | succ k ih =>
    show decide ((sizeN x k + _) % 2 = 1) = Bool.xor (parN x k) (x.getLsbD k)
    rw [← ih]
    cases x.getLsbD k
    · simp
    · simp only [if_true]
      by_cases h : sizeN x k % 2 = 1
      · have : ¬ (sizeN x k + 1) % 2 = 1 := by omega
        simp [h, this]
      · have : (sizeN x k + 1) % 2 = 1 := by omega
        simp [h, this]
theorem par_xor (x y : BitVec 32) (k : Nat) : parN (x ^^^ y) k = Bool.xor (parN x k) (parN y k) := by
  induction k with
  | zero => rfl
  | succ k ih =>
    show Bool.xor (parN (x ^^^ y) k) ((x ^^^ y).getLsbD k) = Bool.xor (Bool.xor (parN x k) (x.getLsbD k)) (Bool.xor (parN y k) (y.getLsbD k))
    rw [ih, BitVec.getLsbD_xor]
    cases parN x k <;> cases parN y k <;> cases x.getLsbD k <;> cases y.getLsbD k <;> rfl
def oddB (a q : BitVec 32) : Bool := decide (sizeN (a &&& q) 32 % 2 = 1)
theorem oddB_xor (a x y : BitVec 32) : oddB a (x ^^^ y) = Bool.xor (oddB a x) (oddB a y) := by
  have e : a &&& (x ^^^ y) = (a &&& x) ^^^ (a &&& y) := by
    apply BitVec.eq_of_getLsbD_eq
    intro i _
    simp only [BitVec.getLsbD_and, BitVec.getLsbD_xor]
    cases a.getLsbD i <;> simp
  unfold oddB
  rw [par_size, par_size, par_size, e, par_xor]
theorem par_none (x : BitVec 32) : ∀ k, (∀ i, i < k → x.getLsbD i = false) → parN x k = false := by
  intro k
  induction k with
  | zero => intro _; rfl
  | succ k ih =>
    intro h
    show Bool.xor (parN x k) (x.getLsbD k) = false
    rw [ih fun i hi => h i (by omega), h k (by omega)]
    rfl
theorem par_one (x : BitVec 32) (t : Nat) : ∀ k, t < k → (∀ i, i ≠ t → x.getLsbD i = false) → parN x k = x.getLsbD t := by
  intro k
  induction k with
  | zero => intro h; omega
  | succ k ih =>
    intro hk h
    show Bool.xor (parN x k) (x.getLsbD k) = _
    by_cases e : t = k
    · subst e
      rw [par_none x t fun i hi => h i (by omega)]
      simp
    · rw [ih (by omega) h, h k (fun h => e h.symm)]
      simp
theorem oddB_bit (a : BitVec 32) {t : Nat} (ht : t < 32) : oddB a (1#32 <<< t) = a.getLsbD t := by
  unfold oddB
  rw [par_size, par_one _ t 32 ht]
  · rw [BitVec.getLsbD_and, getLsbD_bit]; simp [ht]
  · intro i hi
    rw [BitVec.getLsbD_and, getLsbD_bit]
    have : ¬ t = i := fun h => hi h.symm
    simp [this]
/-! ### greatest bits -/
def topN (x : BitVec 32) : Nat := Lib.bitLen x.toNat - 1
set_option maxRecDepth 100000 in
theorem len_top8 : ∀ n : Fin 256, n.val ≠ 0 → ∃ t : Fin 8, Lib.bitLen n.val = t.val + 1 ∧ n.val.testBit t.val = true ∧ ∀ j : Fin 8, t.val < j.val → n.val.testBit j.val = false := by decide +kernel
theorem fit_eight {n : Nat} (hn : n ≤ 8) {a : BitVec 32} (h : fitB n a = true) : fitB 8 a = true := fitB_iff.2 fun i hi => by have := fitB_iff.1 h i hi; omega
theorem fit8_lt {x : BitVec 32} (h : fitB 8 x = true) : x.toNat < 256 := by
  rw [fitB_lt (by omega), decide_eq_true_eq, BitVec.lt_def] at h
  exact h
theorem top_spec {x : BitVec 32} (hf : fitB 8 x = true) (h0 : x ≠ 0#32) : Lib.bitLen x.toNat = topN x + 1 ∧ topN x < 8 ∧ x.getLsbD (topN x) = true ∧ ∀ j, topN x < j → x.getLsbD j = false := by
  obtain ⟨t, h1, h2, h3⟩ := len_top8 ⟨x.toNat, fit8_lt hf⟩ (fun h => h0 (BitVec.eq_of_toNat_eq h))
  simp only at h1 h2 h3
  have e : topN x = t.val := by unfold topN; omega
  rw [e]
  refine ⟨h1, t.isLt, by rw [BitVec.getLsbD]; exact h2, fun j hj => ?_⟩
  by_cases h : j < 8
  · rw [BitVec.getLsbD]; exact h3 ⟨j, h⟩ hj
  · cases hb : x.getLsbD j
    · rfl
    · exact absurd (fitB_iff.1 hf j hb) h
theorem top_uniq {x : BitVec 32} {t : Nat} (hf : fitB 8 x = true) (h0 : x.getLsbD t = true) (h1 : ∀ j, t < j → x.getLsbD j = false) : topN x = t := by
  have hx : x ≠ 0#32 := fun h => by rw [h] at h0; simp at h0
  obtain ⟨_, _, h2, h3⟩ := top_spec hf hx
  rcases Nat.lt_trichotomy (topN x) t with h | h | h
  · rw [h3 t h] at h0; cases h0
  · exact h
  · rw [h1 _ h] at h2; cases h2
set_option maxRecDepth 100000 in
theorem single8 : ∀ n : Fin 256, BitVec.ofNat 32 n.val &&& (BitVec.ofNat 32 n.val - 1#32) = 0#32 → ∀ k : Fin 8, (BitVec.ofNat 32 n.val).getLsbD k.val = true → BitVec.ofNat 32 n.val = 1#32 <<< k.val := by decide +kernel
set_option maxRecDepth 100000 in
theorem single8' : ∀ k : Fin 8, (1#32 <<< k.val) &&& ((1#32 <<< k.val) - 1#32) = 0#32 := by decide +kernel
/-- a word of one bit -/
def oneB (x : BitVec 32) : Bool := x &&& (x - 1#32) == 0#32
theorem oneB_single {x : BitVec 32} (hf : fitB 8 x = true) (h : oneB x = true) {k : Nat} (hk : x.getLsbD k = true) : x = 1#32 <<< k := by
  unfold oneB at h
  rw [beq_iff_eq] at h
  have h8 := fitB_iff.1 hf k hk
  have e : x = BitVec.ofNat 32 x.toNat := by simp
  rw [e] at h hk ⊢
  exact single8 ⟨x.toNat, fit8_lt hf⟩ h ⟨k, h8⟩ hk
theorem xor_self_bit {x y : BitVec 32} (i : Nat) : (x ^^^ y).getLsbD i = Bool.xor (x.getLsbD i) (y.getLsbD i) := BitVec.getLsbD_xor
theorem fit_xor {n : Nat} {x y : BitVec 32} (hx : fitB n x = true) (hy : fitB n y = true) : fitB n (x ^^^ y) = true := by
  rw [fitB_iff]
  intro i hi
  rw [BitVec.getLsbD_xor] at hi
  cases h : x.getLsbD i
  · rw [h] at hi; exact fitB_iff.1 hy i (by simpa using hi)
  · exact fitB_iff.1 hx i h
/-! ### rows -/
def xorR (r o : Ru) : Ru := (r.1 ^^^ o.1, r.2 ^^^ o.2)
/-- r, less o where r has o's greatest bit -/
def cut1 (r o : Ru) : Ru := if r.1.getLsbD (topN o.1) then xorR r o else r
def lessR (l : List Ru) (r : Ru) : Ru := l.foldl cut1 r
/-- the first k rows without r's greatest bit -/
def fixR (x : Ru) (k : Nat) (l : List Ru) : List Ru := (l.take k).map (fun o => cut1 o x) ++ l.drop k
theorem fixR_length (x : Ru) (k : Nat) (l : List Ru) : (fixR x k l).length = l.length := by
  unfold fixR
  simp
  omega
theorem fixR_at {x : Ru} {k : Nat} {l : List Ru} {i : Nat} (h : i < l.length) : (fixR x k l)[i]'(by rw [fixR_length]; exact h) = if i < k then cut1 l[i] x else l[i] := by
  unfold fixR
  by_cases hi : i < k
  · rw [if_pos hi, List.getElem_append_left (by simp; omega)]
    simp
  · rw [if_neg hi, List.getElem_append_right (by simp; omega)]
    simp
    congr 1
    omega
def addQ (l : List Ru) (i : Nat) (q : BitVec 32) : List Ru :=
  if (lessR l (q, 1#32 <<< i)).1 == 0#32 then l else fixR (lessR l (q, 1#32 <<< i)) l.length l ++ [lessR l (q, 1#32 <<< i)]
/-- the rows of the first k questions -/
def rowsQ (qs : List (BitVec 32)) : Nat → List Ru
  | 0 => []
  | k + 1 => addQ (rowsQ qs k) k (nth qs k)
theorem addQ_len (l : List Ru) (i : Nat) (q : BitVec 32) : (addQ l i q).length ≤ l.length + 1 := by
  unfold addQ
  split
  · omega
  · rw [List.length_append, fixR_length]; simp
theorem rowsQ_len (qs : List (BitVec 32)) (k : Nat) : (rowsQ qs k).length ≤ k := by
  induction k with
  | zero => exact Nat.le_refl _
  | succ k ih => exact Nat.le_trans (addQ_len _ _ _) (by omega)
/-- rows that are nothing to each other's greatest bits -/
def Ref (n : Nat) (l : List Ru) : Prop := (∀ i, ∀ hi : i < l.length, l[i].1 ≠ 0#32 ∧ fitB n l[i].1 = true) ∧ ∀ i j, ∀ hi : i < l.length, ∀ hj : j < l.length, i ≠ j → l[j].1.getLsbD (topN l[i].1) = false
section
variable {n : Nat} {l : List Ru} {r : Ru}
theorem Ref.nil (n : Nat) : Ref n [] := ⟨fun i hi => by simp at hi, fun i j hi => by simp at hi⟩
theorem Ref.top (h : Ref n l) (hn : n ≤ 8) {i : Nat} (hi : i < l.length) : Lib.bitLen l[i].1.toNat = topN l[i].1 + 1 ∧ topN l[i].1 < 8 ∧ l[i].1.getLsbD (topN l[i].1) = true ∧ ∀ j, topN l[i].1 < j → l[i].1.getLsbD j = false :=
  top_spec (fit_eight hn (h.1 i hi).2) (h.1 i hi).1
/-- what is left behind k rows -/
theorem less_take (h : Ref n l) (hn : n ≤ 8) (hr : fitB n r.1 = true) : ∀ k, k ≤ l.length → fitB n (lessR (l.take k) r).1 = true ∧ ∀ i, ∀ hi : i < l.length, i < k → (lessR (l.take k) r).1.getLsbD (topN l[i].1) = false := by
  intro k
  induction k with
  | zero => intro _; exact ⟨hr, fun i hi h => by omega⟩
  | succ k ih =>
    intro hk
    have hkl : k < l.length := by omega
    obtain ⟨h1, h2⟩ := ih (by omega)
    have e : lessR (l.take (k + 1)) r = cut1 (lessR (l.take k) r) l[k] := foldl_snoc cut1 r l k hkl
    rw [e]
    generalize lessR (l.take k) r = x at h1 h2 ⊢
    have ht := (h.top hn hkl).2.2.1
    unfold cut1
    cases hb : x.1.getLsbD (topN l[k].1)
    · rw [if_neg (by simp)]
      refine ⟨h1, fun i hi hik => ?_⟩
      by_cases e2 : i = k
      · subst e2; exact hb
      · exact h2 i hi (by omega)
    · rw [if_pos rfl]
      refine ⟨fit_xor h1 (h.1 k hkl).2, fun i hi hik => ?_⟩
      show (x.1 ^^^ l[k].1).getLsbD _ = false
      rw [BitVec.getLsbD_xor]
      by_cases e2 : i = k
      · subst e2; rw [hb, ht]; rfl
      · rw [h2 i hi (by omega), h.2 i k hi hkl e2]; rfl
theorem less_all (h : Ref n l) (hn : n ≤ 8) (hr : fitB n r.1 = true) : fitB n (lessR l r).1 = true ∧ ∀ i, ∀ hi : i < l.length, (lessR l r).1.getLsbD (topN l[i].1) = false := by
  have := less_take h hn hr l.length (Nat.le_refl _)
  rw [List.take_length] at this
  exact ⟨this.1, fun i hi => this.2 i hi hi⟩
theorem cut_top (h : Ref n l) (hn : n ≤ 8) (hx : fitB n r.1 = true) (h0 : r.1 ≠ 0#32) (hz : ∀ i, ∀ hi : i < l.length, r.1.getLsbD (topN l[i].1) = false) {i : Nat} (hi : i < l.length) :
    topN (cut1 l[i] r).1 = topN l[i].1 ∧ (cut1 l[i] r).1.getLsbD (topN r.1) = false ∧ fitB n (cut1 l[i] r).1 = true ∧ (cut1 l[i] r).1 ≠ 0#32 := by
  obtain ⟨_, _, hr1, hr2⟩ := top_spec (fit_eight hn hx) h0
  obtain ⟨_, _, ht1, ht2⟩ := h.top hn hi
  unfold cut1
  cases hb : l[i].1.getLsbD (topN r.1)
  · rw [if_neg (by simp)]
    exact ⟨rfl, hb, (h.1 i hi).2, (h.1 i hi).1⟩
  · rw [if_pos rfl]
    have hlt : topN r.1 < topN l[i].1 := by
      rcases Nat.lt_trichotomy (topN r.1) (topN l[i].1) with h3 | h3 | h3
      · exact h3
      · have := hz i hi; rw [← h3, hr1] at this; cases this
      · rw [ht2 _ h3] at hb; cases hb
    have hf := fit_xor (h.1 i hi).2 hx
    have hbit : (xorR l[i] r).1.getLsbD (topN l[i].1) = true := by
      show (l[i].1 ^^^ r.1).getLsbD _ = true
      rw [BitVec.getLsbD_xor, ht1, hz i hi]; rfl
    refine ⟨top_uniq (fit_eight hn hf) hbit (fun j hj => ?_), ?_, hf, fun e => by rw [e] at hbit; simp at hbit⟩
    · show (l[i].1 ^^^ r.1).getLsbD _ = false
      rw [BitVec.getLsbD_xor, ht2 j hj, hr2 j (by omega)]; rfl
    · show (l[i].1 ^^^ r.1).getLsbD _ = false
      rw [BitVec.getLsbD_xor, hb, hr1]; rfl
theorem cut_bit (h : Ref n l) (hz : ∀ i, ∀ hi : i < l.length, r.1.getLsbD (topN l[i].1) = false) {i j : Nat} (hi : i < l.length) (hj : j < l.length) (hij : i ≠ j) : (cut1 l[j] r).1.getLsbD (topN l[i].1) = false := by
  unfold cut1
  split
  · show (l[j].1 ^^^ r.1).getLsbD _ = false
    rw [BitVec.getLsbD_xor, h.2 i j hi hj hij, hz i hi]; rfl
  · exact h.2 i j hi hj hij
theorem Ref.add (h : Ref n l) (hn : n ≤ 8) (hx : fitB n r.1 = true) (h0 : r.1 ≠ 0#32) (hz : ∀ i, ∀ hi : i < l.length, r.1.getLsbD (topN l[i].1) = false) : Ref n (fixR r l.length l ++ [r]) := by
  have hlen : (fixR r l.length l).length = l.length := fixR_length _ _ _
  have at1 : ∀ i, ∀ hi : i < l.length, (fixR r l.length l ++ [r])[i]'(by simp [hlen]; omega) = cut1 l[i] r := by
    intro i hi
    rw [List.getElem_append_left (by rw [hlen]; exact hi), fixR_at hi, if_pos hi]
  have at2 : (fixR r l.length l ++ [r])[l.length]'(by simp [hlen]) = r := by
    rw [List.getElem_append_right (by rw [hlen]; exact Nat.le_refl _)]
    simp [hlen]
  constructor
  · intro i hi
    rw [List.length_append, hlen] at hi
    simp at hi
    by_cases hl : i < l.length
    · rw [at1 i hl]
      obtain ⟨_, _, h3, h4⟩ := cut_top h hn hx h0 hz hl
      exact ⟨h4, h3⟩
    · obtain rfl : i = l.length := by omega
      rw [at2]
      exact ⟨h0, hx⟩
  · intro i j hi hj hij
    rw [List.length_append, hlen] at hi hj
    simp at hi hj
    by_cases hl : i < l.length
    · rw [at1 i hl, (cut_top h hn hx h0 hz hl).1]
      by_cases hl2 : j < l.length
      · rw [at1 j hl2]
        exact cut_bit h hz hl hl2 hij
      · obtain rfl : j = l.length := by omega
        rw [at2]
        exact hz i hl
    · obtain rfl : i = l.length := by omega
      have hl2 : j < l.length := by omega
      rw [at2, at1 j hl2]
      exact (cut_top h hn hx h0 hz hl2).2.1
theorem Ref.addQ (h : Ref n l) (hn : n ≤ 8) {q : BitVec 32} (hq : fitB n q = true) (i : Nat) : Ref n (addQ l i q) := by
  unfold Go.Proofs.Ytodkpojmonikiaa.addQ
  split
  · exact h
  · rename_i hne
    obtain ⟨h1, h2⟩ := less_all (r := (q, 1#32 <<< i)) h hn hq
    exact h.add hn h1 (by simpa using hne) h2
theorem rowsQ_ref {qs : List (BitVec 32)} (hn : n ≤ 8) (hq : ∀ q ∈ qs, fitB n q = true) : ∀ k, k ≤ qs.length → Ref n (rowsQ qs k) := by
  intro k
  induction k with
  | zero => intro _; exact Ref.nil n
  | succ k ih =>
    intro hk
    refine (ih (by omega)).addQ hn ?_ k
    rw [nth_eq _ _ (by omega)]
    exact hq _ (List.getElem_mem _)
/-- a and b agree on all of them -/
def Same (a b : BitVec 32) (l : List Ru) : Prop := ∀ o ∈ l, oddB a o.1 = oddB b o.1
theorem cut_same {a b : BitVec 32} {o : Ru} (hr : oddB a r.1 = oddB b r.1) (ho : oddB a o.1 = oddB b o.1) : oddB a (cut1 r o).1 = oddB b (cut1 r o).1 := by
  unfold cut1
  split
  · show oddB a (r.1 ^^^ o.1) = oddB b (r.1 ^^^ o.1)
    rw [oddB_xor, oddB_xor, hr, ho]
  · exact hr
theorem less_same {a b : BitVec 32} : ∀ (l : List Ru) (r : Ru), Same a b l → oddB a r.1 = oddB b r.1 → oddB a (lessR l r).1 = oddB b (lessR l r).1 := by
  intro l
  induction l with
  | nil => intro r _ h; exact h
  | cons o l ih => intro r hs h; exact ih _ (fun x hx => hs x (by simp [hx])) (cut_same h (hs o (by simp)))
theorem Same.addQ {a b : BitVec 32} (h : Same a b l) {q : BitVec 32} (hq : oddB a q = oddB b q) (i : Nat) : Same a b (addQ l i q) := by
  unfold Go.Proofs.Ytodkpojmonikiaa.addQ
  split
  · exact h
  · have hr := less_same l (q, 1#32 <<< i) h hq
    intro o ho
    rw [List.mem_append, List.mem_singleton] at ho
    rcases ho with ho | rfl
    · unfold fixR at ho
      rw [List.drop_of_length_le (Nat.le_refl _), List.append_nil, List.take_length, List.mem_map] at ho
      obtain ⟨p, hp, rfl⟩ := ho
      exact cut_same (h p hp) hr
    · exact hr
theorem rowsQ_same {a b : BitVec 32} {qs : List (BitVec 32)} (hq : ∀ q ∈ qs, oddB a q = oddB b q) : ∀ k, k ≤ qs.length → Same a b (rowsQ qs k) := by
  intro k
  induction k with
  | zero => intro _ o ho; cases ho
  | succ k ih =>
    intro hk
    refine (ih (by omega)).addQ ?_ k
    rw [nth_eq _ _ (by omega)]
    exact hq _ (List.getElem_mem _)
theorem nodup_le : ∀ (l m : List Nat), l.Nodup → (∀ x ∈ l, x ∈ m) → l.length ≤ m.length := by
  intro l
  induction l with
  | nil => intro m _ _; simp
  | cons x t ih =>
    intro m hn hs
    rw [List.nodup_cons] at hn
    have hx : x ∈ m := hs x (by simp)
    have h1 := ih (m.erase x) hn.2 (fun y hy => by
      have hne : y ≠ x := fun e => hn.1 (e ▸ hy)
      exact (List.mem_erase_of_ne hne).2 (hs y (by simp [hy])))
    rw [List.length_erase_of_mem hx] at h1
    have : 0 < m.length := List.length_pos_of_mem hx
    rw [List.length_cons]
    omega
/-! ### what is told -/
def tell1 (s : BitVec 32) (r : Ru) : BitVec 32 := if oneB r.1 then s ||| r.1 else s
def toldR (l : List Ru) : BitVec 32 := l.foldl tell1 0#32
theorem told_bit : ∀ (l : List Ru) (s : BitVec 32) (k : Nat), (l.foldl tell1 s).getLsbD k = true ↔ s.getLsbD k = true ∨ ∃ r ∈ l, oneB r.1 = true ∧ r.1.getLsbD k = true := by
  intro l
  induction l with
  | nil => intro s k; simp
  | cons r l ih =>
    intro s k
    rw [List.foldl_cons, ih]
    unfold tell1
    constructor
    · rintro (h | ⟨x, hx, h⟩)
      · split at h
        · rename_i h1
          rw [BitVec.getLsbD_or, Bool.or_eq_true] at h
          rcases h with h | h
          · exact .inl h
          · exact .inr ⟨r, by simp, h1, h⟩
        · exact .inl h
      · exact .inr ⟨x, by simp [hx], h⟩
    · rintro (h | ⟨x, hx, h1, h2⟩)
      · left
        split
        · rw [BitVec.getLsbD_or, h]; rfl
        · exact h
      · rw [List.mem_cons] at hx
        rcases hx with rfl | hx
        · left; rw [if_pos h1, BitVec.getLsbD_or, h2]; simp
        · exact .inr ⟨x, hx, h1, h2⟩
theorem toldR_bit {k : Nat} : (toldR l).getLsbD k = true ↔ ∃ r ∈ l, oneB r.1 = true ∧ r.1.getLsbD k = true := by
  unfold toldR
  rw [told_bit]
  simp
theorem toldR_fit (h : Ref n l) : fitB n (toldR l) = true := by
  rw [fitB_iff]
  intro k hk
  obtain ⟨r, hr, _, h2⟩ := toldR_bit.1 hk
  obtain ⟨i, hi, rfl⟩ := List.getElem_of_mem hr
  exact fitB_iff.1 (h.1 i hi).2 k h2
/-- the law of SumsBit -/
theorem told_same (h : Ref n l) (hn : n ≤ 8) {a b : BitVec 32} (hs : Same a b l) {k : Nat} (hk : (toldR l).getLsbD k = true) : a.getLsbD k = b.getLsbD k := by
  obtain ⟨r, hr, h1, h2⟩ := toldR_bit.1 hk
  have hr0 := hr
  obtain ⟨i, hi, rfl⟩ := List.getElem_of_mem hr
  have e := oneB_single (fit_eight hn (h.1 i hi).2) h1 h2
  have hk8 := fitB_iff.1 (fit_eight hn (h.1 i hi).2) k h2
  have := hs _ hr0
  rw [e, oddB_bit a (by omega), oddB_bit b (by omega)] at this
  exact this
/-- no bit is told: fewer rows than things -/
theorem left_one (h : Ref n l) (hn : n ≤ 8) (h1 : 1 ≤ n) (h0 : toldR l = 0#32) : l.length < n := by
  have hnd : (l.map fun r => topN r.1).Nodup := by
    rw [List.nodup_iff_pairwise_ne, List.pairwise_iff_getElem]
    intro i j hi hj hij e
    simp at hi hj e
    have := h.2 i j hi hj (by omega)
    rw [e, (h.top hn hj).2.2.1] at this
    cases this
  have hlt : ∀ t ∈ l.map fun r => topN r.1, t < n := by
    intro t ht
    obtain ⟨r, hr, rfl⟩ := List.mem_map.1 ht
    obtain ⟨i, hi, rfl⟩ := List.getElem_of_mem hr
    exact fitB_iff.1 (h.1 i hi).2 _ (h.top hn hi).2.2.1
  have hle : l.length ≤ n := by
    have := nodup_le (l.map fun r => topN r.1) (List.range n) hnd fun t ht => List.mem_range.2 (hlt t ht)
    simpa using this
  rcases Nat.lt_or_ge l.length n with hc | hc
  · exact hc
  exfalso
  have hall : ∀ t, t < n → t ∈ l.map fun r => topN r.1 := by
    intro t ht
    rcases Classical.em (t ∈ l.map fun r => topN r.1) with h2 | h2
    · exact h2
    exfalso
    have := nodup_le (t :: l.map fun r => topN r.1) (List.range n) (List.nodup_cons.2 ⟨h2, hnd⟩) (fun x hx => by
      rw [List.mem_cons] at hx
      rcases hx with rfl | hx
      · exact List.mem_range.2 ht
      · exact List.mem_range.2 (hlt x hx))
    simp at this
    omega
  have hl0 : 0 < l.length := by omega
  -- the first row has its own greatest bit alone
  obtain ⟨_, ht8, ht1, _⟩ := h.top hn hl0
  have hone : l[0].1 = 1#32 <<< topN l[0].1 := by
    apply BitVec.eq_of_getLsbD_eq
    intro i _
    rw [getLsbD_bit]
    by_cases e : topN l[0].1 = i
    · rw [← e, ht1]; simp; omega
    · simp only [e, decide_false, Bool.false_and]
      cases hb : l[0].1.getLsbD i
      · rfl
      · have hin := fitB_iff.1 (h.1 0 hl0).2 i hb
        obtain ⟨r, hr, hri⟩ := List.mem_map.1 (hall i hin)
        obtain ⟨j, hj, rfl⟩ := List.getElem_of_mem hr
        have hj0 : j ≠ 0 := fun e2 => by subst e2; exact e hri
        have := h.2 j 0 hj hl0 hj0
        rw [hri, hb] at this
        cases this
  have : (toldR l).getLsbD (topN l[0].1) = true := toldR_bit.2 ⟨l[0], List.getElem_mem _, by
    unfold oneB
    rw [beq_iff_eq]
    have hs := single8' ⟨topN l[0].1, ht8⟩
    simp only [← hone] at hs
    exact hs, ht1⟩
  rw [h0] at this
  simp at this
end
end Go.Proofs.Ytodkpojmonikiaa
