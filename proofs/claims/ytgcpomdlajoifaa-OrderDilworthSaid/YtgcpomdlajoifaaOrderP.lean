/- Who is under whom: plain facts, with no program in sight. -/
import Derived.Test.YtgcpomdlajoifaaSl
namespace Go.Proofs.Ytgcpomdlajoifaa
open Go Go.RowKit

abbrev Pr := Int × Int
/-- b is reached from a by pairs -/
def Reach (ps : List Pr) (a b : Int) : Prop := ∀ S : Int → Prop, S a → (∀ p ∈ ps, S p.1 → S p.2) → S b
section
variable {ps : List Pr}
theorem Reach.refl (a : Int) : Reach ps a a := fun _ h _ => h
theorem Reach.trans {a b c : Int} (h : Reach ps a b) (k : Reach ps b c) : Reach ps a c := fun S ha hp => k S (h S ha hp) hp
theorem Reach.pair {p : Pr} (h : p ∈ ps) : Reach ps p.1 p.2 := fun _ ha hp => hp p h ha
theorem Reach.step {a : Int} {p : Pr} (h : Reach ps a p.1) (hp : p ∈ ps) : Reach ps a p.2 := h.trans (Reach.pair hp)
end
open Classical in
/-- is b reached from a? -/
noncomputable def under (ps : List Pr) (a b : Int) : Bool := decide (Reach ps a b)
theorem under_iff {ps : List Pr} {a b : Int} : under ps a b = true ↔ Reach ps a b := by
  exact @decide_eq_true_iff _ (Classical.propDecidable _)
/-- a pair of things below n -/
def prOk (n : Int) (p : Pr) : Bool := decide (0 ≤ p.1) && decide (p.1 < n) && decide (0 ≤ p.2) && decide (p.2 < n)
theorem prOk_iff {n : Int} {p : Pr} : prOk n p = true ↔ (0 ≤ p.1 ∧ p.1 < n) ∧ 0 ≤ p.2 ∧ p.2 < n := by
  unfold prOk
  simp only [Bool.and_eq_true, decide_eq_true_eq]
  constructor
  · rintro ⟨⟨⟨h1, h2⟩, h3⟩, h4⟩
    exact ⟨⟨h1, h2⟩, h3, h4⟩
  · rintro ⟨⟨h1, h2⟩, h3, h4⟩
    exact ⟨⟨⟨h1, h2⟩, h3⟩, h4⟩
/-- are two things below m under each other, the later one below k? -/
noncomputable def twin (ps : List Pr) (i j : Nat) : Bool := under ps i j && under ps j i
/-- the order's code -/
noncomputable def ordF (n : Int) (ps : List Pr) : Int :=
  if n < 1 ∨ 6 < n ∨ 20 < ps.length then 1
  else if ps.all (prOk n) = false then 2
  else if (List.range n.toNat).any (fun i => (List.range i).any (twin ps i)) = true then 3
  else 0
theorem ordF_zero {n : Int} {ps : List Pr} (h : ordF n ps = 0) : (1 ≤ n ∧ n ≤ 6 ∧ ps.length ≤ 20) ∧ (∀ p ∈ ps, (0 ≤ p.1 ∧ p.1 < n) ∧ 0 ≤ p.2 ∧ p.2 < n) ∧
    ∀ i j : Nat, (i : Int) < n → (j : Int) < n → under ps i j = true → under ps j i = true → i = j := by
  unfold ordF at h
  split at h
  · exact absurd h (by decide)
  rename_i h1
  split at h
  · exact absurd h (by decide)
  rename_i h2
  split at h
  · exact absurd h (by decide)
  rename_i h3
  rw [Bool.not_eq_false, List.all_eq_true] at h2
  refine ⟨by omega, fun p hp => prOk_iff.1 (h2 p hp), ?_⟩
  have key : ∀ i j : Nat, (i : Int) < n → j < i → ¬ (under ps i j = true ∧ under ps j i = true) := by
    rintro i j hi hj ⟨ha, hb⟩
    apply h3
    rw [List.any_eq_true]
    refine ⟨i, List.mem_range.2 (by omega), ?_⟩
    rw [List.any_eq_true]
    exact ⟨j, List.mem_range.2 hj, by unfold twin; rw [ha, hb]; rfl⟩
  intro i j hi hj ha hb
  rcases Nat.lt_trichotomy i j with hlt | he | hlt
  · exact absurd ⟨hb, ha⟩ (key j i hj hlt)
  · exact he
  · exact absurd ⟨ha, hb⟩ (key i j hi hlt)

/-! ### the closing, thing by thing -/
def matR (ps : List Pr) : Nat → Nat → Nat → Bool
  | 0, i, j => i == j || ps.contains ((i : Int), (j : Int))
  | k + 1, i, j => matR ps k i j || (matR ps k i k && matR ps k k j)
theorem matR_col (ps : List Pr) (k i : Nat) : matR ps (k + 1) i k = matR ps k i k := by
  show (matR ps k i k || (matR ps k i k && matR ps k k k)) = _
  cases matR ps k i k <;> rfl
theorem matR_row (ps : List Pr) (k j : Nat) : matR ps (k + 1) k j = matR ps k k j := by
  show (matR ps k k j || (matR ps k k k && matR ps k k j)) = _
  cases matR ps k k j <;> simp
theorem matR_up (ps : List Pr) (k i j : Nat) (h : matR ps k i j = true) : matR ps (k + 1) i j = true := by
  show (matR ps k i j || _) = true
  rw [h]
  rfl
theorem matR_le (ps : List Pr) (i j : Nat) (k : Nat) : ∀ d, matR ps k i j = true → matR ps (k + d) i j = true := by
  intro d
  induction d with
  | zero => exact id
  | succ d ih => exact fun h => matR_up ps (k + d) i j (ih h)
theorem matR_mid (ps : List Pr) : ∀ k v, v < k → ∀ i j, matR ps k i v = true → matR ps k v j = true → matR ps k i j = true := by
  intro k
  induction k with
  | zero => intro v h; omega
  | succ k ih =>
    intro v hv i j h1 h2
    show (matR ps k i j || (matR ps k i k && matR ps k k j)) = true
    have goal_l : matR ps k i j = true → (matR ps k i j || (matR ps k i k && matR ps k k j)) = true := fun h => by rw [h]; rfl
    have goal_r : matR ps k i k = true → matR ps k k j = true → (matR ps k i j || (matR ps k i k && matR ps k k j)) = true := fun h h' => by rw [h, h']; simp
    have h1' : matR ps k i v = true ∨ (matR ps k i k = true ∧ matR ps k k v = true) := by
      have : (matR ps k i v || (matR ps k i k && matR ps k k v)) = true := h1
      rw [Bool.or_eq_true, Bool.and_eq_true] at this
      exact this
    have h2' : matR ps k v j = true ∨ (matR ps k v k = true ∧ matR ps k k j = true) := by
      have : (matR ps k v j || (matR ps k v k && matR ps k k j)) = true := h2
      rw [Bool.or_eq_true, Bool.and_eq_true] at this
      exact this
    by_cases hvk : v = k
    · subst hvk
      refine goal_r ?_ ?_
      · rcases h1' with h | h
        · exact h
        · exact h.1
      · rcases h2' with h | h
        · exact h
        · exact h.2
    · have hvk : v < k := by omega
      rcases h1' with a | ⟨a1, a2⟩
      · rcases h2' with b | ⟨b1, b2⟩
        · exact goal_l (ih v hvk i j a b)
        · exact goal_r (ih v hvk i k a b1) b2
      · rcases h2' with b | ⟨_, b2⟩
        · exact goal_r a1 (ih v hvk k j a2 b)
        · exact goal_r a1 b2
theorem matR_sound (ps : List Pr) : ∀ k i j, matR ps k i j = true → Reach ps (i : Int) (j : Int) := by
  intro k
  induction k with
  | zero =>
    intro i j h
    have h : (i == j || ps.contains ((i : Int), (j : Int))) = true := h
    rw [Bool.or_eq_true, beq_iff_eq, List.contains_iff_mem] at h
    rcases h with rfl | h
    · exact Reach.refl _
    · exact Reach.pair h
  | succ k ih =>
    intro i j h
    have h : (matR ps k i j || (matR ps k i k && matR ps k k j)) = true := h
    rw [Bool.or_eq_true, Bool.and_eq_true] at h
    rcases h with h | ⟨h1, h2⟩
    · exact ih i j h
    · exact (ih i k h1).trans (ih k j h2)
theorem matR_under {ps : List Pr} {n : Nat} (hp : ∀ p ∈ ps, (0 ≤ p.1 ∧ p.1 < (n : Int)) ∧ 0 ≤ p.2 ∧ p.2 < (n : Int)) (i j : Nat) (hi : i < n) : matR ps n i j = under ps i j := by
  rw [Bool.eq_iff_iff, under_iff]
  constructor
  · exact matR_sound ps n i j
  · intro h
    have key := h (fun x => ∃ v : Nat, v < n ∧ x = (v : Int) ∧ matR ps n i v = true) ⟨i, hi, rfl, by
      have := matR_le ps i i 0 n (by show (i == i || _) = true; simp)
      rwa [Nat.zero_add] at this⟩ ?_
    · obtain ⟨v, _, e, h2⟩ := key
      have : j = v := by omega
      rw [this]
      exact h2
    · rintro ⟨p1, p2⟩ hm ⟨v, hv, e, h2⟩
      obtain ⟨_, h3, h4⟩ := hp _ hm
      have e : p1 = (v : Int) := e
      have h3 : 0 ≤ p2 := h3
      have h4 : p2 < (n : Int) := h4
      subst e
      obtain ⟨u, rfl⟩ := Int.eq_ofNat_of_zero_le h3
      refine ⟨u, by omega, rfl, matR_mid ps n v hv i u h2 ?_⟩
      have : matR ps 0 v u = true := by
        show (v == u || ps.contains ((v : Int), (u : Int))) = true
        rw [Bool.or_eq_true, List.contains_iff_mem]
        exact .inr hm
      have := matR_le ps v u 0 n this
      rwa [Nat.zero_add] at this

/-! ### what is seen from a thing -/
theorem nodup_len : ∀ (l m : List Int), l.Nodup → (∀ x ∈ l, x ∈ m) → l.length ≤ m.length := by
  intro l
  induction l with
  | nil => intro m _ _; simp
  | cons x t ih =>
    intro m hn hs
    rw [List.nodup_cons] at hn
    have hx : x ∈ m := hs x (by simp)
    have h1 := ih (m.erase x) hn.2 (fun y hy => by
      have hne : y ≠ x := fun e => hn.1 (e ▸ hy)
      exact (List.mem_erase_of_ne hne).2 (hs y (by simp [hy])))
    rw [List.length_erase_of_mem hx] at h1
    have : 0 < m.length := List.length_pos_of_mem hx
    rw [List.length_cons]
    omega
/-- here: l, of which the first k are looked through; of the next one m pairs -/
def UInv (ps : List Pr) (a : Int) (l : List Int) (k m : Nat) : Prop :=
  (a ∈ l ∧ l.Nodup ∧ ∀ x ∈ l, Reach ps a x ∧ x ∈ a :: ps.map (·.2)) ∧ k ≤ l.length ∧ (∀ x ∈ l.take k, ∀ p ∈ ps, p.1 = x → p.2 ∈ l) ∧ ∀ p ∈ ps.take m, p.1 = l.getD k 0 → p.2 ∈ l
section
variable {ps : List Pr} {a : Int} {l : List Int} {k m : Nat}
theorem UInv.start (ps : List Pr) (a : Int) : UInv ps a [a] 0 0 := by
  refine ⟨⟨by simp, by simp, fun x hx => ?_⟩, by simp, by simp, by simp⟩
  rw [List.mem_singleton] at hx
  subst hx
  exact ⟨Reach.refl _, by simp⟩
theorem UInv.len (h : UInv ps a l k m) : l.length ≤ ps.length + 1 := by
  have := nodup_len l (a :: ps.map (·.2)) h.1.2.1 (fun x hx => (h.1.2.2 x hx).2)
  simpa using this
theorem UInv.skip (h : UInv ps a l k m) (hm : m < ps.length) (hno : ps[m].1 = l.getD k 0 → ps[m].2 ∈ l) : UInv ps a l k (m + 1) := by
  refine ⟨h.1, h.2.1, h.2.2.1, fun p hp => ?_⟩
  rw [take_snoc _ _ hm, List.mem_append, List.mem_singleton] at hp
  rcases hp with hp | rfl
  · exact h.2.2.2 p hp
  · exact hno
theorem UInv.add (h : UInv ps a l k m) (hm : m < ps.length) (hk : k < l.length) (hy : ps[m].1 = l.getD k 0) (hno : ps[m].2 ∉ l) : UInv ps a (l ++ [ps[m].2]) k (m + 1) := by
  obtain ⟨⟨h1, h2, h3⟩, h4, h5, h6⟩ := h
  have hmem : ps[m] ∈ ps := List.getElem_mem hm
  have e : (l ++ [ps[m].2]).getD k 0 = l.getD k 0 := by
    rw [List.getD_eq_getElem?_getD, List.getD_eq_getElem?_getD, List.getElem?_append_left hk]
  have hkl : l.getD k 0 ∈ l := by
    rw [List.getD_eq_getElem?_getD, List.getElem?_eq_getElem hk]
    exact List.getElem_mem hk
  refine ⟨⟨by simp [h1], ?_, ?_⟩, by simp; omega, ?_, ?_⟩
  · rw [List.nodup_append]
    refine ⟨h2, by simp, ?_⟩
    intro x hx y hy2 e2
    rw [List.mem_singleton] at hy2
    subst hy2 e2
    exact hno hx
  · intro x hx
    rw [List.mem_append, List.mem_singleton] at hx
    rcases hx with hx | rfl
    · exact h3 x hx
    · exact ⟨(hy ▸ (h3 _ hkl).1 : Reach ps a ps[m].1).step hmem, List.mem_cons_of_mem _ (List.mem_map.2 ⟨_, hmem, rfl⟩)⟩
  · intro x hx p hp hpx
    rw [List.take_append_of_le_length h4] at hx
    rw [List.mem_append]
    exact .inl (h5 x hx p hp hpx)
  · intro p hp hpx
    rw [e] at hpx
    rw [take_snoc _ _ hm, List.mem_append, List.mem_singleton] at hp
    rw [List.mem_append, List.mem_singleton]
    rcases hp with hp | rfl
    · exact .inl (h6 p hp hpx)
    · exact .inr rfl
theorem UInv.next (h : UInv ps a l k ps.length) (hk : k < l.length) : UInv ps a l (k + 1) 0 := by
  obtain ⟨h1, h4, h5, h6⟩ := h
  refine ⟨h1, by omega, ?_, by simp⟩
  intro x hx p hp hpx
  rw [take_snoc _ _ hk, List.mem_append, List.mem_singleton] at hx
  rcases hx with hx | rfl
  · exact h5 x hx p hp hpx
  · refine h6 p (by rw [List.take_length]; exact hp) ?_
    rw [hpx, List.getD_eq_getElem?_getD, List.getElem?_eq_getElem hk]
    rfl
theorem UInv.done (h : UInv ps a l k 0) (hk : ¬ k < l.length) (b : Int) : l.contains b = under ps a b := by
  obtain ⟨⟨h1, _, h3⟩, _, h5, _⟩ := h
  rw [List.take_of_length_le (by omega)] at h5
  rw [Bool.eq_iff_iff, under_iff, List.contains_iff_mem]
  exact ⟨fun hb => (h3 b hb).1, fun hr => hr (· ∈ l) h1 fun p hp hx => h5 p.1 hx p hp rfl⟩
end

/-! ### rows as words -/
/-- the word whose bits below n are told by p -/
def wordN (n : Nat) (p : Nat → Bool) : BitVec 32 := (List.range n).foldl (fun a i => if p i then a ||| 1#32 <<< i else a) 0#32
theorem wordN_succ (n : Nat) (p : Nat → Bool) : wordN (n + 1) p = if p n then wordN n p ||| 1#32 <<< n else wordN n p := by
  unfold wordN
  rw [List.range_succ, List.foldl_append]
  rfl
theorem wordN_bit (p : Nat → Bool) : ∀ (n : Nat), n ≤ 32 → ∀ i, (wordN n p).getLsbD i = (decide (i < n) && p i) := by
  intro n
  induction n with
  | zero => intro _ i; simp [wordN]
  | succ n ih =>
    intro hn i
    rw [wordN_succ]
    by_cases h : i = n
    · subst h
      cases hp : p i
      · simp [ih (by omega)]
      · simp [BitVec.getLsbD_or]
        omega
    · have e : decide (i < n + 1) = decide (i < n) := by
        by_cases h2 : i < n
        · simp [h2]; omega
        · simp [h2]; omega
      rw [e]
      cases hp : p n
      · simp only [Bool.false_eq_true, if_false]
        exact ih (by omega) i
      · simp only [if_true]
        rw [BitVec.getLsbD_or, ih (by omega), getLsbD_bit]
        have : ¬ n = i := fun hc => h hc.symm
        simp [this]
theorem wordN_fit (n : Nat) (p : Nat → Bool) (hn : n ≤ 32) : fitB n (wordN n p) = true := by
  rw [fitB_iff]
  intro i hi
  rw [wordN_bit p n hn, Bool.and_eq_true] at hi
  simpa using hi.1
theorem wordN_ext {n : Nat} {x : BitVec 32} {p : Nat → Bool} (hn : n ≤ 32) (hf : fitB n x = true) (h : ∀ i, i < n → x.getLsbD i = p i) : x = wordN n p := by
  apply BitVec.eq_of_getLsbD_eq
  intro i _
  rw [wordN_bit p n hn]
  by_cases hi : i < n
  · simp [hi, h i hi]
  · cases hx : x.getLsbD i
    · simp [hi]
    · exact absurd (fitB_iff.1 hf i hx) hi
theorem fitB_bit {n i : Nat} (h : i < n) : fitB n (1#32 <<< i) = true := by
  rw [fitB_iff]
  intro j hj
  rw [getLsbD_bit, Bool.and_eq_true, decide_eq_true_eq] at hj
  omega
/-- the table of an order -/
noncomputable def upL (n : Nat) (ps : List Pr) : List (BitVec 32) := (List.range n).map fun i : Nat => wordN n fun j => under ps i j
theorem upL_length (n : Nat) (ps : List Pr) : (upL n ps).length = n := by simp [upL]
theorem nth_upL {n i : Nat} (ps : List Pr) (h : i < n) : nth (upL n ps) i = wordN n fun j => under ps i j := by
  rw [nth_eq _ _ (by rw [upL_length]; exact h)]
  simp [upL]
theorem upL_bit {n i : Nat} (ps : List Pr) (hn : n ≤ 32) (h : i < n) (j : Nat) : (nth (upL n ps) i).getLsbD j = (decide (j < n) && under ps i j) := by
  rw [nth_upL ps h, wordN_bit _ _ hn]
end Go.Proofs.Ytgcpomdlajoifaa
