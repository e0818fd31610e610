/- Longest chains and greatest sets of which none is under another one: plain laws (Mirsky). -/
import Derived.Test.YtgcpomdlajoifaaLineP2
import Derived.Test.YtgcpomdlajoifaaApartP
namespace Go.Proofs.Ytgcpomdlajoifaa
open Go Go.RowKit
set_option linter.unusedVariables false

/-- j is another one above i -/
noncomputable def ov (ps : List Pr) (i j : Nat) : Bool := decide (j ≠ i) && under ps i j
theorem ov_iff {ps : List Pr} {i j : Nat} : ov ps i j = true ↔ j ≠ i ∧ under ps i j = true := by
  unfold ov
  rw [Bool.and_eq_true, decide_eq_true_eq]
noncomputable def mxF (ps : List Pr) (lv : Nat → Nat) (i : Nat) : Nat → Nat
  | 0 => 0
  | k + 1 => if ov ps i k = true then max (mxF ps lv i k) (lv k) else mxF ps lv i k
theorem mxF_ge {ps : List Pr} {lv : Nat → Nat} {i : Nat} : ∀ k j, j < k → ov ps i j = true → lv j ≤ mxF ps lv i k := by
  intro k
  induction k with
  | zero => intro j h; omega
  | succ k ih =>
    intro j hj ho
    show lv j ≤ if ov ps i k = true then max (mxF ps lv i k) (lv k) else mxF ps lv i k
    by_cases e : j = k
    · subst e
      rw [if_pos ho]
      omega
    · have := ih j (by omega) ho
      split <;> omega
theorem mxF_some {ps : List Pr} {lv : Nat → Nat} {i : Nat} : ∀ k, mxF ps lv i k = 0 ∨ ∃ j, j < k ∧ ov ps i j = true ∧ lv j = mxF ps lv i k := by
  intro k
  induction k with
  | zero => exact .inl rfl
  | succ k ih =>
    show (if ov ps i k = true then max (mxF ps lv i k) (lv k) else mxF ps lv i k) = 0 ∨ ∃ j, j < k + 1 ∧ ov ps i j = true ∧ lv j = if ov ps i k = true then max (mxF ps lv i k) (lv k) else mxF ps lv i k
    by_cases ho : ov ps i k = true
    · rw [if_pos ho]
      by_cases hm : mxF ps lv i k ≤ lv k
      · exact .inr ⟨k, by omega, ho, by omega⟩
      · rcases ih with h | ⟨j, hj, h1, h2⟩
        · omega
        · exact .inr ⟨j, by omega, h1, by omega⟩
    · rw [if_neg ho]
      rcases ih with h | ⟨j, hj, h1, h2⟩
      · exact .inl h
      · exact .inr ⟨j, by omega, h1, h2⟩
def updH (lv : Nat → Nat) (i v : Nat) : Nat → Nat := fun j => if j = i then v else lv j
theorem updH_same (lv : Nat → Nat) (i v : Nat) : updH lv i v i = v := by unfold updH; rw [if_pos rfl]
theorem updH_other {lv : Nat → Nat} {i v j : Nat} (h : j ≠ i) : updH lv i v j = lv j := by unfold updH; rw [if_neg h]
/-- is i one of the list's from place k on? -/
def From (l : List Int) (k i : Nat) : Prop := ∃ t, k ≤ t ∧ t < l.length ∧ l.getD t 0 = (i : Int)
/-- how long lists are that begin with the things from place k on -/
structure Hts (n : Nat) (ps : List Pr) (l : List Int) (k : Nat) (lv : Nat → Nat) (m : Nat) : Prop where
  there : ∀ i, i < n → From l k i → 1 ≤ lv i ∧ lv i ≤ m ∧ (∀ j, j < n → ov ps i j = true → lv j < lv i) ∧ (lv i = 1 ∨ ∃ j, j < n ∧ ov ps i j = true ∧ lv j + 1 = lv i)
  not : ∀ i, ¬ From l k i → lv i = 0
  le : ∀ i, lv i ≤ m
  some : m = 0 ∨ ∃ i, i < n ∧ lv i = m
  few : m + k ≤ l.length
theorem Hts.start (n : Nat) (ps : List Pr) (l : List Int) : Hts n ps l l.length (fun _ => 0) 0 where
  there := fun i _ ⟨t, h1, h2, _⟩ => by omega
  not := fun _ _ => rfl
  le := fun _ => Nat.le_refl _
  some := .inl rfl
  few := by omega
theorem Hts.step {n : Nat} {ps : List Pr} {l : List Int} {k : Nat} {lv : Nat → Nat} {m : Nat} (hl : IsLine n ps l) (hn : l.length = n) (h : Hts n ps l (k + 1) lv m) (hk : k < l.length) {i : Nat} (hi : l.getD k 0 = (i : Int)) :
    Hts n ps l k (updH lv i (mxF ps lv i n + 1)) (max m (mxF ps lv i n + 1)) := by
  have hin : i < n := by
    have := (hl.1 (l.getD k 0) (by rw [getD_eq hk]; exact List.getElem_mem _)).2
    rw [hi] at this
    omega
  have hfrom : ∀ x, From l k x ↔ x = i ∨ From l (k + 1) x := by
    intro x
    constructor
    · rintro ⟨t, h1, h2, h3⟩
      by_cases e : t = k
      · subst e
        rw [hi] at h3
        exact .inl (by omega)
      · exact .inr ⟨t, by omega, h2, h3⟩
    · rintro (rfl | ⟨t, h1, h2, h3⟩)
      · exact ⟨k, Nat.le_refl _, hk, hi⟩
      · exact ⟨t, by omega, h2, h3⟩
  have hnoti : ¬ From l (k + 1) i := by
    rintro ⟨t, h1, h2, h3⟩
    have := nodup_at hl.2.1 h2 hk (by rw [h3, hi])
    omega
  have hup : ∀ j, j < n → ov ps i j = true → From l (k + 1) j := by
    intro j hj ho
    obtain ⟨a, ha, ea⟩ := line_has hl hn j hj
    obtain ⟨h1, h2⟩ := ov_iff.1 ho
    rcases Nat.lt_trichotomy a k with hlt | e | hlt
    · have := List.pairwise_iff_getElem.1 hl.2.2 a k ha hk hlt
      rw [← getD_eq ha, ← getD_eq hk, ea, hi, h2] at this
      cases this
    · subst e
      rw [hi] at ea
      omega
    · exact ⟨a, by omega, ha, ea⟩
  have hmx : mxF ps lv i n ≤ m := by
    rcases mxF_some (ps := ps) (lv := lv) (i := i) n with h0 | ⟨j, _, _, h2⟩
    · omega
    · have := h.le j
      omega
  refine ⟨fun x hx hfx => ?_, fun x hx => ?_, fun x => ?_, ?_, ?_⟩
  · by_cases e : x = i
    · subst e
      rw [updH_same]
      refine ⟨by omega, by omega, fun j hj ho => ?_, ?_⟩
      · rw [updH_other (ov_iff.1 ho).1]
        have := mxF_ge (lv := lv) n j hj ho
        omega
      · rcases mxF_some (ps := ps) (lv := lv) (i := x) n with h0 | ⟨j, hj, ho, h2⟩
        · exact .inl (by omega)
        · exact .inr ⟨j, hj, ho, by rw [updH_other (ov_iff.1 ho).1]; omega⟩
    · rw [updH_other e]
      have hfx := ((hfrom x).1 hfx).resolve_left e
      obtain ⟨h1, h2, h3, h4⟩ := h.there x hx hfx
      have hni : ∀ j, ov ps x j = true → j ≠ i := by
        rintro j ho rfl
        obtain ⟨t, t1, t2, t3⟩ := hfx
        have := List.pairwise_iff_getElem.1 hl.2.2 k t hk t2 (by omega)
        rw [← getD_eq hk, ← getD_eq t2, t3, hi, (ov_iff.1 ho).2] at this
        cases this
      refine ⟨h1, by omega, fun j hj ho => ?_, ?_⟩
      · rw [updH_other (hni j ho)]
        exact h3 j hj ho
      · rcases h4 with h4 | ⟨j, hj, ho, h5⟩
        · exact .inl h4
        · exact .inr ⟨j, hj, ho, by rw [updH_other (hni j ho)]; exact h5⟩
  · rw [hfrom] at hx
    rw [updH_other (fun e => hx (.inl e))]
    exact h.not x (fun e => hx (.inr e))
  · by_cases e : x = i
    · subst e
      rw [updH_same]
      omega
    · rw [updH_other e]
      have := h.le x
      omega
  · by_cases e : m ≤ mxF ps lv i n + 1
    · exact .inr ⟨i, hin, by rw [updH_same]; omega⟩
    · rcases h.some with h0 | ⟨x, hx, hxm⟩
      · omega
      · have hxi : x ≠ i := by
          rintro rfl
          rw [h.not x hnoti] at hxm
          omega
        exact .inr ⟨x, hx, by rw [updH_other hxi]; omega⟩
  · have := h.few
    omega
/-- heights of all things -/
structure Lev (n : Nat) (ps : List Pr) (lv : Nat → Nat) (m : Nat) : Prop where
  pos : ∀ i, i < n → 1 ≤ lv i ∧ lv i ≤ m
  mono : ∀ i j, i < n → j < n → ov ps i j = true → lv j < lv i
  next : ∀ i, i < n → lv i = 1 ∨ ∃ j, j < n ∧ ov ps i j = true ∧ lv j + 1 = lv i
  some : ∃ i, i < n ∧ lv i = m
  few : m ≤ n
theorem Hts.lev {n : Nat} {ps : List Pr} {l : List Int} {lv : Nat → Nat} {m : Nat} (hl : IsLine n ps l) (hn : l.length = n) (h1 : 1 ≤ n) (h : Hts n ps l 0 lv m) : Lev n ps lv m := by
  have hall : ∀ i, i < n → From l 0 i := by
    intro i hi
    obtain ⟨a, ha, ea⟩ := line_has hl hn i hi
    exact ⟨a, Nat.zero_le _, ha, ea⟩
  refine ⟨fun i hi => ?_, fun i j hi hj ho => ?_, fun i hi => ?_, ?_, ?_⟩
  · obtain ⟨a, b, _⟩ := h.there i hi (hall i hi)
    exact ⟨a, b⟩
  · exact (h.there i hi (hall i hi)).2.2.1 j hj ho
  · exact (h.there i hi (hall i hi)).2.2.2
  · rcases h.some with h0 | h0
    · have := (h.there 0 (by omega) (hall 0 (by omega))).1
      have := (h.there 0 (by omega) (hall 0 (by omega))).2.1
      omega
    · exact h0
  · have := h.few
    omega
/-- each one under the next ones -/
def ChainL (n : Nat) (ps : List Pr) (c : List Int) : Prop := (∀ x ∈ c, 0 ≤ x ∧ x < (n : Int)) ∧ c.Pairwise fun x y => under ps x y = true ∧ x ≠ y
/-- a chain whose next one has the height m -/
structure CInv (n : Nat) (ps : List Pr) (lv : Nat → Nat) (M : Nat) (c : List Int) (m : Nat) : Prop where
  chain : ChainL n ps c
  len : c.length + m = M
  high : ∀ x ∈ c, m + 1 ≤ lv x.toNat
  last : c = [] ∨ ∃ z : Nat, z < n ∧ c.getD (c.length - 1) 0 = (z : Int) ∧ lv z = m + 1 ∧ ∀ x ∈ c, under ps x z = true
theorem CInv.start (n : Nat) (ps : List Pr) (lv : Nat → Nat) (M : Nat) : CInv n ps lv M [] M := ⟨⟨by simp, by simp⟩, by simp, by simp, .inl rfl⟩
theorem CInv.some {n : Nat} {ps : List Pr} {lv : Nat → Nat} {M : Nat} {c : List Int} {m : Nat} (h : CInv n ps lv M c m) (hv : Lev n ps lv M) (hm : 1 ≤ m) :
    ∃ i, i < n ∧ lv i = m ∧ (c = [] ∨ under ps (c.getD (c.length - 1) 0) (i : Int) = true) := by
  rcases h.last with rfl | ⟨z, hz, e1, e2, _⟩
  · obtain ⟨i, hi, e⟩ := hv.some
    have := h.len
    simp at this
    exact ⟨i, hi, by omega, .inl rfl⟩
  · rcases hv.next z hz with h1 | ⟨j, hj, ho, h2⟩
    · omega
    · exact ⟨j, hj, by omega, .inr (by rw [e1]; exact (ov_iff.1 ho).2)⟩
theorem CInv.add {n : Nat} {ps : List Pr} {lv : Nat → Nat} {M : Nat} {c : List Int} {m : Nat} (h : CInv n ps lv M c (m + 1)) {i : Nat} (hi : i < n) (hl : lv i = m + 1) (hu : c = [] ∨ under ps (c.getD (c.length - 1) 0) (i : Int) = true) : CInv n ps lv M (c ++ [(i : Int)]) m := by
  have hui : ∀ x ∈ c, under ps x (i : Int) = true := by
    intro x hx
    rcases h.last with rfl | ⟨z, hz, e1, e2, e3⟩
    · cases hx
    · rcases hu with rfl | hu
      · cases hx
      · rw [e1] at hu
        exact under_iff.2 ((under_iff.1 (e3 x hx)).trans (under_iff.1 hu))
  refine ⟨⟨fun x hx => ?_, ?_⟩, ?_, fun x hx => ?_, .inr ⟨i, hi, ?_, hl, fun x hx => ?_⟩⟩
  · rcases List.mem_append.1 hx with hx | hx
    · exact h.chain.1 x hx
    · rw [List.mem_singleton] at hx
      subst hx
      omega
  · rw [List.pairwise_append]
    refine ⟨h.chain.2, by simp, fun x hx y hy => ?_⟩
    rw [List.mem_singleton] at hy
    subst hy
    refine ⟨hui x hx, ?_⟩
    rintro rfl
    have := h.high _ hx
    rw [Int.toNat_natCast, hl] at this
    omega
  · have := h.len
    simp
    omega
  · rcases List.mem_append.1 hx with hx | hx
    · have := h.high x hx
      omega
    · rw [List.mem_singleton] at hx
      subst hx
      rw [Int.toNat_natCast]
      omega
  · rw [getD_eq (by simp)]
    simp
  · rcases List.mem_append.1 hx with hx | hx
    · exact hui x hx
    · rw [List.mem_singleton] at hx
      subst hx
      exact under_iff.2 (Reach.refl _)
/-- no chain is longer -/
theorem Lev.most {n : Nat} {ps : List Pr} {lv : Nat → Nat} {m : Nat} (h : Lev n ps lv m) {c : List Int} (hc : ChainL n ps c) : c.length ≤ m := by
  have h1 : (c.map fun x => ((lv x.toNat - 1 : Nat) : Int)).Nodup := by
    unfold List.Nodup
    rw [List.pairwise_map]
    refine List.Pairwise.imp_of_mem ?_ hc.2
    intro a b ha hb hab e
    obtain ⟨a1, a2⟩ := hc.1 a ha
    obtain ⟨b1, b2⟩ := hc.1 b hb
    obtain ⟨x, rfl⟩ := Int.eq_ofNat_of_zero_le a1
    obtain ⟨y, rfl⟩ := Int.eq_ofNat_of_zero_le b1
    simp only [Int.toNat_natCast] at e
    have := h.mono x y (by omega) (by omega) (ov_iff.2 ⟨fun e => hab.2 (by rw [e]), hab.1⟩)
    have := (h.pos y (by omega)).1
    have := (h.pos x (by omega)).1
    omega
  have h2 := nodup_len _ ((List.range m).map fun x : Nat => (x : Int)) h1 (fun x hx => by
    obtain ⟨a, ha, rfl⟩ := List.mem_map.1 hx
    obtain ⟨a1, a2⟩ := hc.1 a ha
    obtain ⟨x, rfl⟩ := Int.eq_ofNat_of_zero_le a1
    have := h.pos x (by omega)
    exact List.mem_map.2 ⟨lv x - 1, List.mem_range.2 (by omega), by simp⟩)
  simpa using h2
/-- the length of a longest chain -/
def Longest (n : Nat) (ps : List Pr) (m : Nat) : Prop := (∃ c, ChainL n ps c ∧ c.length = m) ∧ (∃ lv, Lev n ps lv m)
theorem ChainL.turn {n : Nat} {ps : List Pr} {c : List Int} (h : ChainL n ps c) : ChainL n (turnP ps) c.reverse := by
  refine ⟨fun x hx => h.1 x (List.mem_reverse.1 hx), ?_⟩
  rw [List.pairwise_reverse]
  exact h.2.imp fun ⟨a, b⟩ => ⟨by rw [turn_under]; exact a, fun e => b e.symm⟩
theorem Longest.turn {n : Nat} {ps : List Pr} {m k : Nat} (h : Longest n ps m) (h' : Longest n (turnP ps) k) : k = m := by
  obtain ⟨⟨c, hc, hcl⟩, lv, hv⟩ := h
  obtain ⟨⟨d, hd, hdl⟩, lw, hw⟩ := h'
  have h1 := hw.most hc.turn
  have h2 := hd.turn
  rw [turn_turn] at h2
  have h2 := hv.most h2
  rw [List.length_reverse] at h1 h2
  omega
/-! ### greatest sets of which none is under another one -/
def freeU (up : List (BitVec 32)) (s : BitVec 32) (k : Nat) : Bool := (List.range k).all fun i => !s.getLsbD i || (nth up i &&& s == 1#32 <<< i)
theorem freeU_upL {n : Nat} {ps : List Pr} (hn : n ≤ 32) (s : BitVec 32) : freeU (upL n ps) s n = freeF n ps s := by
  have he : ∀ i, i < n → (!s.getLsbD i || (nth (upL n ps) i &&& s == 1#32 <<< i)) = (!s.getLsbD i || edB n ps s i) := by
    intro i hi
    have := edge_upL (ps := ps) hn s hi
    unfold edgeB at this
    cases hb : s.getLsbD i
    · rfl
    · rw [hb, Bool.true_and] at this
      rw [this]
  rw [Bool.eq_iff_iff, freeF_iff]
  unfold freeU
  rw [List.all_eq_true]
  constructor
  · intro h i j hi hj si sj hu
    have := h i (List.mem_range.2 hi)
    rw [he i hi, si] at this
    have := (edB_iff.1 (by simpa using this)).2 j hj sj hu
    exact this.symm
  · intro h i hi
    rw [List.mem_range] at hi
    rw [he i hi]
    cases hb : s.getLsbD i
    · rfl
    · have : edB n ps s i = true := edB_iff.2 ⟨hb, fun j hj sj hu => (h i j hi hj hb sj hu).symm⟩
      rw [this]
      rfl
theorem freeF_turn {n : Nat} {ps : List Pr} (s : BitVec 32) : freeF n (turnP ps) s = freeF n ps s := by
  rw [Bool.eq_iff_iff, freeF_iff, freeF_iff]
  constructor
  · exact fun h i j hi hj si sj hu => (h j i hj hi sj si (by rw [turn_under]; exact hu)).symm
  · exact fun h i j hi hj si sj hu => (h j i hj hi sj si (by rw [turn_under] at hu; exact hu)).symm
/-- the first of the greatest -/
def bestF (f : BitVec 32 → Bool) : Nat → BitVec 32
  | 0 => 0#32
  | k + 1 => if f (BitVec.ofNat 32 k) = true ∧ bitsN (bestF f k) 32 < bitsN (BitVec.ofNat 32 k) 32 then BitVec.ofNat 32 k else bestF f k
theorem bestF_congr {f g : BitVec 32 → Bool} (h : ∀ s, f s = g s) : ∀ k, bestF f k = bestF g k := by
  intro k
  have : f = g := funext h
  rw [this]
theorem bestF_ge {f : BitVec 32 → Bool} : ∀ k j, j < k → f (BitVec.ofNat 32 j) = true → bitsN (BitVec.ofNat 32 j) 32 ≤ bitsN (bestF f k) 32 := by
  intro k
  induction k with
  | zero => intro j h; omega
  | succ k ih =>
    intro j hj hf
    show _ ≤ bitsN (if f (BitVec.ofNat 32 k) = true ∧ bitsN (bestF f k) 32 < bitsN (BitVec.ofNat 32 k) 32 then BitVec.ofNat 32 k else bestF f k) 32
    by_cases e : j = k
    · subst e
      by_cases h : bitsN (bestF f j) 32 < bitsN (BitVec.ofNat 32 j) 32
      · rw [if_pos ⟨hf, h⟩]
        exact Nat.le_refl _
      · rw [if_neg (fun hc => h hc.2)]
        omega
    · have := ih j (by omega) hf
      split
      · rename_i h
        omega
      · exact this
theorem bestF_free {f : BitVec 32 → Bool} (h0 : f 0#32 = true) : ∀ k, f (bestF f k) = true := by
  intro k
  induction k with
  | zero => exact h0
  | succ k ih =>
    show f (if f (BitVec.ofNat 32 k) = true ∧ bitsN (bestF f k) 32 < bitsN (BitVec.ofNat 32 k) 32 then BitVec.ofNat 32 k else bestF f k) = true
    split
    · rename_i h
      exact h.1
    · exact ih
theorem bestF_lt {f : BitVec 32 → Bool} {n : Nat} (hn : n ≤ 6) : ∀ k, k ≤ 2 ^ n → fitB n (bestF f k) = true := by
  intro k
  induction k with
  | zero =>
    intro _
    rw [fitB_iff]
    intro i hi
    rw [show bestF f 0 = 0#32 from rfl] at hi
    simp at hi
  | succ k ih =>
    intro hk
    show fitB n (if f (BitVec.ofNat 32 k) = true ∧ bitsN (bestF f k) 32 < bitsN (BitVec.ofNat 32 k) 32 then BitVec.ofNat 32 k else bestF f k) = true
    split
    · rw [fitB_iff]
      intro i hi
      rw [BitVec.getLsbD_ofNat, Bool.and_eq_true] at hi
      refine Decidable.byContradiction fun hc => ?_
      have := Nat.testBit_lt_two_pow (i := i) (x := k) (Nat.lt_of_lt_of_le (show k < 2 ^ n by omega) (Nat.pow_le_pow_right (by omega) (by omega)))
      rw [this] at hi
      exact Bool.noConfusion hi.2
    · exact ih (by omega)
theorem fit_ofNat {n : Nat} {s : BitVec 32} (hn : n ≤ 6) (h : fitB n s = true) : s.toNat < 2 ^ n ∧ BitVec.ofNat 32 s.toNat = s := by
  refine ⟨?_, by simp⟩
  unfold fitB at h
  rw [beq_iff_eq, ← BitVec.toNat_inj, BitVec.toNat_ushiftRight, Nat.shiftRight_eq_div_pow] at h
  have hp : 0 < 2 ^ n := Nat.pow_pos (by omega)
  have h2 : s.toNat / 2 ^ n = 0 := h
  exact (Nat.div_eq_zero_iff_lt hp).1 h2
/-- the set that Apart finds -/
noncomputable def apartS (n : Nat) (ps : List Pr) : BitVec 32 := bestF (freeF n ps) (2 ^ n)
theorem apart_turn (n : Nat) (ps : List Pr) : apartS n (turnP ps) = apartS n ps := bestF_congr (fun s => freeF_turn s) _
theorem apart_ge {n : Nat} {ps : List Pr} (hn : n ≤ 6) {s : BitVec 32} (hf : fitB n s = true) (h : freeF n ps s = true) : bitsN s 32 ≤ bitsN (apartS n ps) 32 := by
  obtain ⟨h1, h2⟩ := fit_ofNat hn hf
  have := bestF_ge (f := freeF n ps) (2 ^ n) s.toNat h1 (by rw [h2]; exact h)
  rw [h2] at this
  exact this
/-- the level sets -/
def levW (n : Nat) (lv : Nat → Nat) (k : Nat) : BitVec 32 := wordN n fun i => decide (lv i = k)
theorem bits_wordN (p : Nat → Bool) {n : Nat} (hn : n ≤ 32) : ∀ k, bitsN (wordN n p) k = ((List.range k).filter fun i => decide (i < n) && p i).length := by
  intro k
  induction k with
  | zero => rfl
  | succ k ih =>
    show bitsN (wordN n p) k + (if (wordN n p).getLsbD k then 1 else 0) = _
    rw [ih, wordN_bit p n hn, List.range_succ, List.filter_append, List.length_append]
    congr 1
    cases h : (decide (k < n) && p k) <;> simp [h]
theorem filter_range_le (p : Nat → Bool) : ∀ n k, n ≤ k → ((List.range k).filter fun i => decide (i < n) && p i) = (List.range n).filter p := by
  intro n k hk
  obtain ⟨d, rfl⟩ : ∃ d, k = n + d := ⟨k - n, by omega⟩
  induction d with
  | zero =>
    apply List.filter_congr
    intro x hx
    rw [List.mem_range] at hx
    simp at hx
    simp [hx]
  | succ d ih =>
    have e : decide (n + d < n) = false := decide_eq_false (by omega)
    rw [show n + (d + 1) = (n + d) + 1 by omega, List.range_succ, List.filter_append, ih (by omega)]
    simp [e]
theorem filter_or_le {α : Type} (p q r : α → Bool) (h : ∀ x, r x = true → p x = true ∨ q x = true) : ∀ l : List α, (l.filter r).length ≤ (l.filter p).length + (l.filter q).length := by
  intro l
  induction l with
  | nil => simp
  | cons a l ih =>
    have ha := h a
    rw [List.filter_cons, List.filter_cons, List.filter_cons]
    revert ha
    cases p a <;> cases q a <;> cases r a <;> simp <;> omega
theorem levels_sum (lv : Nat → Nat) (n : Nat) : ∀ m, ((List.range n).filter fun i => decide (1 ≤ lv i ∧ lv i ≤ m)).length ≤ ((List.range m).map fun k => ((List.range n).filter fun i => decide (lv i = k + 1)).length).sum := by
  intro m
  induction m with
  | zero =>
    have : ((List.range n).filter fun i => decide (1 ≤ lv i ∧ lv i ≤ 0)) = [] := by
      rw [List.filter_eq_nil_iff]
      intro x _
      simp
      omega
    rw [this]
    simp
  | succ m ih =>
    rw [List.range_succ, List.map_append, List.sum_append]
    have := filter_or_le (fun i => decide (1 ≤ lv i ∧ lv i ≤ m)) (fun i => decide (lv i = m + 1)) (fun i => decide (1 ≤ lv i ∧ lv i ≤ m + 1)) (fun x hx => by
      rw [decide_eq_true_eq] at hx
      by_cases e : lv x = m + 1
      · exact .inr (decide_eq_true e)
      · exact .inl (decide_eq_true (by omega))) (List.range n)
    simp only [List.map_cons, List.map_nil, List.sum_cons, List.sum_nil, Nat.add_zero]
    omega
theorem sum_le_mul (f : Nat → Nat) (b : Nat) : ∀ m, (∀ k, k < m → f k ≤ b) → ((List.range m).map f).sum ≤ m * b := by
  intro m
  induction m with
  | zero => intro _; simp
  | succ m ih =>
    intro h
    rw [List.range_succ, List.map_append, List.sum_append]
    have h1 := ih (fun k hk => h k (by omega))
    have h2 := h m (by omega)
    simp only [List.map_cons, List.map_nil, List.sum_cons, List.sum_nil, Nat.add_zero]
    rw [Nat.succ_mul]
    omega
/-- Mirsky -/
theorem Longest.mul {n : Nat} {ps : List Pr} {m : Nat} (hn : n ≤ 6) (h : Longest n ps m) : n ≤ m * bitsN (apartS n ps) 32 := by
  obtain ⟨_, lv, hv⟩ := h
  have h1 : ((List.range n).filter fun i => decide (1 ≤ lv i ∧ lv i ≤ m)) = List.range n := by
    rw [List.filter_eq_self]
    intro i hi
    exact decide_eq_true (hv.pos i (List.mem_range.1 hi))
  have h2 := levels_sum lv n m
  rw [h1, List.length_range] at h2
  refine Nat.le_trans h2 (sum_le_mul _ _ m fun k hk => ?_)
  have h3 := apart_ge (ps := ps) hn (s := levW n lv (k + 1)) (wordN_fit n _ (by omega)) (by
    rw [freeF_iff]
    intro i j hi hj si sj hu
    unfold levW at si sj
    rw [wordN_bit _ _ (by omega), Bool.and_eq_true, decide_eq_true_eq, decide_eq_true_eq] at si sj
    refine Decidable.byContradiction fun hne => ?_
    have := hv.mono i j hi hj (ov_iff.2 ⟨fun e => hne e.symm, hu⟩)
    omega)
  unfold levW at h3
  rw [bits_wordN _ (by omega), filter_range_le _ n 32 (by omega)] at h3
  exact h3
end Go.Proofs.Ytgcpomdlajoifaa
