/- Who comes to whom in a table of rows, closed by Warshall's passes; and the edges of clauses of two literals. Plain laws. -/
import Derived.Test.YtekpifobhgjepaaHornP
import Derived.Test.YtekpifobhgjepaaArr
namespace Go.Proofs.Ytekpifobhgjepaa
open Go
set_option linter.unusedVariables false

/-! ### rows -/
/-- the cells of n rows -/
def rowsV (n : Nat) (m : Nat → BitVec 32) : List Value := (List.range n).map fun i => wv (m i)
def updN (m : Nat → BitVec 32) (k : Nat) (x : BitVec 32) : Nat → BitVec 32 := fun i => if i = k then x else m i
theorem rowsV_length (n : Nat) (m : Nat → BitVec 32) : (rowsV n m).length = n := by simp [rowsV]
theorem rowsV_at {n k : Nat} (m : Nat → BitVec 32) (h : k < n) : (rowsV n m)[k]? = some (.int .u32 (W (m k))) := by
  unfold rowsV wv
  simp [h]
theorem rowsV_set (n : Nat) (m : Nat → BitVec 32) (k : Nat) (x : BitVec 32) : (rowsV n m).set k (.int .u32 (W x)) = rowsV n (updN m k x) := by
  unfold rowsV updN wv
  apply List.ext_getElem
  · simp
  · intro i h1 h2
    rw [List.getElem_set]
    simp only [List.getElem_map, List.getElem_range]
    by_cases e : k = i
    · subst e
      simp
    · rw [if_neg e, if_neg (fun h => e h.symm)]
theorem rowsV_sl {w0 w : World} {B n : Nat} {e : TypeId} {m : Nat → BitVec 32} (h : Row w0 w B e (rowsV n m)) : SlW w (some ⟨B, 0, none⟩) n ((List.range n).map m) := by
  refine ⟨?_, by simp⟩
  have := h.sl n (rowsV_length n m)
  unfold rowsV at this
  rw [List.map_map]
  exact this
theorem rep_fill (n : Nat) : rep n (.int .u32 0) = (fillTo (fun i => Value.int .u32 (W (1#32 <<< i))) (.int .u32 0) n 0).toArray := by
  rw [fillTo_zero]
  rfl
theorem fitB_bit {n i : Nat} (h : i < n) : fitB n (1#32 <<< i) = true := by
  rw [fitB_iff]
  intro j hj
  rw [getLsbD_bit, Bool.and_eq_true, decide_eq_true_eq] at hj
  omega
/-! ### Warshall -/
def matE (E : Nat → Nat → Bool) : Nat → Nat → Nat → Bool
  | 0, i, j => E i j
  | k + 1, i, j => matE E k i j || (matE E k i k && matE E k k j)
section
variable {E : Nat → Nat → Bool} {N : Nat}
theorem matE_row (k j : Nat) : matE E (k + 1) k j = matE E k k j := by
  show (matE E k k j || (matE E k k k && matE E k k j)) = _
  cases matE E k k j <;> simp
theorem matE_up (k i j : Nat) (h : matE E k i j = true) : matE E (k + 1) i j = true := by
  show (matE E k i j || _) = true
  rw [h]
  rfl
theorem matE_le (i j : Nat) (k : Nat) : ∀ d, matE E k i j = true → matE E (k + d) i j = true := by
  intro d
  induction d with
  | zero => exact id
  | succ d ih => exact fun h => matE_up (k + d) i j (ih h)
theorem matE_mid : ∀ k v, v < k → ∀ i j, matE E k i v = true → matE E k v j = true → matE E k i j = true := by
  intro k
  induction k with
  | zero => intro v h; omega
  | succ k ih =>
    intro v hv i j h1 h2
    show (matE E k i j || (matE E k i k && matE E k k j)) = true
    have goal_l : matE E k i j = true → (matE E k i j || (matE E k i k && matE E k k j)) = true := fun h => by rw [h]; rfl
    have goal_r : matE E k i k = true → matE E k k j = true → (matE E k i j || (matE E k i k && matE E k k j)) = true := fun h h' => by rw [h, h']; simp
    have h1' : matE E k i v = true ∨ (matE E k i k = true ∧ matE E k k v = true) := by
      have : (matE E k i v || (matE E k i k && matE E k k v)) = true := h1
      rw [Bool.or_eq_true, Bool.and_eq_true] at this
      exact this
    have h2' : matE E k v j = true ∨ (matE E k v k = true ∧ matE E k k j = true) := by
      have : (matE E k v j || (matE E k v k && matE E k k j)) = true := h2
      rw [Bool.or_eq_true, Bool.and_eq_true] at this
      exact this
    by_cases hvk : v = k
    · subst hvk
      refine goal_r ?_ ?_
      · rcases h1' with h | h
        · exact h
        · exact h.1
      · rcases h2' with h | h
        · exact h
        · exact h.2
    · have hvk : v < k := by omega
      rcases h1' with a | ⟨a1, a2⟩
      · rcases h2' with b | ⟨b1, b2⟩
        · exact goal_l (ih v hvk i j a b)
        · exact goal_r (ih v hvk i k a b1) b2
      · rcases h2' with b | ⟨_, b2⟩
        · exact goal_r a1 (ih v hvk k j a2 b)
        · exact goal_r a1 b2
/-- j is reached from i -/
def Goes (E : Nat → Nat → Bool) (N i j : Nat) : Prop := ∀ S : Nat → Prop, S i → (∀ a b, a < N → b < N → E a b = true → S a → S b) → S j
theorem Goes.refl (i : Nat) : Goes E N i i := fun _ h _ => h
theorem Goes.trans {i j k : Nat} (h : Goes E N i j) (h2 : Goes E N j k) : Goes E N i k := fun S a b => h2 S (h S a b) b
theorem Goes.one {i j : Nat} (hi : i < N) (hj : j < N) (h : E i j = true) : Goes E N i j := fun S a b => b i j hi hj h a
theorem matE_sound : ∀ k, k ≤ N → ∀ i j, i < N → j < N → matE E k i j = true → Goes E N i j := by
  intro k
  induction k with
  | zero => intro _ i j hi hj h; exact Goes.one hi hj h
  | succ k ih =>
    intro hk i j hi hj h
    have h : (matE E k i j || (matE E k i k && matE E k k j)) = true := h
    rw [Bool.or_eq_true, Bool.and_eq_true] at h
    rcases h with h | ⟨h1, h2⟩
    · exact ih (by omega) i j hi hj h
    · exact (ih (by omega) i k hi (by omega) h1).trans (ih (by omega) k j (by omega) hj h2)
theorem matE_goes (hr : ∀ a, a < N → E a a = true) {i j : Nat} (hi : i < N) (hj : j < N) : matE E N i j = true ↔ Goes E N i j := by
  constructor
  · exact matE_sound N (Nat.le_refl _) i j hi hj
  · intro h
    have := h (fun x => matE E N i x = true) (by have := matE_le (E := E) i i 0 N (hr i hi); rwa [Nat.zero_add] at this) ?_
    · exact this
    · intro a b ha hb hE hS
      refine matE_mid N a ha i b hS ?_
      have := matE_le (E := E) a b 0 N hE
      rwa [Nat.zero_add] at this
theorem matE_turn {f : Nat → Nat} (hr : ∀ a, a < N → E a a = true) (hf : ∀ a, a < N → f a < N) (hff : ∀ a, a < N → f (f a) = a)
    (hE : ∀ a b, a < N → b < N → E a b = true → E (f b) (f a) = true) {i j : Nat} (hi : i < N) (hj : j < N) : matE E N i j = matE E N (f j) (f i) := by
  have key : ∀ i j, i < N → j < N → matE E N i j = true → matE E N (f j) (f i) = true := by
    intro i j hi hj h
    rw [matE_goes hr (hf j hj) (hf i hi)]
    exact (matE_goes hr hi hj).1 h (fun x => Goes E N (f x) (f i)) (Goes.refl _) fun a b ha hb hab hS => (Goes.one (hf b hb) (hf a ha) (hE a b ha hb hab)).trans hS
  rw [Bool.eq_iff_iff]
  constructor
  · exact key i j hi hj
  · intro h
    have := key _ _ (hf j hj) (hf i hi) h
    rwa [hff i hi, hff j hj] at this
/-- the rows as E says -/
def Begun (N : Nat) (E : Nat → Nat → Bool) (m : Nat → BitVec 32) : Prop := ∀ i, i < N → fitB N (m i) = true ∧ ∀ j, j < N → (m i).getLsbD j = E i j
/-- the rows in the midst of the pass of k: those below i are done -/
def Passed (N : Nat) (E : Nat → Nat → Bool) (k i : Nat) (m : Nat → BitVec 32) : Prop := ∀ x, x < N → fitB N (m x) = true ∧ ∀ j, j < N → (m x).getLsbD j = if x < i then matE E (k + 1) x j else matE E k x j
theorem Passed.start {m : Nat → BitVec 32} (h : Begun N E m) : Passed N E 0 0 m := by
  intro x hx
  refine ⟨(h x hx).1, fun j hj => ?_⟩
  rw [if_neg (by omega)]
  exact (h x hx).2 j hj
theorem Passed.next {k : Nat} {m : Nat → BitVec 32} (h : Passed N E k N m) : Passed N E (k + 1) 0 m := by
  intro x hx
  refine ⟨(h x hx).1, fun j hj => ?_⟩
  rw [if_neg (by omega)]
  have := (h x hx).2 j hj
  rw [if_pos hx] at this
  exact this
theorem Passed.bit {k i : Nat} {m : Nat → BitVec 32} (h : Passed N E k i m) (hi : i < N) (hk : k < N) : (m i).getLsbD k = matE E k i k := by
  have := (h i hi).2 k hk
  rw [if_neg (by omega)] at this
  exact this
theorem Passed.skip {k i : Nat} {m : Nat → BitVec 32} (h : Passed N E k i m) (hi : i < N) (hk : k < N) (hno : (m i).getLsbD k = false) : Passed N E k (i + 1) m := by
  rw [h.bit hi hk] at hno
  intro x hx
  refine ⟨(h x hx).1, fun j hj => ?_⟩
  have h2 := (h x hx).2 j hj
  by_cases e : x = i
  · subst e
    rw [if_neg (by omega)] at h2
    rw [if_pos (by omega), h2]
    show _ = (matE E k x j || (matE E k x k && matE E k k j))
    rw [hno]
    simp
  · rw [h2]
    by_cases hx2 : x < i
    · rw [if_pos hx2, if_pos (by omega)]
    · rw [if_neg hx2, if_neg (by omega)]
theorem Passed.add {k i : Nat} {m : Nat → BitVec 32} (h : Passed N E k i m) (hi : i < N) (hk : k < N) (hyes : (m i).getLsbD k = true) : Passed N E k (i + 1) (updN m i (m i ||| m k)) := by
  rw [h.bit hi hk] at hyes
  intro x hx
  unfold updN
  by_cases e : x = i
  · subst e
    rw [if_pos rfl]
    refine ⟨by rw [fitB_or, (h x hx).1, (h k hk).1]; rfl, fun j hj => ?_⟩
    rw [if_pos (by omega), BitVec.getLsbD_or]
    have h2 := (h x hx).2 j hj
    have h3 := (h k hk).2 j hj
    rw [if_neg (by omega)] at h2
    have h4 : (m k).getLsbD j = matE E k k j := by
      rw [h3]
      split
      · exact matE_row k j
      · rfl
    rw [h2, h4]
    show _ = (matE E k x j || (matE E k x k && matE E k k j))
    rw [hyes, Bool.true_and]
  · rw [if_neg e]
    refine ⟨(h x hx).1, fun j hj => ?_⟩
    rw [(h x hx).2 j hj]
    by_cases hx2 : x < i
    · rw [if_pos hx2, if_pos (by omega)]
    · rw [if_neg hx2, if_neg (by omega)]
/-- the closed table -/
def upE (N : Nat) (E : Nat → Nat → Bool) : List (BitVec 32) := (List.range N).map fun i : Nat => wordN N fun j => matE E N i j
theorem upE_length : (upE N E).length = N := by simp [upE]
theorem upE_bit (hn : N ≤ 32) {i : Nat} (h : i < N) (j : Nat) : (nth (upE N E) i).getLsbD j = (decide (j < N) && matE E N i j) := by
  rw [nth_eq _ _ (by rw [upE_length]; exact h)]
  unfold upE
  rw [List.getElem_map, List.getElem_range, wordN_bit _ _ hn]
theorem Passed.done (hn : N ≤ 32) {m : Nat → BitVec 32} (h : Passed N E N 0 m) : (List.range N).map m = upE N E := by
  unfold upE
  apply List.map_congr_left
  intro i hi
  rw [List.mem_range] at hi
  refine wordN_ext hn (h i hi).1 fun j hj => ?_
  have := (h i hi).2 j hj
  rw [if_neg (by omega)] at this
  exact this
end
/-! ### clauses of two -/
def negN (n a : Nat) : Nat := (a + n) % (2 * n)
theorem negN_lt {n a : Nat} (h : a < 2 * n) : negN n a < 2 * n := Nat.mod_lt _ (by omega)
theorem negN_eq {n a : Nat} (h : a < 2 * n) : negN n a = if a < n then a + n else a - n := by
  unfold negN
  split
  · exact Nat.mod_eq_of_lt (by omega)
  · rw [Nat.mod_eq_sub_mod (by omega), Nat.mod_eq_of_lt (by omega)]
    omega
theorem negN_neg {n a : Nat} (h : a < 2 * n) : negN n (negN n a) = a := by
  rw [negN_eq (negN_lt h), negN_eq h]
  by_cases h1 : a < n
  · rw [if_pos h1, if_neg (by omega)]; omega
  · rw [if_neg h1, if_pos (by omega)]; omega
/-- the literals as a word, and how many -/
def litW (n : Nat) (r : Ru) : BitVec 32 := r.1 ||| r.2 <<< n
def cnt (x : BitVec 32) : Nat := Lib.onesCount x.toNat
theorem litW_fit {n : Nat} {r : Ru} (h6 : n ≤ 6) (h : fitB n (r.1 ||| r.2) = true) : fitB (2 * n) (litW n r) = true := by
  rw [fitB_or, Bool.and_eq_true] at h
  rw [fitB_iff]
  intro i hi
  unfold litW at hi
  rw [BitVec.getLsbD_or, BitVec.getLsbD_shiftLeft, Bool.or_eq_true] at hi
  rcases hi with hi | hi
  · have := fitB_iff.1 h.1 i hi; omega
  · simp only [Bool.and_eq_true] at hi
    have := fitB_iff.1 h.2 _ hi.2; omega
def edgeW (n : Nat) (x : BitVec 32) (a b : Nat) : Bool := x.getLsbD (negN n a) && (x.getLsbD b && (cnt x == 1 || negN n a != b))
def edgeL (n : Nat) (rs : List Ru) (a b : Nat) : Bool := a == b || rs.any fun r => edgeW n (litW n r) a b
theorem edgeW_turn {n : Nat} {x : BitVec 32} {a b : Nat} (ha : a < 2 * n) (hb : b < 2 * n) (h : edgeW n x a b = true) : edgeW n x (negN n b) (negN n a) = true := by
  unfold edgeW at h ⊢
  rw [negN_neg hb]
  simp only [Bool.and_eq_true, Bool.or_eq_true, bne_iff_ne] at h ⊢
  exact ⟨h.2.1, h.1, h.2.2.imp id fun h e => h e.symm⟩
theorem edgeL_turn {n : Nat} {rs : List Ru} {a b : Nat} (ha : a < 2 * n) (hb : b < 2 * n) (h : edgeL n rs a b = true) : edgeL n rs (negN n b) (negN n a) = true := by
  unfold edgeL at h ⊢
  rw [Bool.or_eq_true, beq_iff_eq, List.any_eq_true] at h ⊢
  rcases h with rfl | ⟨r, hr, h⟩
  · exact .inl rfl
  · exact .inr ⟨r, hr, edgeW_turn ha hb h⟩
theorem edgeL_self (n : Nat) (rs : List Ru) (a : Nat) : edgeL n rs a a = true := by unfold edgeL; simp
theorem two_turn {n : Nat} (rs : List Ru) {i j : Nat} (hi : i < 2 * n) (hj : j < 2 * n) : matE (edgeL n rs) (2 * n) i j = matE (edgeL n rs) (2 * n) (negN n j) (negN n i) :=
  matE_turn (fun a _ => edgeL_self n rs a) (fun a ha => negN_lt ha) (fun a ha => negN_neg ha) (fun a b ha hb h => edgeL_turn ha hb h) hi hj
theorem two_self {n : Nat} (rs : List Ru) {i : Nat} (hi : i < 2 * n) : matE (edgeL n rs) (2 * n) i i = true := by
  rw [matE_goes (fun a _ => edgeL_self n rs a) hi hi]
  exact Goes.refl _
/-- the other literals -/
def otherW (x : BitVec 32) (i : Nat) : BitVec 32 := if cnt x == 1 then x else x &&& ~~~(1#32 <<< i)
theorem otherW_bit {x : BitVec 32} {i b : Nat} : (otherW x i).getLsbD b = (x.getLsbD b && (cnt x == 1 || i != b)) := by
  unfold otherW
  cases h : (cnt x == 1)
  · simp only [Bool.false_eq_true, if_false, Bool.false_or, BitVec.getLsbD_and, BitVec.getLsbD_not, getLsbD_bit]
    cases hx : x.getLsbD b
    · rfl
    · have hb : b < 32 := BitVec.lt_of_getLsbD hx
      by_cases e : i = b
      · simp [e, hb]
      · simp [e, hb]
  · simp
theorem otherW_fit {n : Nat} {x : BitVec 32} {i : Nat} (h : fitB n x = true) : fitB n (otherW x i) = true := by
  rw [fitB_iff]
  intro b hb
  rw [otherW_bit, Bool.and_eq_true] at hb
  exact fitB_iff.1 h b hb.1
/-- the rows in the midst of a clause: its literals below i are done -/
def Midst (n : Nat) (rs : List Ru) (x : BitVec 32) (i : Nat) (m : Nat → BitVec 32) : Prop :=
  ∀ a, a < 2 * n → fitB (2 * n) (m a) = true ∧ ∀ b, b < 2 * n → (m a).getLsbD b = (edgeL n rs a b || (decide (negN n a < i) && edgeW n x a b))
section
variable {n : Nat} {rs : List Ru} {x : BitVec 32} {m : Nat → BitVec 32} {i : Nat}
theorem Begun.unit (h6 : n ≤ 6) : Begun (2 * n) (edgeL n []) fun i => 1#32 <<< i := by
  intro i hi
  refine ⟨fitB_bit hi, fun j hj => ?_⟩
  rw [getLsbD_bit]
  have : decide (j < 32) = true := by simp; omega
  rw [this]
  unfold edgeL
  by_cases h : i = j
  · simp [h]
  · simp [h]
theorem Midst.start (h : Begun (2 * n) (edgeL n rs) m) (x : BitVec 32) : Midst n rs x 0 m := by
  intro a ha
  refine ⟨(h a ha).1, fun b hb => ?_⟩
  rw [(h a ha).2 b hb]
  simp
theorem Midst.skip (h : Midst n rs x i m) (hno : x.getLsbD i = false) : Midst n rs x (i + 1) m := by
  intro a ha
  refine ⟨(h a ha).1, fun b hb => ?_⟩
  rw [(h a ha).2 b hb]
  congr 1
  by_cases e : negN n a = i
  · have : edgeW n x a b = false := by unfold edgeW; rw [e, hno]; rfl
    rw [this]; simp
  · have : decide (negN n a < i) = decide (negN n a < i + 1) := by
      by_cases h : negN n a < i
      · simp [h]; omega
      · simp [h]; omega
    rw [this]
theorem Midst.add (h : Midst n rs x i m) (hi : i < 2 * n) (hyes : x.getLsbD i = true) (hx : fitB (2 * n) x = true) : Midst n rs x (i + 1) (updN m (negN n i) (m (negN n i) ||| otherW x i)) := by
  intro a ha
  unfold updN
  by_cases e : a = negN n i
  · subst e
    rw [if_pos rfl]
    refine ⟨by rw [fitB_or, (h _ ha).1, otherW_fit hx]; rfl, fun b hb => ?_⟩
    rw [BitVec.getLsbD_or, (h _ ha).2 b hb, otherW_bit, negN_neg hi]
    have : edgeW n x (negN n i) b = (x.getLsbD b && (cnt x == 1 || i != b)) := by
      unfold edgeW
      rw [negN_neg hi, hyes, Bool.true_and]
    rw [this]
    simp
  · rw [if_neg e]
    refine ⟨(h a ha).1, fun b hb => ?_⟩
    rw [(h a ha).2 b hb]
    have hne : negN n a ≠ i := fun h => e (by rw [← h, negN_neg ha])
    have : decide (negN n a < i) = decide (negN n a < i + 1) := by
      by_cases h : negN n a < i
      · simp [h]; omega
      · simp [h]; omega
    rw [this]
theorem Midst.done {r : Ru} (h : Midst n rs (litW n r) (2 * n) m) : Begun (2 * n) (edgeL n (rs ++ [r])) m := by
  intro a ha
  refine ⟨(h a ha).1, fun b hb => ?_⟩
  rw [(h a ha).2 b hb]
  have : decide (negN n a < 2 * n) = true := by simpa using negN_lt ha
  rw [this, Bool.true_and]
  unfold edgeL
  rw [List.any_append, Bool.or_assoc]
  simp
end
/-! ### the check -/
/-- a clause of none or of more than two -/
def oddB (n : Nat) (r : Ru) : Bool := cnt (litW n r) == 0 || decide (2 < cnt (litW n r))
set_option maxRecDepth 100000 in
theorem size_ones : ∀ n : Fin 64, sizeN (BitVec.ofNat 32 n.val) 32 = Lib.onesCount n.val := by decide +kernel
set_option maxRecDepth 100000 in
theorem ones_join : ∀ n : Fin 7, ∀ x : Fin 64, ∀ y : Fin 64, x.val < 2 ^ n.val → Lib.onesCount (x.val ||| y.val <<< n.val) = Lib.onesCount x.val + Lib.onesCount y.val := by decide +kernel
theorem size_cnt {x : BitVec 32} (h : fitB 6 x = true) : sizeN x 32 = cnt x := by
  have hlt : x.toNat < 64 := by
    rw [fitB_lt (by omega), decide_eq_true_eq, BitVec.lt_def] at h
    exact h
  have := size_ones ⟨x.toNat, hlt⟩
  simp only [BitVec.ofNat_toNat, BitVec.setWidth_eq] at this
  exact this
theorem cnt_lit {n : Nat} {r : Ru} (h6 : n ≤ 6) (h : fitB n (r.1 ||| r.2) = true) : cnt (litW n r) = sizeN r.1 32 + sizeN r.2 32 := by
  rw [fitB_or, Bool.and_eq_true] at h
  have hx := fit_six h6 h.1
  have hy := fit_six h6 h.2
  rw [size_cnt hx, size_cnt hy]
  rw [fitB_lt (by omega), decide_eq_true_eq, BitVec.lt_def] at hx hy
  have h1 := h.1
  rw [fitB_lt (by omega), decide_eq_true_eq, BitVec.lt_def, one_shl_toNat n (by omega)] at h1
  have := ones_join ⟨n, by omega⟩ ⟨r.1.toNat, hx⟩ ⟨r.2.toNat, hy⟩ h1
  simp only at this
  unfold cnt litW
  rw [BitVec.toNat_or, BitVec.toNat_shiftLeft]
  have hsh : r.2.toNat <<< n < 2 ^ 32 := by
    rw [Nat.shiftLeft_eq]
    have : 2 ^ n ≤ 2 ^ 6 := Nat.pow_le_pow_right (by omega) h6
    have hy' : r.2.toNat < 64 := hy
    calc r.2.toNat * 2 ^ n ≤ 64 * 2 ^ 6 := Nat.mul_le_mul (by omega) this
      _ < 2 ^ 32 := by omega
  rw [Nat.mod_eq_of_lt hsh]
  exact this
end Go.Proofs.Ytekpifobhgjepaa
