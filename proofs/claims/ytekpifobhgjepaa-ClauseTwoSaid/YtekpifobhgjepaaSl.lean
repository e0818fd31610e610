/- Slices of words, of pairs of words and of integers, read as lists; sets of things as words. -/
import Derived.Test.YtekpifobhgjepaaBv
import Derived.Test.YtekpifobhgjepaaMem
import Derived.Lib.Hide
namespace Go.Proofs.Ytekpifobhgjepaa
open Go Go.RowKit

def wv (x : BitVec 32) : Value := .int .u32 (W x)
def iv (x : Int) : Value := .int .i64 x
def bv (x : Bool) : Value := .bool x
abbrev Ru := BitVec 32 × BitVec 32
def ruCells (rs : List Ru) : List Value := rs.flatMap fun r => [.int .u32 (W r.1), .int .u32 (W r.2)]
theorem ruCells_at : ∀ (rs : List Ru) (k : Nat) (r : Ru), rs[k]? = some r → (ruCells rs)[k * 2]? = some (.int .u32 (W r.1)) ∧ (ruCells rs)[k * 2 + 1]? = some (.int .u32 (W r.2)) := by
  intro rs
  induction rs with
  | nil => intro k r h; simp at h
  | cons a l ih =>
    intro k r h
    cases k with
    | zero => simp at h; subst h; simp [ruCells]
    | succ k =>
      have := ih k r (by simpa using h)
      have e : (k + 1) * 2 = k * 2 + 1 + 1 := by omega
      rw [e]
      simpa [ruCells] using this
theorem ruCells_length (rs : List Ru) : (ruCells rs).length = rs.length * 2 := by
  induction rs with
  | nil => rfl
  | cons a l ih => simp [ruCells] at ih ⊢; omega
/-- a slice of pairs of words -/
def SlR (w : World) (A : Option Addr) (n : Nat) (rs : List Ru) : Prop := Sl w 2 A n (ruCells rs) ∧ rs.length = n
/-- a slice of words -/
def SlW (w : World) (A : Option Addr) (n : Nat) (xs : List (BitVec 32)) : Prop := Sl w 1 A n (xs.map wv) ∧ xs.length = n
/-- a slice of integers -/
def SlI (w : World) (A : Option Addr) (n : Nat) (xs : List Int) : Prop := Sl w 1 A n (xs.map iv) ∧ xs.length = n
/-- a slice of truth values -/
def SlB (w : World) (A : Option Addr) (n : Nat) (xs : List Bool) : Prop := Sl w 1 A n (xs.map bv) ∧ xs.length = n
section
variable {w w' : World} {A : Option Addr} {n : Nat}
theorem SlR.kept {rs} (h : SlR w A n rs) (k : Kept w w') : SlR w' A n rs := ⟨h.1.kept k, h.2⟩
theorem SlW.kept {rs} (h : SlW w A n rs) (k : Kept w w') : SlW w' A n rs := ⟨h.1.kept k, h.2⟩
theorem SlI.kept {rs} (h : SlI w A n rs) (k : Kept w w') : SlI w' A n rs := ⟨h.1.kept k, h.2⟩
theorem SlB.kept {rs} (h : SlB w A n rs) (k : Kept w w') : SlB w' A n rs := ⟨h.1.kept k, h.2⟩
theorem SlR.get {rs} (h : SlR w A n rs) (k : Nat) (hk : k < n) : ∃ b off, ∃ hb : k < rs.length, A = some ⟨b, off, none⟩ ∧ b < w.heap.size ∧
    w.cell? ⟨b, off + k * 2, none⟩ = some (.int .u32 (W rs[k].1)) ∧ w.cell? ⟨b, off + k * 2 + 1, none⟩ = some (.int .u32 (W rs[k].2)) := by
  have hl : k < rs.length := by rw [h.2]; exact hk
  obtain ⟨b, off, e, hb, hc⟩ := h.1.2 (by omega)
  obtain ⟨q1, q2⟩ := ruCells_at rs k rs[k] (List.getElem?_eq_getElem hl)
  exact ⟨b, off, hl, e, hb, hc _ _ q1, hc _ _ q2⟩
theorem SlW.get {xs} (h : SlW w A n xs) (k : Nat) (hk : k < n) : ∃ b off, ∃ hb : k < xs.length, A = some ⟨b, off, none⟩ ∧ b < w.heap.size ∧
    w.cell? ⟨b, off + k, none⟩ = some (.int .u32 (W xs[k])) := by
  have hl : k < xs.length := by rw [h.2]; exact hk
  obtain ⟨b, off, e, hb, hc⟩ := h.1.2 (by omega)
  exact ⟨b, off, hl, e, hb, hc k _ (by rw [List.getElem?_map, List.getElem?_eq_getElem hl]; rfl)⟩
/-- the k-th word of a list -/
def nth (xs : List (BitVec 32)) (k : Nat) : BitVec 32 := xs.getD k 0#32
theorem nth_eq (xs : List (BitVec 32)) (k : Nat) (h : k < xs.length) : nth xs k = xs[k] := by
  unfold nth
  rw [List.getD_eq_getElem?_getD, List.getElem?_eq_getElem h]
  rfl
theorem SlW.getN {xs} (h : SlW w A n xs) (k : Nat) (hk : k < n) : ∃ b off, A = some ⟨b, off, none⟩ ∧ b < w.heap.size ∧
    w.cell? ⟨b, off + k, none⟩ = some (.int .u32 (W (nth xs k))) := by
  obtain ⟨b, off, hl, e, hb, hc⟩ := h.get k hk
  exact ⟨b, off, e, hb, by rw [nth_eq _ _ hl]; exact hc⟩
/-- a slice of words, its place opened once: its block, and each of its cells -/
theorem SlW.open_ {xs} (h : SlW w A n xs) (hn : 0 < n) : ∃ b off, A = some ⟨b, off, none⟩ ∧ b < w.heap.size ∧ ∀ k, k < n → w.cell? ⟨b, off + k, none⟩ = some (.int .u32 (W (nth xs k))) := by
  obtain ⟨b, off, e, hb, _⟩ := h.getN 0 hn
  refine ⟨b, off, e, hb, fun k hk => ?_⟩
  obtain ⟨b', off', e', _, hc⟩ := h.getN k hk
  rw [e] at e'
  injection e' with e'
  injection e' with e1 e2
  subst e1 e2
  exact hc
theorem SlI.get {xs} (h : SlI w A n xs) (k : Nat) (hk : k < n) : ∃ b off, ∃ hb : k < xs.length, A = some ⟨b, off, none⟩ ∧ b < w.heap.size ∧
    w.cell? ⟨b, off + k, none⟩ = some (.int .i64 xs[k]) := by
  have hl : k < xs.length := by rw [h.2]; exact hk
  obtain ⟨b, off, e, hb, hc⟩ := h.1.2 (by omega)
  exact ⟨b, off, hl, e, hb, hc k _ (by rw [List.getElem?_map, List.getElem?_eq_getElem hl]; rfl)⟩
theorem SlB.get {xs} (h : SlB w A n xs) (k : Nat) (hk : k < n) : ∃ b off, ∃ hb : k < xs.length, A = some ⟨b, off, none⟩ ∧ b < w.heap.size ∧
    w.cell? ⟨b, off + k, none⟩ = some (.bool xs[k]) := by
  have hl : k < xs.length := by rw [h.2]; exact hk
  obtain ⟨b, off, e, hb, hc⟩ := h.1.2 (by omega)
  exact ⟨b, off, hl, e, hb, hc k _ (by rw [List.getElem?_map, List.getElem?_eq_getElem hl]; rfl)⟩
theorem Sl.take {s : Nat} {xs : List Value} (h : Sl w s A n xs) {i : Nat} (hi : i ≤ n) : Sl w s A i (xs.take (i * s)) := by
  have hle : i * s ≤ n * s := Nat.mul_le_mul_right s hi
  refine ⟨by rw [List.length_take, h.1]; omega, fun hn => ?_⟩
  obtain ⟨b, off, e, hb, hc⟩ := h.2 (by omega)
  refine ⟨b, off, e, hb, fun j u hu => hc j u ?_⟩
  rw [List.getElem?_take] at hu
  split at hu
  · exact hu
  · cases hu
theorem SlW.take {xs} (h : SlW w A n xs) {i : Nat} (hi : i ≤ n) : SlW w A i (xs.take i) := by
  have := Sl.take h.1 hi
  rw [Nat.mul_one, ← List.map_take] at this
  exact ⟨this, by rw [List.length_take, h.2]; omega⟩
theorem SlI.take {xs} (h : SlI w A n xs) {i : Nat} (hi : i ≤ n) : SlI w A i (xs.take i) := by
  have := Sl.take h.1 hi
  rw [Nat.mul_one, ← List.map_take] at this
  exact ⟨this, by rw [List.length_take, h.2]; omega⟩
theorem SlW.nil_ (w : World) (A : Option Addr) : SlW w A 0 [] := ⟨Sl.nil_ _ _ _, rfl⟩
theorem SlR.nil_ (w : World) (A : Option Addr) : SlR w A 0 [] := ⟨Sl.nil_ _ _ _, rfl⟩
theorem SlI.nil_ (w : World) (A : Option Addr) : SlI w A 0 [] := ⟨Sl.nil_ _ _ _, rfl⟩
theorem SlB.nil_ (w : World) (A : Option Addr) : SlB w A 0 [] := ⟨Sl.nil_ _ _ _, rfl⟩
end

/-- the k-th truth value of a list -/
def bat (xs : List Bool) (k : Nat) : Bool := xs.getD k false
theorem bat_eq (xs : List Bool) (k : Nat) (h : k < xs.length) : bat xs k = xs[k] := by
  unfold bat
  rw [List.getD_eq_getElem?_getD, List.getElem?_eq_getElem h]
  rfl
section
variable {w w' : World} {A : Option Addr} {n : Nat}
theorem SlB.getN {xs} (h : SlB w A n xs) (k : Nat) (hk : k < n) : ∃ b off, A = some ⟨b, off, none⟩ ∧ b < w.heap.size ∧
    w.cell? ⟨b, off + k, none⟩ = some (.bool (bat xs k)) := by
  obtain ⟨b, off, hl, e, hb, hc⟩ := h.get k hk
  exact ⟨b, off, e, hb, by rw [bat_eq _ _ hl]; exact hc⟩
theorem SlB.open_ {xs} (h : SlB w A n xs) (hn : 0 < n) : ∃ b off, A = some ⟨b, off, none⟩ ∧ b < w.heap.size ∧ ∀ k, k < n → w.cell? ⟨b, off + k, none⟩ = some (.bool (bat xs k)) := by
  obtain ⟨b, off, e, hb, _⟩ := h.getN 0 hn
  refine ⟨b, off, e, hb, fun k hk => ?_⟩
  obtain ⟨b', off', e', _, hc⟩ := h.getN k hk
  rw [e] at e'
  injection e' with e'
  injection e' with e1 e2
  subst e1 e2
  exact hc
end
theorem bat_ext {xs ys : List Bool} (hl : xs.length = ys.length) (h : ∀ k, k < xs.length → bat xs k = bat ys k) : xs = ys := by
  apply List.ext_getElem hl
  intro i h1 h2
  have := h i h1
  rw [bat_eq _ _ h1, bat_eq _ _ h2] at this
  exact this
theorem bat_map_range (g : Nat → Bool) (n k : Nat) (h : k < n) : bat ((List.range n).map g) k = g k := by
  rw [bat_eq _ _ (by simpa using h)]
  simp
theorem SlW.new1 (w : World) (x : BitVec 32) (t : TypeId) : SlW (w.alloc (.cells #[.int .u32 (W x)] t)) (some ⟨w.heap.size, 0, none⟩) 1 [x] := ⟨Sl.new w _ t 1 1 rfl, rfl⟩
theorem SlW.new1' (w : World) (x : BitVec 32) (t : TypeId) (B : Nat) (h : w.heap.size = B) : SlW (w.alloc (.cells #[.int .u32 (W x)] t)) (some ⟨B, 0, none⟩) 1 [x] := by subst h; exact ⟨Sl.new w _ t 1 1 rfl, rfl⟩
theorem SlW.new2' (w : World) (x y : BitVec 32) (t : TypeId) (B : Nat) (h : w.heap.size = B) : SlW (w.alloc (.cells #[.int .u32 (W x), .int .u32 (W y)] t)) (some ⟨B, 0, none⟩) 2 [x, y] := by subst h; exact ⟨Sl.new w _ t 1 2 rfl, rfl⟩
theorem SlW.new2 (w : World) (x y : BitVec 32) (t : TypeId) : SlW (w.alloc (.cells #[.int .u32 (W x), .int .u32 (W y)] t)) (some ⟨w.heap.size, 0, none⟩) 2 [x, y] := ⟨Sl.new w _ t 1 2 rfl, rfl⟩

/-! ### a list taken one further -/
theorem take_snoc {α : Type} (l : List α) (k : Nat) (h : k < l.length) : l.take (k + 1) = l.take k ++ [l[k]] := List.take_succ_eq_append_getElem h
theorem foldl_snoc {α β : Type} (f : β → α → β) (b : β) (l : List α) (k : Nat) (h : k < l.length) : (l.take (k + 1)).foldl f b = f ((l.take k).foldl f b) l[k] := by
  rw [take_snoc l k h, List.foldl_append]
  rfl
theorem all_snoc {α : Type} (p : α → Bool) (l : List α) (k : Nat) (h : k < l.length) : (l.take (k + 1)).all p = ((l.take k).all p && p l[k]) := by
  rw [take_snoc l k h, List.all_append]
  simp
theorem any_snoc {α : Type} (p : α → Bool) (l : List α) (k : Nat) (h : k < l.length) : (l.take (k + 1)).any p = ((l.take k).any p || p l[k]) := by
  rw [take_snoc l k h, List.any_append]
  simp
theorem take_all {α : Type} (l : List α) (k : Nat) (h : l.length ≤ k) : l.take k = l := List.take_of_length_le h

/-! ### sets as words -/
/-- is all of a within b? -/
def subB (a b : BitVec 32) : Bool := (a ||| b) == b
theorem subB_iff {a b : BitVec 32} : subB a b = true ↔ ∀ i, a.getLsbD i = true → b.getLsbD i = true := by
  unfold subB
  rw [beq_iff_eq]
  constructor
  · intro h i hi
    rw [← h, BitVec.getLsbD_or, hi]
    rfl
  · intro h
    apply BitVec.eq_of_getLsbD_eq
    intro i _
    rw [BitVec.getLsbD_or]
    have := h i
    cases ha : a.getLsbD i <;> simp_all
theorem andNot_zero {a b : BitVec 32} : (a &&& ~~~b == 0#32) = subB a b := by
  rw [Bool.eq_iff_iff, subB_iff, beq_iff_eq]
  constructor
  · intro h i hi
    have h2 : (a &&& ~~~b).getLsbD i = false := by rw [h]; simp
    have hlt : i < 32 := BitVec.lt_of_getLsbD hi
    rw [BitVec.getLsbD_and, hi, BitVec.getLsbD_not] at h2
    simpa [hlt] using h2
  · intro h
    apply BitVec.eq_of_getLsbD_eq
    intro i hi
    rw [BitVec.getLsbD_and, BitVec.getLsbD_not]
    have := h i
    cases ha : a.getLsbD i <;> simp_all
theorem andNot_nz {a b : BitVec 32} : (a &&& ~~~b != 0#32) = !subB a b := by rw [bne, andNot_zero]
/-- may a word be, of n? -/
def fitB (n : Nat) (s : BitVec 32) : Bool := s >>> n == 0#32
theorem fitB_iff {n : Nat} {s : BitVec 32} : fitB n s = true ↔ ∀ i, s.getLsbD i = true → i < n := by
  unfold fitB
  rw [beq_iff_eq]
  constructor
  · intro h i hi
    refine Decidable.byContradiction fun hc => ?_
    have h2 : (s >>> n).getLsbD (i - n) = false := by rw [h]; simp
    rw [BitVec.getLsbD_ushiftRight, show n + (i - n) = i by omega, hi] at h2
    cases h2
  · intro h
    apply BitVec.eq_of_getLsbD_eq
    intro i _
    rw [BitVec.getLsbD_ushiftRight]
    cases hb : s.getLsbD (n + i)
    · simp
    · have := h _ hb; omega
theorem fitB_lt {n : Nat} {s : BitVec 32} (hn : n < 32) : fitB n s = decide (s < 1#32 <<< n) := by
  rw [Bool.eq_iff_iff, decide_eq_true_eq]
  unfold fitB
  rw [beq_iff_eq, ← BitVec.toNat_inj, BitVec.toNat_ushiftRight, BitVec.lt_def, BitVec.toNat_shiftLeft, Nat.shiftRight_eq_div_pow, Nat.shiftLeft_eq]
  have h1 : (2 : Nat) ^ n < 2 ^ 32 := Nat.pow_lt_pow_right (by omega) hn
  have e : (1#32).toNat * 2 ^ n % 2 ^ 32 = 2 ^ n := by
    rw [show (1#32).toNat = 1 from rfl, Nat.one_mul]
    exact Nat.mod_eq_of_lt h1
  rw [e]
  have hp : 0 < 2 ^ n := Nat.pow_pos (by omega)
  simp [Nat.div_eq_zero_iff]
theorem fitB_or {n : Nat} {a b : BitVec 32} : fitB n (a ||| b) = (fitB n a && fitB n b) := by
  rw [Bool.eq_iff_iff, Bool.and_eq_true, fitB_iff, fitB_iff, fitB_iff]
  constructor
  · intro h
    exact ⟨fun i hi => h i (by rw [BitVec.getLsbD_or, hi]; rfl), fun i hi => h i (by rw [BitVec.getLsbD_or, hi]; simp)⟩
  · rintro ⟨h1, h2⟩ i hi
    rw [BitVec.getLsbD_or, Bool.or_eq_true] at hi
    rcases hi with hi | hi
    · exact h1 i hi
    · exact h2 i hi
theorem fitB_zero (n : Nat) : fitB n 0#32 = true := by rw [fitB_iff]; intro i hi; simp at hi
@[go_sem] theorem shr_beq0 (x : BitVec 32) (n : Nat) : (x >>> n == 0#32) = fitB n x := rfl
@[go_sem] theorem shr_bne0 (x : BitVec 32) (n : Nat) : (x >>> n != 0#32) = !fitB n x := rfl
@[go_sem] theorem or_beq (x y : BitVec 32) : (x ||| y == y) = subB x y := rfl
@[go_sem] theorem andNot_beq0 (x y : BitVec 32) : (x &&& ~~~y == 0#32) = subB x y := andNot_zero
@[go_sem] theorem andNot_bne0 (x y : BitVec 32) : (x &&& ~~~y != 0#32) = !subB x y := andNot_nz
theorem and1_eq (x : BitVec 32) : x &&& 1#32 = if x.getLsbD 0 then 1#32 else 0#32 := by
  apply BitVec.eq_of_getLsbD_eq
  intro i hi
  rw [BitVec.getLsbD_and]
  by_cases h : i = 0
  · subst h
    cases x.getLsbD 0 <;> simp
  · have e : (1#32).getLsbD i = false := by
      rw [BitVec.getLsbD_one]
      simp [h]
    rw [e, Bool.and_false]
    split
    · exact e.symm
    · simp
@[go_sem] theorem bit_beq1 (x : BitVec 32) (i : Nat) : (x >>> i &&& 1#32 == 1#32) = x.getLsbD i := by
  rw [and1_eq, BitVec.getLsbD_ushiftRight, Nat.add_zero]
  cases x.getLsbD i <;> rfl
@[go_sem] theorem bit_beq0 (x : BitVec 32) (i : Nat) : (x >>> i &&& 1#32 == 0#32) = !x.getLsbD i := by
  rw [and1_eq, BitVec.getLsbD_ushiftRight, Nat.add_zero]
  cases x.getLsbD i <;> rfl
theorem getLsbD_bit (i j : Nat) : (1#32 <<< i).getLsbD j = (decide (i = j) && decide (j < 32)) := by
  rw [BitVec.getLsbD_shiftLeft]
  by_cases h : j < 32
  · by_cases h2 : i = j
    · subst h2
      simp [h]
    · by_cases h3 : j < i
      · simp [h2, h3]
      · have e : (1#32).getLsbD (j - i) = false := by
          rw [BitVec.getLsbD_one]
          simp
          omega
        rw [e]
        simp [h2]
  · simp [h]
/-- the word of all of n things -/
theorem full_bit (n i : Nat) (hn : n < 32) : (1#32 <<< n - 1#32).getLsbD i = decide (i < n) := by
  have e : 1#32 <<< n - 1#32 = BitVec.ofNat 32 (2 ^ n - 1) := by
    have h1 : (2 : Nat) ^ n < 2 ^ 32 := Nat.pow_lt_pow_right (by omega) hn
    have hp : 0 < 2 ^ n := Nat.pow_pos (by omega)
    apply BitVec.eq_of_toNat_eq
    rw [BitVec.toNat_sub, BitVec.toNat_shiftLeft, Nat.shiftLeft_eq, BitVec.toNat_ofNat]
    simp only [BitVec.toNat_ofNat]
    have e1 : 1 % 2 ^ 32 * 2 ^ n % 2 ^ 32 = 2 ^ n := by
      rw [Nat.mod_eq_of_lt (by omega : 1 < 2 ^ 32), Nat.one_mul, Nat.mod_eq_of_lt h1]
    rw [e1]
    omega
  rw [e, BitVec.getLsbD_ofNat, Nat.testBit_two_pow_sub_one]
  by_cases h : i < n
  · simp [h]; omega
  · simp [h]
@[go_sem] theorem bit_and (x : BitVec 32) (i : Nat) : (x &&& 1#32 <<< i != 0#32) = x.getLsbD i := by
  rw [Bool.eq_iff_iff, bne_iff_ne]
  constructor
  · intro h
    cases hb : x.getLsbD i
    · exfalso
      apply h
      apply BitVec.eq_of_getLsbD_eq
      intro j hj
      rw [BitVec.getLsbD_and, getLsbD_bit]
      by_cases hij : i = j
      · subst hij
        simp [hb]
      · simp [hij]
    · rfl
  · intro h e
    have hi : i < 32 := BitVec.lt_of_getLsbD h
    have : (x &&& 1#32 <<< i).getLsbD i = true := by
      rw [BitVec.getLsbD_and, getLsbD_bit, h]
      simp [hi]
    rw [e] at this
    simp at this
theorem subB_refl (a : BitVec 32) : subB a a = true := subB_iff.2 fun _ h => h
theorem subB_trans {a b c : BitVec 32} (h : subB a b = true) (k : subB b c = true) : subB a c = true := subB_iff.2 fun i hi => subB_iff.1 k i (subB_iff.1 h i hi)
theorem subB_antisymm {a b : BitVec 32} (h : subB a b = true) (k : subB b a = true) : a = b := by
  apply BitVec.eq_of_getLsbD_eq
  intro i _
  rw [Bool.eq_iff_iff]
  exact ⟨subB_iff.1 h i, subB_iff.1 k i⟩
theorem subB_zero (a : BitVec 32) : subB 0#32 a = true := subB_iff.2 fun i h => by simp at h
theorem subB_or_left (a b : BitVec 32) : subB a (a ||| b) = true := subB_iff.2 fun i h => by rw [BitVec.getLsbD_or, h]; rfl
theorem subB_or_right (a b : BitVec 32) : subB b (a ||| b) = true := subB_iff.2 fun i h => by rw [BitVec.getLsbD_or, h]; simp
theorem subB_or {a b c : BitVec 32} : subB (a ||| b) c = (subB a c && subB b c) := by
  rw [Bool.eq_iff_iff, Bool.and_eq_true]
  constructor
  · intro h
    exact ⟨subB_trans (subB_or_left a b) h, subB_trans (subB_or_right a b) h⟩
  · rintro ⟨h1, h2⟩
    refine subB_iff.2 fun i hi => ?_
    rw [BitVec.getLsbD_or, Bool.or_eq_true] at hi
    rcases hi with hi | hi
    · exact subB_iff.1 h1 i hi
    · exact subB_iff.1 h2 i hi
theorem subB_and {a b c : BitVec 32} : subB a (b &&& c) = (subB a b && subB a c) := by
  rw [Bool.eq_iff_iff, Bool.and_eq_true, subB_iff, subB_iff, subB_iff]
  constructor
  · intro h
    exact ⟨fun i hi => by have := h i hi; rw [BitVec.getLsbD_and, Bool.and_eq_true] at this; exact this.1, fun i hi => by have := h i hi; rw [BitVec.getLsbD_and, Bool.and_eq_true] at this; exact this.2⟩
  · rintro ⟨h1, h2⟩ i hi
    rw [BitVec.getLsbD_and, h1 i hi, h2 i hi]
    rfl
theorem fitB_sub {n : Nat} {a b : BitVec 32} (h : subB a b = true) (k : fitB n b = true) : fitB n a = true := fitB_iff.2 fun i hi => fitB_iff.1 k i (subB_iff.1 h i hi)
theorem subB_le {a b : BitVec 32} (h : subB a b = true) : a.toNat ≤ b.toNat := by
  unfold subB at h
  rw [beq_iff_eq] at h
  rw [← h, BitVec.toNat_or]
  exact Nat.left_le_or
theorem subB_lt {a b : BitVec 32} (h : subB a b = true) (hne : a ≠ b) : a.toNat < b.toNat := by
  have := subB_le h
  have h2 : a.toNat ≠ b.toNat := fun e => hne (BitVec.toNat_inj.1 e)
  omega
end Go.Proofs.Ytekpifobhgjepaa
