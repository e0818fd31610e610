/- Words with a greatest bit of their own, that no other one has: plain facts. -/
import Derived.Test.YtodkpojmonikiaaToldP
import Derived.Lib.ItoaNum
namespace Go.Proofs.Ytodkpojmonikiaa
open Go
set_option linter.unusedVariables false

theorem topz {x : BitVec 32} (h0 : x ≠ 0#32) : Lib.bitLen x.toNat = topN x + 1 ∧ topN x < 32 ∧ x.getLsbD (topN x) = true ∧ ∀ j, topN x < j → x.getLsbD j = false := by
  have hx : x.toNat ≠ 0 := fun e => h0 (BitVec.eq_of_toNat_eq e)
  have hlt := x.isLt
  obtain ⟨h1, h2, h3⟩ := Lib.bitLenAux_bounds 64 x.toNat (by omega) hx
  have hle := Lib.bitLen_le x.toNat 32 (by omega) hlt
  have e : Lib.bitLen x.toNat = Lib.bitLenAux 64 x.toNat := rfl
  have e2 : topN x = Lib.bitLenAux 64 x.toNat - 1 := rfl
  rw [← e] at h1 h2 h3
  have e3 : topN x = Lib.bitLen x.toNat - 1 := rfl
  refine ⟨by omega, by omega, ?_, fun j hj => ?_⟩
  · rw [BitVec.getLsbD, e3]
    apply Nat.testBit_of_two_pow_le_and_two_pow_add_one_gt h2
    have : Lib.bitLen x.toNat - 1 + 1 = Lib.bitLen x.toNat := by omega
    rw [this]
    exact h3
  · rw [BitVec.getLsbD]
    apply Nat.testBit_lt_two_pow
    exact Nat.lt_of_lt_of_le h3 (Nat.pow_le_pow_right (by omega) (by omega))
theorem topz_uniq {x : BitVec 32} {t : Nat} (h0 : x.getLsbD t = true) (h1 : ∀ j, t < j → x.getLsbD j = false) : topN x = t := by
  have hx : x ≠ 0#32 := fun h => by rw [h] at h0; simp at h0
  obtain ⟨_, _, h2, h3⟩ := topz hx
  rcases Nat.lt_trichotomy (topN x) t with h | h | h
  · rw [h3 t h] at h0; cases h0
  · exact h
  · rw [h1 _ h] at h2; cases h2
def cutZ (z o : BitVec 32) : BitVec 32 := if z.getLsbD (topN o) then z ^^^ o else z
def lessZ (l : List (BitVec 32)) (z : BitVec 32) : BitVec 32 := l.foldl cutZ z
def RefZ (l : List (BitVec 32)) : Prop := (∀ i, ∀ hi : i < l.length, l[i] ≠ 0#32) ∧ ∀ i j, ∀ hi : i < l.length, ∀ hj : j < l.length, i ≠ j → l[j].getLsbD (topN l[i]) = false
theorem RefZ.nil : RefZ [] := ⟨fun i hi => by simp at hi, fun i j hi => by simp at hi⟩
def fixZ (x : BitVec 32) (k : Nat) (l : List (BitVec 32)) : List (BitVec 32) := (l.take k).map (fun o => cutZ o x) ++ l.drop k
theorem fixZ_length (x : BitVec 32) (k : Nat) (l : List (BitVec 32)) : (fixZ x k l).length = l.length := by
  unfold fixZ
  simp
  omega
theorem fixZ_at {x : BitVec 32} {k : Nat} {l : List (BitVec 32)} {i : Nat} (h : i < l.length) : (fixZ x k l)[i]'(by rw [fixZ_length]; exact h) = if i < k then cutZ l[i] x else l[i] := by
  unfold fixZ
  by_cases hi : i < k
  · rw [if_pos hi, List.getElem_append_left (by simp; omega)]
    simp
  · rw [if_neg hi, List.getElem_append_right (by simp; omega)]
    simp
    congr 1
    omega
theorem fixZ_zero (x : BitVec 32) (l : List (BitVec 32)) : fixZ x 0 l = l := by simp [fixZ]
theorem fixZ_same {x : BitVec 32} {j : Nat} {l : List (BitVec 32)} (h : j < l.length) (hc : cutZ l[j] x = l[j]) : fixZ x (j + 1) l = fixZ x j l := by
  unfold fixZ
  rw [take_snoc l j h, List.map_append, List.append_assoc, List.drop_eq_getElem_cons h]
  simp [hc]
theorem fixZ_set {x : BitVec 32} {j : Nat} {l : List (BitVec 32)} (h : j < l.length) : fixZ x (j + 1) l = (fixZ x j l).set j (cutZ l[j] x) := by
  apply List.ext_getElem
  · rw [List.length_set, fixZ_length, fixZ_length]
  · intro i h1 h2
    rw [fixZ_length] at h1
    rw [List.getElem_set, fixZ_at h1, fixZ_at h1]
    by_cases e : j = i
    · subst e; simp
    · rw [if_neg e]
      by_cases h3 : i < j
      · rw [if_pos h3, if_pos (by omega)]
      · rw [if_neg h3, if_neg (by omega)]
theorem lessZ_take {l : List (BitVec 32)} (h : RefZ l) (z : BitVec 32) : ∀ k, k ≤ l.length → ∀ i, ∀ hi : i < l.length, i < k → (lessZ (l.take k) z).getLsbD (topN l[i]) = false := by
  intro k
  induction k with
  | zero => intro _ i hi h; omega
  | succ k ih =>
    intro hk
    have hkl : k < l.length := by omega
    have h2 := ih (by omega)
    have e : lessZ (l.take (k + 1)) z = cutZ (lessZ (l.take k) z) l[k] := foldl_snoc cutZ z l k hkl
    rw [e]
    generalize lessZ (l.take k) z = x at h2 ⊢
    have ht := (topz (h.1 k hkl)).2.2.1
    intro i hi hik
    unfold cutZ
    cases hb : x.getLsbD (topN l[k])
    · rw [if_neg (by simp)]
      by_cases e2 : i = k
      · subst e2; exact hb
      · exact h2 i hi (by omega)
    · rw [if_pos rfl, BitVec.getLsbD_xor]
      by_cases e2 : i = k
      · subst e2; rw [hb, ht]; rfl
      · rw [h2 i hi (by omega), h.2 i k hi hkl e2]; rfl
theorem lessZ_all {l : List (BitVec 32)} (h : RefZ l) (z : BitVec 32) : ∀ i, ∀ hi : i < l.length, (lessZ l z).getLsbD (topN l[i]) = false := by
  have := lessZ_take h z l.length (Nat.le_refl _)
  rw [List.take_length] at this
  exact fun i hi => this i hi hi
theorem cutZ_top {l : List (BitVec 32)} {x : BitVec 32} (h : RefZ l) (h0 : x ≠ 0#32) (hz : ∀ i, ∀ hi : i < l.length, x.getLsbD (topN l[i]) = false) {i : Nat} (hi : i < l.length) :
    topN (cutZ l[i] x) = topN l[i] ∧ (cutZ l[i] x).getLsbD (topN x) = false ∧ cutZ l[i] x ≠ 0#32 := by
  obtain ⟨_, _, hr1, hr2⟩ := topz h0
  obtain ⟨_, _, ht1, ht2⟩ := topz (h.1 i hi)
  unfold cutZ
  cases hb : l[i].getLsbD (topN x)
  · rw [if_neg (by simp)]
    exact ⟨rfl, hb, h.1 i hi⟩
  · rw [if_pos rfl]
    have hlt : topN x < topN l[i] := by
      rcases Nat.lt_trichotomy (topN x) (topN l[i]) with h3 | h3 | h3
      · exact h3
      · have := hz i hi; rw [← h3, hr1] at this; cases this
      · rw [ht2 _ h3] at hb; cases hb
    have hbit : (l[i] ^^^ x).getLsbD (topN l[i]) = true := by
      rw [BitVec.getLsbD_xor, ht1, hz i hi]; rfl
    refine ⟨topz_uniq hbit (fun j hj => ?_), ?_, fun e => by rw [e] at hbit; simp at hbit⟩
    · rw [BitVec.getLsbD_xor, ht2 j hj, hr2 j (by omega)]; rfl
    · rw [BitVec.getLsbD_xor, hb, hr1]; rfl
theorem cutZ_bit {l : List (BitVec 32)} {x : BitVec 32} (h : RefZ l) (hz : ∀ i, ∀ hi : i < l.length, x.getLsbD (topN l[i]) = false) {i j : Nat} (hi : i < l.length) (hj : j < l.length) (hij : i ≠ j) : (cutZ l[j] x).getLsbD (topN l[i]) = false := by
  unfold cutZ
  split
  · rw [BitVec.getLsbD_xor, h.2 i j hi hj hij, hz i hi]; rfl
  · exact h.2 i j hi hj hij
theorem RefZ.add {l : List (BitVec 32)} {x : BitVec 32} (h : RefZ l) (h0 : x ≠ 0#32) (hz : ∀ i, ∀ hi : i < l.length, x.getLsbD (topN l[i]) = false) : RefZ (fixZ x l.length l ++ [x]) := by
  have hlen : (fixZ x l.length l).length = l.length := fixZ_length _ _ _
  have at1 : ∀ i, ∀ hi : i < l.length, (fixZ x l.length l ++ [x])[i]'(by simp [hlen]; omega) = cutZ l[i] x := by
    intro i hi
    rw [List.getElem_append_left (by rw [hlen]; exact hi), fixZ_at hi, if_pos hi]
  have at2 : (fixZ x l.length l ++ [x])[l.length]'(by simp [hlen]) = x := by
    rw [List.getElem_append_right (by rw [hlen]; exact Nat.le_refl _)]
    simp [hlen]
  constructor
  · intro i hi
    rw [List.length_append, hlen] at hi
    simp at hi
    by_cases hl : i < l.length
    · rw [at1 i hl]
      exact (cutZ_top h h0 hz hl).2.2
    · obtain rfl : i = l.length := by omega
      rw [at2]
      exact h0
  · intro i j hi hj hij
    rw [List.length_append, hlen] at hi hj
    simp at hi hj
    by_cases hl : i < l.length
    · rw [at1 i hl, (cutZ_top h h0 hz hl).1]
      by_cases hl2 : j < l.length
      · rw [at1 j hl2]
        exact cutZ_bit h hz hl hl2 hij
      · obtain rfl : j = l.length := by omega
        rw [at2]
        exact hz i hl
    · obtain rfl : i = l.length := by omega
      have hl2 : j < l.length := by omega
      rw [at2, at1 j hl2]
      exact (cutZ_top h h0 hz hl2).2.1
/-- the reduced words of the first k -/
def redZ (zs : List (BitVec 32)) : Nat → List (BitVec 32)
  | 0 => []
  | k + 1 => if lessZ (redZ zs k) (nth zs k) == 0#32 then redZ zs k else fixZ (lessZ (redZ zs k) (nth zs k)) (redZ zs k).length (redZ zs k) ++ [lessZ (redZ zs k) (nth zs k)]
theorem redZ_ref (zs : List (BitVec 32)) : ∀ k, RefZ (redZ zs k) := by
  intro k
  induction k with
  | zero => exact RefZ.nil
  | succ k ih =>
    show RefZ (if _ then _ else _)
    split
    · exact ih
    · rename_i hne
      exact ih.add (by simpa using hne) (lessZ_all ih _)
theorem redZ_len (zs : List (BitVec 32)) : ∀ k, (redZ zs k).length ≤ k := by
  intro k
  induction k with
  | zero => exact Nat.le_refl _
  | succ k ih =>
    show (if _ then _ else _ : List (BitVec 32)).length ≤ k + 1
    split
    · omega
    · rw [List.length_append, fixZ_length]; simp; exact ih
end Go.Proofs.Ytodkpojmonikiaa
