/- Plain laws of Horn's clauses. -/
import Derived.Test.YtekpifobhgjepaaSearchP
namespace Go.Proofs.Ytekpifobhgjepaa
open Go
set_option linter.unusedVariables false

/-- more than one positive literal -/
def multiB (r : Ru) : Bool := r.1 &&& (r.1 - 1#32) != 0#32
def sizeN (x : BitVec 32) : Nat → Nat
  | 0 => 0
  | k + 1 => sizeN x k + if x.getLsbD k then 1 else 0
theorem sizeN_le (x : BitVec 32) (k : Nat) : sizeN x k ≤ k := by
  induction k with
  | zero => exact Nat.le_refl _
  | succ k ih => show sizeN x k + _ ≤ _; split <;> omega
theorem size_multi : ∀ n : Fin 64, decide (1 < sizeN (BitVec.ofNat 32 n.val) 32) = ((BitVec.ofNat 32 n.val) &&& ((BitVec.ofNat 32 n.val) - 1#32) != 0#32) := by decide +kernel
theorem multi_one : ∀ n : Fin 64, ((BitVec.ofNat 32 n.val) &&& ((BitVec.ofNat 32 n.val) - 1#32) != 0#32) = false → n.val = 0 ∨ ∃ i : Fin 6, n.val = 2 ^ i.val := by decide +kernel
theorem of_fit6 {x : BitVec 32} (h : fitB 6 x = true) : ∃ n : Fin 64, x = BitVec.ofNat 32 n.val := by
  rw [fitB_lt (by omega), decide_eq_true_eq, BitVec.lt_def] at h
  exact ⟨⟨x.toNat, h⟩, by simp⟩
theorem fit_six {n : Nat} (hn : n ≤ 6) {a : BitVec 32} (h : fitB n a = true) : fitB 6 a = true := fitB_iff.2 fun i hi => by have := fitB_iff.1 h i hi; omega
theorem multi_size {r : Ru} (h : fitB 6 r.1 = true) : decide (1 < sizeN r.1 32) = multiB r := by
  obtain ⟨n, e⟩ := of_fit6 h
  unfold multiB
  rw [e]
  exact size_multi n
theorem single {r : Ru} (h : fitB 6 r.1 = true) (hm : multiB r = false) : r.1 = 0#32 ∨ ∃ i, i < 6 ∧ r.1 = 1#32 <<< i := by
  obtain ⟨n, e⟩ := of_fit6 h
  unfold multiB at hm
  rw [e] at hm ⊢
  rcases multi_one n hm with h0 | ⟨i, hi⟩
  · left; rw [h0]
  · right
    refine ⟨i.val, i.isLt, BitVec.eq_of_toNat_eq ?_⟩
    rw [one_shl_toNat i.val (by omega), hi, BitVec.toNat_ofNat, Nat.mod_eq_of_lt]
    exact Nat.pow_lt_pow_right (by omega) (by omega)
/-- all that is known must be -/
def HInv (rs : List Ru) (s : BitVec 32) : Prop := ∀ u, trueB rs u = true → subB s u = true
section
variable {n : Nat} {rs : List Ru} {s u : BitVec 32} {r : Ru}
theorem trueB_iff : trueB rs u = true ↔ ∀ r ∈ rs, holdB u r = true := by unfold trueB; rw [List.all_eq_true]
theorem HInv.start : HInv rs 0#32 := fun u _ => subB_zero u
theorem HInv.none (h : HInv rs s) (hr : r ∈ rs) (h1 : r.2 &&& ~~~s = 0#32) (h2 : r.1 = 0#32) (u : BitVec 32) : trueB rs u = false := by
  rw [← Bool.not_eq_true]
  intro hu
  rcases holdB_iff.1 (trueB_iff.1 hu r hr) with ⟨i, a, _⟩ | ⟨i, a, b⟩
  · rw [h2] at a; simp at a
  · have hs : s.getLsbD i = true := by
      cases hs : s.getLsbD i
      · have : (r.2 &&& ~~~s).getLsbD i = true := bit_andNot.2 ⟨a, hs⟩
        rw [h1] at this; simp at this
      · rfl
    rw [subB_iff.1 (h u hu) i hs] at b; cases b
theorem HInv.step (h : HInv rs s) (hr : r ∈ rs) (h1 : r.2 &&& ~~~s = 0#32) (h2 : ∃ i, i < 6 ∧ r.1 = 1#32 <<< i) : HInv rs (s ||| r.1) := by
  intro u hu
  obtain ⟨i, hi, e⟩ := h2
  rw [subB_or, h u hu, Bool.true_and, subB_iff]
  intro j hj
  rcases holdB_iff.1 (trueB_iff.1 hu r hr) with ⟨k, a, b⟩ | ⟨k, a, b⟩
  · rw [e] at a hj
    rw [one_only hj, ← one_only a]; exact b
  · have hs : s.getLsbD k = true := by
      cases hs : s.getLsbD k
      · have : (r.2 &&& ~~~s).getLsbD k = true := bit_andNot.2 ⟨a, hs⟩
        rw [h1] at this; simp at this
      · rfl
    rw [subB_iff.1 (h u hu) k hs] at b; cases b
theorem hold_of (h : ¬ (r.2 &&& ~~~s = 0#32 ∧ r.1 &&& s = 0#32)) : holdB s r = true := by
  unfold holdB
  by_cases h1 : r.1 &&& s = 0#32
  · have h2 : r.2 &&& ~~~s ≠ 0#32 := fun h2 => h ⟨h2, h1⟩
    have : (r.2 &&& ~~~s != 0#32) = true := by simpa using h2
    obtain ⟨i, a, b⟩ := and_ne.1 this
    have : (!subB r.2 s) = true := not_sub.2 ⟨i, a, by
      cases hs : s.getLsbD i
      · rfl
      · rw [BitVec.getLsbD_not, hs] at b; simp at b⟩
    rw [this]; simp
  · have : (r.1 &&& s != 0#32) = true := by simpa using h1
    rw [this]; rfl
theorem horn_meet {a b : BitVec 32} (hfit : ∀ r ∈ rs, fitB 6 r.1 = true) (hm : ∀ r ∈ rs, multiB r = false) (ha : trueB rs a = true) (hb : trueB rs b = true) : trueB rs (a &&& b) = true := by
  rw [trueB_iff] at ha hb ⊢
  intro r hr
  rw [holdB_iff]
  rcases holdB_iff.1 (ha r hr) with ⟨i, h1, h2⟩ | ⟨i, h1, h2⟩
  · rcases holdB_iff.1 (hb r hr) with ⟨j, h3, h4⟩ | ⟨j, h3, h4⟩
    · rcases single (hfit r hr) (hm r hr) with h0 | ⟨t, _, ht⟩
      · rw [h0] at h1; simp at h1
      · left
        rw [ht] at h1 h3
        have e1 := one_only h1
        have e2 := one_only h3
        subst e1
        subst e2
        exact ⟨_, by rw [ht]; exact h1, by rw [BitVec.getLsbD_and, h2, h4]; rfl⟩
    · exact .inr ⟨j, h3, by rw [BitVec.getLsbD_and, h4]; simp⟩
  · exact .inr ⟨i, h1, by rw [BitVec.getLsbD_and, h2]; rfl⟩
theorem horn_res (hf : fitB n s = true) (h : HInv rs s) (ht : trueB rs s = true) : Res n rs 0#32 0#32 s true :=
  .inl ⟨rfl, ⟨hf, fun i hi => by simp at hi, fun i hi => by simp at hi, trueB_iff.1 ht⟩, fun u hu => subB_le (h u (trueB_iff.2 hu.2.2.2))⟩
theorem horn_none (h : ∀ u, trueB rs u = false) : Res n rs 0#32 0#32 0#32 false :=
  .inr ⟨rfl, rfl, fun u hu => by
    have := trueB_iff.2 hu.2.2.2
    rw [h u] at this; cases this⟩
theorem Res.uniq {yes no v v' : BitVec 32} {ok ok' : Bool} (h : Res n rs yes no v ok) (k : Res n rs yes no v' ok') : v = v' ∧ ok = ok' := by
  rcases h with ⟨rfl, h2, h3⟩ | ⟨rfl, rfl, h3⟩ <;> rcases k with ⟨rfl, k2, k3⟩ | ⟨rfl, rfl, k3⟩
  · exact ⟨BitVec.eq_of_toNat_eq (Nat.le_antisymm (h3 _ k2) (k3 _ h2)), rfl⟩
  · exact absurd h2 (k3 _)
  · exact absurd k2 (h3 _)
  · exact ⟨rfl, rfl⟩
end
end Go.Proofs.Ytekpifobhgjepaa
