/- Take and grant: what deeds bring about that drop no rights. Plain laws. -/
import Derived.Test.YtekpifobhgjepaaGrantP
namespace Go.Proofs.Ytekpifobhgjepaa
open Go Go.RowKit
set_option linter.unusedVariables false

theorem nz_bit {x : BitVec 32} : (x != 0#32) = true ↔ ∃ i, x.getLsbD i = true := by
  rw [bne_iff_ne]
  constructor
  · intro h
    refine Classical.byContradiction fun hc => h ?_
    apply BitVec.eq_of_getLsbD_eq
    intro i _
    cases hb : x.getLsbD i
    · simp
    · exact absurd ⟨i, hb⟩ hc
  · rintro ⟨i, hi⟩ e
    rw [e] at hi
    simp at hi
/-- may one take from another one, or give to it? -/
def tgB (x : BitVec 32) : Bool := x &&& 3#32 != 0#32
theorem tg_iff {x : BitVec 32} : tgB x = true ↔ ∃ i, x.getLsbD i = true ∧ (3#32).getLsbD i = true := by
  unfold tgB
  rw [nz_bit]
  simp only [BitVec.getLsbD_and, Bool.and_eq_true]
theorem tg_or {x y : BitVec 32} (h : tgB (x ||| y) = true) : tgB x = true ∨ tgB y = true := by
  obtain ⟨i, h1, h2⟩ := tg_iff.1 h
  rw [BitVec.getLsbD_or, Bool.or_eq_true] at h1
  rcases h1 with h1 | h1
  · exact .inl (tg_iff.2 ⟨i, h1, h2⟩)
  · exact .inr (tg_iff.2 ⟨i, h1, h2⟩)
theorem tg_sub {x y : BitVec 32} (h : subB x y = true) (k : tgB x = true) : tgB y = true := by
  obtain ⟨i, h1, h2⟩ := tg_iff.1 k
  exact tg_iff.2 ⟨i, subB_iff.1 h i h1, h2⟩
theorem tg_bit {x : BitVec 32} {i : Nat} (hi : (3#32).getLsbD i = true) (h : x.getLsbD i = true) : tgB x = true := tg_iff.2 ⟨i, h, hi⟩
theorem tg_join {g : Mx} {i j : Nat} (h : tgB (g i j) = true) : joinB g i j = true := by
  obtain ⟨b, h1, h2⟩ := tg_iff.1 h
  unfold joinB
  rw [nz_bit]
  exact ⟨b, by rw [BitVec.getLsbD_and, BitVec.getLsbD_or, h1, h2]; rfl⟩
/-- N of them by now; whoever was made stands for whoever made it -/
structure GInv (n : Nat) (g0 : Mx) (N : Nat) (g : Mx) (rep : Nat → Nat) : Prop where
  le : n ≤ N
  rep_lt : ∀ v, v < N → rep v < n
  rep_id : ∀ v, v < n → rep v = v
  tg : ∀ u v, u < N → v < N → tgB (g u v) = true → Conn n g0 (rep u) (rep v)
  right : ∀ u v i, u < N → v < n → (g u v).getLsbD i = true → ∃ z, z < n ∧ Conn n g0 (rep u) z ∧ z ≠ v ∧ (g0 z v).getLsbD i = true
  none : ∀ u v, u < N → N ≤ v → g u v = 0#32
section
variable {n : Nat} {g0 : Mx} {N : Nat} {g : Mx} {rep : Nat → Nat}
theorem GInv.start (hne : ∀ v, v < n → g0 v v = 0#32) (hout : ∀ u v, u < n → n ≤ v → g0 u v = 0#32) : GInv n g0 n g0 id where
  le := Nat.le_refl _
  rep_lt := fun _ h => h
  rep_id := fun _ _ => rfl
  tg := fun u v hu hv h => Conn.edge hu hv (tg_join h)
  right := fun u v i hu hv h => ⟨u, hu, Conn.refl _ _ _, fun e => by rw [e, hne v hv] at h; simp at h, h⟩
  none := hout
/-- rights pass: from p, who has them over c, to q, who is joined with p -/
theorem GInv.pass (h : GInv n g0 N g rep) {p q c : Nat} {rt : BitVec 32} (hp : p < N) (hq : q < N) (hc : c < N) (hj : Conn n g0 (rep q) (rep p)) (hs : subB rt (g p c) = true) : GInv n g0 N (setM g q c (g q c ||| rt)) rep := by
  refine ⟨h.le, h.rep_lt, h.rep_id, fun u v hu hv ht => ?_, fun u v i hu hv hb => ?_, fun u v hu hv => ?_⟩
  · unfold setM at ht
    split at ht
    · rename_i e
      obtain ⟨rfl, rfl⟩ := e
      rcases tg_or ht with ht | ht
      · exact h.tg _ _ hu hv ht
      · exact hj.trans (h.tg p _ hp hc (tg_sub hs ht))
    · exact h.tg u v hu hv ht
  · unfold setM at hb
    split at hb
    · rename_i e
      obtain ⟨rfl, rfl⟩ := e
      rw [BitVec.getLsbD_or, Bool.or_eq_true] at hb
      rcases hb with hb | hb
      · exact h.right _ _ i hu hv hb
      · obtain ⟨z, hz, h1, h2, h3⟩ := h.right p _ i hp hv (subB_iff.1 hs i hb)
        exact ⟨z, hz, hj.trans h1, h2, h3⟩
    · exact h.right u v i hu hv hb
  · unfold setM
    rw [if_neg (by omega)]
    exact h.none u v hu hv
theorem GInv.take (h : GInv n g0 N g rep) {p q c : Nat} {rt : BitVec 32} (hp : p < N) (hq : q < N) (hc : c < N) (hj : (g q p).getLsbD 0 = true) (hs : subB rt (g p c) = true) : GInv n g0 N (setM g q c (g q c ||| rt)) rep :=
  h.pass hp hq hc (h.tg q p hq hp (tg_bit (by rfl) hj)) hs
theorem GInv.grant (h : GInv n g0 N g rep) {p q c : Nat} {rt : BitVec 32} (hp : p < N) (hq : q < N) (hc : c < N) (hj : (g p q).getLsbD 1 = true) (hs : subB rt (g p c) = true) : GInv n g0 N (setM g q c (g q c ||| rt)) rep :=
  h.pass hp hq hc (h.tg p q hp hq (tg_bit (by rfl) hj)).symm hs
/-- the same places below N and a new row of noughts -/
theorem GInv.make (h : GInv n g0 N g rep) {b : Nat} (hb : b < N) {g' : Mx} (hg : ∀ u v, u < N → g' u v = setM g b N 3#32 u v) (hz : ∀ v, g' N v = 0#32) : GInv n g0 (N + 1) g' (fun v => if v = N then rep b else rep v) := by
  have hrep : ∀ v, v < N → (if v = N then rep b else rep v) = rep v := fun v hv => by rw [if_neg (by omega)]
  have hrn : (if N = N then rep b else rep N) = rep b := if_pos rfl
  refine ⟨by have := h.le; omega, fun v hv => ?_, fun v hv => ?_, fun u v hu hv ht => ?_, fun u v i hu hv hbit => ?_, fun u v hu hv => ?_⟩
  · show (if v = N then rep b else rep v) < n
    split
    · exact h.rep_lt b hb
    · exact h.rep_lt v (by omega)
  · show (if v = N then rep b else rep v) = v
    have := h.le
    rw [if_neg (by omega)]
    exact h.rep_id v hv
  · show Conn n g0 (if u = N then rep b else rep u) (if v = N then rep b else rep v)
    by_cases eu : u = N
    · subst eu
      rw [hz v] at ht
      exact absurd ht (by decide)
    · rw [hg u v (by omega)] at ht
      unfold setM at ht
      split at ht
      · rename_i e
        obtain ⟨rfl, rfl⟩ := e
        rw [if_neg eu, if_pos rfl]
        exact Conn.refl _ _ _
      · rename_i e
        by_cases ev : v = N
        · subst ev
          rw [h.none u v (by omega) (Nat.le_refl _)] at ht
          exact absurd ht (by decide)
        · rw [if_neg eu, if_neg ev]
          exact h.tg u v (by omega) (by omega) ht
  · show ∃ z, z < n ∧ Conn n g0 (if u = N then rep b else rep u) z ∧ z ≠ v ∧ (g0 z v).getLsbD i = true
    have := h.le
    by_cases eu : u = N
    · subst eu
      rw [hz v] at hbit
      simp at hbit
    · rw [hg u v (by omega)] at hbit
      unfold setM at hbit
      rw [if_neg (by omega)] at hbit
      rw [if_neg eu]
      exact h.right u v i (by omega) hv hbit
  · by_cases eu : u = N
    · subst eu
      exact hz v
    · rw [hg u v (by omega)]
      unfold setM
      rw [if_neg (by omega)]
      exact h.none u v (by omega) (by omega)
/-- whoever has a right at the end is told to be able to -/
theorem GInv.can (h : GInv n g0 N g rep) {a b i : Nat} (ha : a < n) (hb : b < n) (hi : i < 32) (hbit : (g a b).getLsbD i = true) : canB n g0 a b (1#32 <<< i) = true := by
  have := h.le
  obtain ⟨z, hz, h1, h2, h3⟩ := h.right a b i (by omega) hb hbit
  rw [h.rep_id a ha] at h1
  refine canB_iff.2 ⟨z, hz, h1, ?_⟩
  unfold hitB
  rw [decide_eq_true h2, Bool.true_and, nz_bit]
  exact ⟨i, by rw [BitVec.getLsbD_and, h3, getLsbD_bit]; simp [hi]⟩
end
/-- the edges of a graph, row by row -/
def rowE (g : Mx) (i k : Nat) : List Ed := (List.range k).flatMap fun j => if g i j != 0#32 then [((i : Int), (j : Int), g i j)] else []
def edL (g : Mx) (w k : Nat) : List Ed := (List.range k).flatMap fun i => rowE g i w
theorem rowE_succ (g : Mx) (i k : Nat) : rowE g i (k + 1) = rowE g i k ++ if g i k != 0#32 then [((i : Int), (k : Int), g i k)] else [] := by
  unfold rowE
  rw [List.range_succ, List.flatMap_append]
  simp
theorem edL_succ (g : Mx) (w k : Nat) : edL g w (k + 1) = edL g w k ++ rowE g k w := by
  unfold edL
  rw [List.range_succ, List.flatMap_append]
  simp
theorem rowE_len (g : Mx) (i k : Nat) : (rowE g i k).length ≤ k := by
  induction k with
  | zero => simp [rowE]
  | succ k ih =>
    rw [rowE_succ, List.length_append]
    split <;> simp <;> omega
theorem edL_len (g : Mx) (w k : Nat) : (edL g w k).length ≤ k * w := by
  induction k with
  | zero => simp [edL]
  | succ k ih =>
    rw [edL_succ, List.length_append, Nat.succ_mul]
    have := rowE_len g k w
    omega
theorem edL_over (g : Mx) {w N a b : Nat} (ha : a < N) (hb : b < w) (i : Nat) : (overF (edL g w N) a b).getLsbD i = (g a b).getLsbD i := by
  rw [Bool.eq_iff_iff, overF_bit]
  constructor
  · rintro ⟨e, he, h1, h2, h3⟩
    unfold edL rowE at he
    simp only [List.mem_flatMap, List.mem_range] at he
    obtain ⟨x, hx, y, hy, he⟩ := he
    split at he
    · rw [List.mem_singleton] at he
      subst he
      have h1 : (x : Int) = a := h1
      have h2 : (y : Int) = b := h2
      obtain rfl : x = a := by omega
      obtain rfl : y = b := by omega
      exact h3
    · cases he
  · intro h
    refine ⟨((a : Int), (b : Int), g a b), ?_, rfl, rfl, h⟩
    unfold edL rowE
    simp only [List.mem_flatMap, List.mem_range]
    refine ⟨a, ha, b, hb, ?_⟩
    rw [if_pos (nz_bit.2 ⟨i, h⟩)]
    simp
theorem gE_out {n : Nat} {es : List Ed} (h : ∀ e ∈ es, 0 ≤ e.1 ∧ e.1 < (n : Int) ∧ 0 ≤ e.2.1 ∧ e.2.1 < (n : Int) ∧ e.1 ≠ e.2.1) : (∀ v, gE es v v = 0#32) ∧ ∀ u v, n ≤ v → gE es u v = 0#32 := by
  have key : ∀ u v : Nat, (∀ e ∈ es, ¬ (e.1 = (u : Int) ∧ e.2.1 = (v : Int))) → gE es u v = 0#32 := by
    intro u v hno
    apply BitVec.eq_of_getLsbD_eq
    intro i _
    cases hb : (gE es u v).getLsbD i
    · simp
    · obtain ⟨e, he, h1, h2, _⟩ := (overF_bit es u v i).1 hb
      exact absurd ⟨h1, h2⟩ (hno e he)
  refine ⟨fun v => key v v fun e he => ?_, fun u v hv => key u v fun e he => ?_⟩
  · have := h e he
    omega
  · have := h e he
    omega
end Go.Proofs.Ytekpifobhgjepaa
