/- A refutation as a list of pairs; the state of Refute; what needed keeps: plain laws. -/
import Derived.Test.YtekpifobhgjepaaTwRP
namespace Go.Proofs.Ytekpifobhgjepaa
open Go
set_option linter.unusedVariables false

abbrev Pr := Nat × Nat
def cl0 (L : List Ru) (k : Nat) : Ru := L.getD k (0#32, 0#32)
def pr0 (P : List Pr) (k : Nat) : Pr := P.getD k (0, 0)
theorem cl0_eq {L : List Ru} {k : Nat} (h : k < L.length) : cl0 L k = L[k] := by
  unfold cl0
  rw [List.getD_eq_getElem?_getD, List.getElem?_eq_getElem h]
  rfl
theorem pr0_eq {L : List Pr} {k : Nat} (h : k < L.length) : pr0 L k = L[k] := by
  unfold pr0
  rw [List.getD_eq_getElem?_getD, List.getElem?_eq_getElem h]
  rfl
theorem cl0_mem {L : List Ru} {k : Nat} (h : k < L.length) : cl0 L k ∈ L := by
  rw [cl0_eq h]
  exact List.getElem_mem h
theorem cl0_left {L M : List Ru} {k : Nat} (h : k < L.length) : cl0 (L ++ M) k = cl0 L k := by
  unfold cl0
  rw [List.getD_eq_getElem?_getD, List.getD_eq_getElem?_getD, List.getElem?_append_left h]
theorem pr0_left {L M : List Pr} {k : Nat} (h : k < L.length) : pr0 (L ++ M) k = pr0 L k := by
  unfold pr0
  rw [List.getD_eq_getElem?_getD, List.getD_eq_getElem?_getD, List.getElem?_append_left h]
theorem cl0_last (L : List Ru) (c : Ru) : cl0 (L ++ [c]) L.length = c := by
  unfold cl0
  rw [List.getD_eq_getElem?_getD, List.getElem?_append_right (Nat.le_refl _)]
  simp
theorem pr0_last (L : List Pr) (c : Pr) : pr0 (L ++ [c]) L.length = c := by
  unfold pr0
  rw [List.getD_eq_getElem?_getD, List.getElem?_append_right (Nat.le_refl _)]
  simp
theorem mem_cl0 {L : List Ru} {c : Ru} (h : c ∈ L) : ∃ k, k < L.length ∧ cl0 L k = c := by
  obtain ⟨k, hk, e⟩ := List.getElem_of_mem h
  exact ⟨k, hk, by rw [cl0_eq hk, e]⟩
/-! ### Refutes -/
def stepF (L : List Ru) (x : Pr) : Option (List Ru) := if x.1 < L.length ∧ x.2 < L.length then (resO (cl0 L x.1) (cl0 L x.2)).map (fun c => L ++ [c]) else none
def runF (L : List Ru) (P : List Pr) : Option (List Ru) := P.foldl (fun o x => o.bind fun M => stepF M x) (some L)
theorem runF_nil (L : List Ru) : runF L [] = some L := rfl
theorem runF_snoc (L : List Ru) (P : List Pr) (x : Pr) : runF L (P ++ [x]) = (runF L P).bind fun M => stepF M x := by
  unfold runF
  rw [List.foldl_append]
  rfl
theorem runF_none (L : List Ru) {P Q : List Pr} (h : runF L P = none) : runF L (P ++ Q) = none := by
  unfold runF at h ⊢
  rw [List.foldl_append, h]
  clear h
  induction Q with
  | nil => rfl
  | cons a t ih => exact ih
theorem stepF_some {L M : List Ru} {x : Pr} (h : stepF L x = some M) : x.1 < L.length ∧ x.2 < L.length ∧ ∃ c, resO (cl0 L x.1) (cl0 L x.2) = some c ∧ M = L ++ [c] := by
  unfold stepF at h
  split at h
  · rename_i hx
    cases hr : resO (cl0 L x.1) (cl0 L x.2) with
    | none => rw [hr] at h; cases h
    | some c =>
      rw [hr] at h
      injection h with h
      exact ⟨hx.1, hx.2, c, rfl, h.symm⟩
  · cases h
theorem stepF_mk {L : List Ru} {x : Pr} {c : Ru} (h1 : x.1 < L.length) (h2 : x.2 < L.length) (h : resO (cl0 L x.1) (cl0 L x.2) = some c) : stepF L x = some (L ++ [c]) := by
  unfold stepF
  rw [if_pos ⟨h1, h2⟩, h]
  rfl
/-- a step of Refutes -/
theorem runF_at {L M : List Ru} {P : List Pr} (h : runF L P = some M) {k : Nat} (hk : k < P.length) {K : List Ru} (hK : runF L (P.take k) = some K) : (pr0 P k).1 < K.length ∧ (pr0 P k).2 < K.length ∧ ∃ c, resO (cl0 K (pr0 P k).1) (cl0 K (pr0 P k).2) = some c ∧ runF L (P.take (k + 1)) = some (K ++ [c]) := by
  have e : P.take (k + 1) = P.take k ++ [pr0 P k] := by
    rw [List.take_succ_eq_append_getElem hk, pr0_eq hk]
  cases hs : stepF K (pr0 P k) with
  | none =>
    have h1 : runF L (P.take (k + 1)) = none := by rw [e, runF_snoc, hK]; exact hs
    have h2 := runF_none L (Q := P.drop (k + 1)) h1
    rw [List.take_append_drop, h] at h2
    cases h2
  | some M2 =>
    obtain ⟨h1, h2, c, h3, rfl⟩ := stepF_some hs
    exact ⟨h1, h2, c, h3, by rw [e, runF_snoc, hK]; exact hs⟩
theorem resO_at {a b c : Ru} (h : resO a b = some c) : ∃ k, k < 32 ∧ c = resAt a b k := by
  unfold resO at h
  cases hl : lowB (a.1 &&& b.2) with
  | none => rw [hl] at h; cases h
  | some k =>
    rw [hl] at h
    injection h with h
    exact ⟨k, (lowB_some hl).1, h.symm⟩
theorem runF_hold {L M : List Ru} {s : BitVec 32} (hL : ∀ c ∈ L, holdB s c = true) : ∀ (k : Nat) (P : List Pr), P.length = k → runF L P = some M → ∀ c ∈ M, holdB s c = true := by
  intro k
  induction k generalizing M with
  | zero =>
    intro P hP h
    rw [List.eq_nil_of_length_eq_zero hP, runF_nil] at h
    injection h with h
    subst h
    exact hL
  | succ k ih =>
    intro P hP h
    obtain ⟨Q, x, rfl⟩ : ∃ Q x, P = Q ++ [x] := by
      refine ⟨P.dropLast, P.getLast (by intro e; rw [e] at hP; cases hP), ?_⟩
      exact (List.dropLast_concat_getLast _).symm
    rw [runF_snoc] at h
    cases hq : runF L Q with
    | none => rw [hq] at h; cases h
    | some K =>
      rw [hq] at h
      have h : stepF K x = some M := h
      obtain ⟨h1, h2, c, h3, rfl⟩ := stepF_some h
      have hk := ih Q (by simpa using hP) hq
      intro d hd
      rcases List.mem_append.1 hd with hd | hd
      · exact hk d hd
      · rw [List.mem_singleton] at hd
        subst hd
        obtain ⟨i, hi, rfl⟩ := resO_at h3
        exact hold_res hi (hk _ (cl0_mem h1)) (hk _ (cl0_mem h2))
theorem hold_empty (s : BitVec 32) : holdB s (0#32, 0#32) = false := by
  rw [holdB_no]
  exact ⟨fun i hi => by simp at hi, fun i hi => by simp at hi⟩
/-- what Refutes lets pass -/
def refB (rs : List Ru) (P : List Pr) : Prop := (P = [] ∧ ((0#32, 0#32) : Ru) ∈ rs) ∨ (P ≠ [] ∧ ∃ L, runF rs P = some L ∧ 0 < L.length ∧ cl0 L (L.length - 1) = (0#32, 0#32))
theorem refB_no {rs : List Ru} {P : List Pr} (h : refB rs P) (s : BitVec 32) : trueB rs s = false := by
  cases ht : trueB rs s with
  | false => rfl
  | true =>
    rw [trueB_iff] at ht
    rcases h with ⟨_, h⟩ | ⟨_, L, h1, h2, h3⟩
    · have := ht _ h
      rw [hold_empty] at this
      cases this
    · have := runF_hold ht P.length P rfl h1 _ (cl0_mem (L := L) (k := L.length - 1) (by omega))
      rw [h3, hold_empty] at this
      cases this
/-! ### The derivation -/
structure Der (rs all : List Ru) (by_ : List Pr) : Prop where
  len : by_.length = all.length
  pre : ∃ more, all = rs ++ more
  der : ∀ k, rs.length ≤ k → k < all.length → (pr0 by_ k).1 < k ∧ (pr0 by_ k).2 < k ∧ resO (cl0 all (pr0 by_ k).1) (cl0 all (pr0 by_ k).2) = some (cl0 all k)
theorem Der.start (rs : List Ru) : Der rs rs (List.replicate rs.length (0, 0)) := ⟨by simp, ⟨[], by simp⟩, fun k h1 h2 => by omega⟩
theorem Der.le {rs all : List Ru} {by_ : List Pr} (h : Der rs all by_) : rs.length ≤ all.length := by
  obtain ⟨more, rfl⟩ := h.pre
  simp
theorem Der.old {rs all : List Ru} {by_ : List Pr} (h : Der rs all by_) {k : Nat} (hk : k < rs.length) : cl0 all k = cl0 rs k := by
  obtain ⟨more, rfl⟩ := h.pre
  exact cl0_left hk
theorem Der.push {rs all : List Ru} {by_ : List Pr} (h : Der rs all by_) {p q : Nat} {c : Ru} (hp : p < all.length) (hq : q < all.length) (hr : resO (cl0 all p) (cl0 all q) = some c) : Der rs (all ++ [c]) (by_ ++ [(p, q)]) := by
  have hl := h.len
  refine ⟨by simp [h.len], ?_, fun k h1 h2 => ?_⟩
  · obtain ⟨more, rfl⟩ := h.pre
    exact ⟨more ++ [c], by simp⟩
  · rw [List.length_append, List.length_singleton] at h2
    by_cases e : k < all.length
    · obtain ⟨d1, d2, d3⟩ := h.der k h1 e
      rw [pr0_left (by omega)]
      exact ⟨d1, d2, by rw [cl0_left (by omega), cl0_left (by omega), cl0_left e]; exact d3⟩
    · obtain rfl : k = all.length := by omega
      have e2 : pr0 (by_ ++ [(p, q)]) all.length = (p, q) := by rw [← hl]; exact pr0_last _ _
      rw [e2]
      exact ⟨hp, hq, by rw [cl0_left hp, cl0_left hq, cl0_last]; exact hr⟩
/-! ### What needed keeps -/
def nd0 (nd : List Bool) (k : Nat) : Bool := nd.getD k false
def nm0 (num : List Nat) (k : Nat) : Nat := num.getD k 0
theorem nd0_set {nd : List Bool} {k j : Nat} (b : Bool) : nd0 (nd.set k b) j = if k = j ∧ k < nd.length then b else nd0 nd j := by
  unfold nd0
  rw [List.getD_eq_getElem?_getD, List.getD_eq_getElem?_getD, List.getElem?_set]
  by_cases e : k = j
  · subst e
    by_cases h : k < nd.length
    · simp [h]
    · simp [h]
  · simp [e]
theorem nd0_yes {nd : List Bool} {k j : Nat} (h : nd0 nd j = true) : nd0 (nd.set k true) j = true := by
  rw [nd0_set]
  split
  · rfl
  · exact h
theorem nm0_set {nd : List Nat} {k j : Nat} (b : Nat) : nm0 (nd.set k b) j = if k = j ∧ k < nd.length then b else nm0 nd j := by
  unfold nm0
  rw [List.getD_eq_getElem?_getD, List.getD_eq_getElem?_getD, List.getElem?_set]
  by_cases e : k = j
  · subst e
    by_cases h : k < nd.length
    · simp [h]
    · simp [h]
  · simp [e]
structure N1 (n0 : Nat) (by_ : List Pr) (j : Nat) (nd : List Bool) : Prop where
  len : nd.length = by_.length
  last : nd0 nd (by_.length - 1) = true
  down : ∀ k, j ≤ k → n0 ≤ k → k < by_.length → nd0 nd k = true → nd0 nd (pr0 by_ k).1 = true ∧ nd0 nd (pr0 by_ k).2 = true
theorem N1.start (n0 : Nat) (by_ : List Pr) (h : 0 < by_.length) : N1 n0 by_ by_.length ((List.replicate by_.length false).set (by_.length - 1) true) :=
  ⟨by simp, by rw [nd0_set, if_pos]; exact ⟨rfl, by simp; omega⟩, fun k h1 _ h2 _ => by omega⟩
theorem N1.skip {n0 : Nat} {by_ : List Pr} {j : Nat} {nd : List Bool} (h : N1 n0 by_ (j + 1) nd) (hn : nd0 nd j = false) : N1 n0 by_ j nd :=
  ⟨h.len, h.last, fun k h1 h2 h3 h4 => by
    by_cases e : k = j
    · rw [e, hn] at h4; cases h4
    · exact h.down k (by omega) h2 h3 h4⟩
theorem N1.mark {n0 : Nat} {by_ : List Pr} {j : Nat} {nd : List Bool} (h : N1 n0 by_ (j + 1) nd) (hj : j < by_.length) (h1 : (pr0 by_ j).1 < j) (h2 : (pr0 by_ j).2 < j) : N1 n0 by_ j ((nd.set (pr0 by_ j).1 true).set (pr0 by_ j).2 true) := by
  have hl := h.len
  refine ⟨by simp [h.len], nd0_yes (nd0_yes h.last), fun k g1 g2 g3 g4 => ?_⟩
  by_cases e : k = j
  · subst e
    refine ⟨?_, ?_⟩
    · apply nd0_yes
      rw [nd0_set, if_pos ⟨rfl, by omega⟩]
    · rw [nd0_set, if_pos ⟨rfl, by rw [List.length_set]; omega⟩]
  · have hk : nd0 nd k = true := by
      by_cases e1 : (pr0 by_ j).2 = k
      · omega
      · rw [nd0_set, if_neg (fun x => e1 x.1), nd0_set, if_neg (fun x => by omega)] at g4
        exact g4
    obtain ⟨d1, d2⟩ := h.down k (by omega) g2 g3 hk
    exact ⟨nd0_yes (nd0_yes d1), nd0_yes (nd0_yes d2)⟩
structure N2 (rs all : List Ru) (by_ : List Pr) (nd : List Bool) (i : Nat) (num : List Nat) (out : List Pr) : Prop where
  le : i ≤ by_.length
  nlen : num.length = by_.length
  olen : out.length ≤ i
  run : ∃ L, runF rs out = some L ∧ L.length = rs.length + out.length ∧ (∃ t, L = rs ++ t) ∧ (∀ k, k < i → (k < rs.length ∨ nd0 nd k = true) → nm0 num k < L.length ∧ cl0 L (nm0 num k) = cl0 all k) ∧ (i = by_.length → out ≠ [] ∧ cl0 L (L.length - 1) = cl0 all (by_.length - 1))
theorem N2.start {rs all : List Ru} {by_ : List Pr} (nd : List Bool) (h : 0 < by_.length) : N2 rs all by_ nd 0 (List.replicate by_.length 0) [] :=
  ⟨by omega, by simp, by simp, rs, rfl, by simp, ⟨[], by simp⟩, fun k hk => by omega, fun e => by omega⟩
/-- a clause that is given, or not needed -/
theorem N2.skip {rs all : List Ru} {by_ : List Pr} {nd : List Bool} {i : Nat} {num : List Nat} {out : List Pr} (h : N2 rs all by_ nd i num out) (d : Der rs all by_) (n1 : N1 rs.length by_ rs.length nd) (hm : rs.length < by_.length) (hi : i < by_.length) (hg : i < rs.length ∨ nd0 nd i = false) : N2 rs all by_ nd (i + 1) (num.set i i) out := by
  obtain ⟨L, r1, r2, ⟨t, r3⟩, r4, r5⟩ := h.run
  have hnl := h.nlen
  refine ⟨by omega, by simp [h.nlen], by have := h.olen; omega, L, r1, r2, ⟨t, r3⟩, fun k hk hh => ?_, fun e => ?_⟩
  · by_cases e : k = i
    · subst e
      rw [nm0_set, if_pos ⟨rfl, by omega⟩]
      have hk2 : k < rs.length := by
        rcases hh with hh | hh
        · exact hh
        · rcases hg with hg | hg
          · exact hg
          · rw [hg] at hh; cases hh
      exact ⟨by omega, by rw [d.old hk2, r3, cl0_left hk2]⟩
    · rw [nm0_set, if_neg (fun x => e x.1.symm)]
      exact r4 k (by omega) hh
  · have hl := n1.last
    rcases hg with hg | hg
    · omega
    · rw [show by_.length - 1 = i by omega, hg] at hl
      cases hl
theorem N2.keep {rs all : List Ru} {by_ : List Pr} {nd : List Bool} {i : Nat} {num : List Nat} {out : List Pr} (h : N2 rs all by_ nd i num out) (d : Der rs all by_) (n1 : N1 rs.length by_ rs.length nd) (hi : i < by_.length) (hg : rs.length ≤ i) (hn : nd0 nd i = true) :
    N2 rs all by_ nd (i + 1) ((num.set i i).set i (rs.length + out.length)) (out ++ [(nm0 num (pr0 by_ i).1, nm0 num (pr0 by_ i).2)]) := by
  obtain ⟨L, r1, r2, ⟨t, r3⟩, r4, r5⟩ := h.run
  have hnl := h.nlen
  have hl := d.len
  obtain ⟨d1, d2, d3⟩ := d.der i hg (by omega)
  obtain ⟨m1, m2⟩ := n1.down i hg hg hi hn
  obtain ⟨a1, a2⟩ := r4 _ d1 (.inr m1)
  obtain ⟨b1, b2⟩ := r4 _ d2 (.inr m2)
  have hstep : runF rs (out ++ [(nm0 num (pr0 by_ i).1, nm0 num (pr0 by_ i).2)]) = some (L ++ [cl0 all i]) := by
    rw [runF_snoc, r1]
    exact stepF_mk a1 b1 (by
      show resO (cl0 L (nm0 num (pr0 by_ i).1)) (cl0 L (nm0 num (pr0 by_ i).2)) = _
      rw [a2, b2]
      exact d3)
  refine ⟨by omega, by simp [h.nlen], by have := h.olen; simp; omega, L ++ [cl0 all i], hstep, by simp [r2]; omega, ⟨t ++ [cl0 all i], by rw [r3]; simp⟩, fun k hk hh => ?_, fun e => ⟨by simp, ?_⟩⟩
  · by_cases e : k = i
    · subst e
      rw [nm0_set, if_pos ⟨rfl, by rw [List.length_set]; omega⟩, ← r2]
      exact ⟨by simp, cl0_last _ _⟩
    · rw [nm0_set, if_neg (fun x => e x.1.symm), nm0_set, if_neg (fun x => e x.1.symm)]
      obtain ⟨q1, q2⟩ := r4 k (by omega) hh
      exact ⟨by rw [List.length_append]; omega, by rw [cl0_left q1]; exact q2⟩
  · rw [List.length_append, List.length_singleton, Nat.add_sub_cancel, cl0_last, show by_.length - 1 = i by omega]
theorem N2.done {rs all : List Ru} {by_ : List Pr} {nd : List Bool} {num : List Nat} {out : List Pr} (h : N2 rs all by_ nd by_.length num out) (he : cl0 all (by_.length - 1) = (0#32, 0#32)) : refB rs out := by
  obtain ⟨L, r1, r2, _, r4, r5⟩ := h.run
  obtain ⟨q1, q2⟩ := r5 rfl
  have : 0 < out.length := List.length_pos_iff.2 q1
  exact .inr ⟨q1, L, r1, by omega, by rw [q2, he]⟩
/-! ### The state of Refute -/
def doneR (all : List Ru) (a b : Nat) : Prop := ∀ c, resO (cl0 all a) (cl0 all b) = some c → tautB c = false → c ∈ all
theorem doneR.push {all : List Ru} {a b : Nat} (ha : a < all.length) (hb : b < all.length) (h : doneR all a b) (c : Ru) : doneR (all ++ [c]) a b := by
  intro d h1 h2
  rw [cl0_left ha, cl0_left hb] at h1
  exact List.mem_append.2 (.inl (h d h1 h2))
def doneO (all : List Ru) (i : Nat) : Prop := ∀ a b, a < i → b < i → doneR all a b
def doneI (all : List Ru) (i j : Nat) : Prop := doneO all i ∧ ∀ b, b < j → doneR all i b ∧ doneR all b i
theorem doneO.push {all : List Ru} {i : Nat} (hi : i ≤ all.length) (h : doneO all i) (c : Ru) : doneO (all ++ [c]) i := fun a b ha hb => (h a b ha hb).push (by omega) (by omega) c
theorem doneI.push {all : List Ru} {i j : Nat} (hi : i < all.length) (hj : j ≤ i + 1) (h : doneI all i j) (c : Ru) : doneI (all ++ [c]) i j := ⟨h.1.push (by omega) c, fun b hb => ⟨(h.2 b hb).1.push (by omega) (by omega) c, (h.2 b hb).2.push (by omega) (by omega) c⟩⟩
theorem doneO.start (all : List Ru) : doneO all 0 := fun a b h => by omega
theorem doneI.start {all : List Ru} {i : Nat} (h : doneO all i) : doneI all i 0 := ⟨h, fun b hb => by omega⟩
theorem doneI.step {all : List Ru} {i j : Nat} (h : doneI all i j) (h1 : doneR all i j) (h2 : doneR all j i) : doneI all i (j + 1) := ⟨h.1, fun b hb => by
  by_cases e : b = j
  · subst e; exact ⟨h1, h2⟩
  · exact h.2 b (by omega)⟩
theorem doneI.end_ {all : List Ru} {i : Nat} (h : doneI all i (i + 1)) : doneO all (i + 1) := fun a b ha hb => by
  by_cases ea : a = i
  · subst ea; exact (h.2 b hb).1
  · by_cases eb : b = i
    · subst eb; exact (h.2 a ha).2
    · exact h.1 a b (by omega) (by omega)
theorem doneO.closed {all : List Ru} (h : doneO all all.length) : ClosedR all := by
  intro a ha b hb c hc ht
  obtain ⟨k, hk, rfl⟩ := mem_cl0 ha
  obtain ⟨m, hm, rfl⟩ := mem_cl0 hb
  exact h k m hk hm c hc ht
structure RfS (n : Nat) (rs all : List Ru) (by_ : List Pr) : Prop where
  d : Der rs all by_
  fit : ∀ c ∈ all, fitB n (c.1 ||| c.2) = true
  nz : ((0#32, 0#32) : Ru) ∉ all
  nw : (all.drop rs.length).Nodup
theorem RfS.start {n : Nat} {rs : List Ru} (hf : ∀ c ∈ rs, fitB n (c.1 ||| c.2) = true) (hz : ((0#32, 0#32) : Ru) ∉ rs) : RfS n rs rs (List.replicate rs.length (0, 0)) := ⟨Der.start rs, hf, hz, by simp⟩
theorem RfS.push {n : Nat} {rs all : List Ru} {by_ : List Pr} (h : RfS n rs all by_) {p q : Nat} {c : Ru} (hp : p < all.length) (hq : q < all.length) (hr : resO (cl0 all p) (cl0 all q) = some c) (hn : c ∉ all) (hz : c ≠ (0#32, 0#32)) : RfS n rs (all ++ [c]) (by_ ++ [(p, q)]) := by
  refine ⟨h.d.push hp hq hr, fun d hd => ?_, fun hm => ?_, ?_⟩
  · rcases List.mem_append.1 hd with hd | hd
    · exact h.fit d hd
    · rw [List.mem_singleton] at hd
      subst hd
      obtain ⟨i, hi, rfl⟩ := resO_at hr
      exact res_fit (h.fit _ (cl0_mem hp)) (h.fit _ (cl0_mem hq))
  · rcases List.mem_append.1 hm with hm | hm
    · exact h.nz hm
    · rw [List.mem_singleton] at hm
      exact hz hm.symm
  · rw [List.drop_append_of_le_length h.d.le, List.nodup_append]
    refine ⟨h.nw, by simp, fun a ha b hb e => ?_⟩
    rw [List.mem_singleton] at hb
    subst hb
    subst e
    exact hn (List.mem_of_mem_drop ha)
theorem tw_bnd : ∀ (m : Nat) (l : List Nat), l.Nodup → (∀ x ∈ l, x < m) → l.length ≤ m := by
  intro m
  induction m with
  | zero =>
    intro l _ h
    cases l with
    | nil => simp
    | cons a t => exact absurd (h a (by simp)) (by omega)
  | succ m ih =>
    intro l hl h
    have h1 := ih (l.filter fun x => x != m) (List.Pairwise.filter _ hl) (fun x hx => by
      rw [List.mem_filter] at hx
      have h2 := h x hx.1
      have h3 : x ≠ m := by simpa using hx.2
      omega)
    have h2 : l.length ≤ (l.filter fun x => x != m).length + 1 := by
      clear h1 h ih
      induction l with
      | nil => simp
      | cons a t iht =>
        rw [List.nodup_cons] at hl
        rw [List.filter_cons]
        by_cases e : a = m
        · subst e
          have : (t.filter fun x => x != a) = t := List.filter_eq_self.2 fun x hx => by
            have : x ≠ a := fun e => hl.1 (e ▸ hx)
            simpa using this
          simp [this]
        · have := iht hl.2
          simp [e]
          omega
    omega
theorem fit_lt64 {n : Nat} (hn : n ≤ 6) {x : BitVec 32} (h : fitB n x = true) : x.toNat < 64 := by
  have h1 := fitB_lt (n := n) (s := x) (by omega)
  rw [h] at h1
  have h2 : x < 1#32 <<< n := by simpa using h1.symm
  rw [BitVec.lt_def] at h2
  have h3 : (1#32 <<< n).toNat ≤ 64 := by
    rcases (by omega : n = 0 ∨ n = 1 ∨ n = 2 ∨ n = 3 ∨ n = 4 ∨ n = 5 ∨ n = 6) with rfl | rfl | rfl | rfl | rfl | rfl | rfl <;> decide
  omega
theorem RfS.small {n : Nat} {rs all : List Ru} {by_ : List Pr} (h : RfS n rs all by_) (hn : n ≤ 6) : all.length ≤ rs.length + 4096 := by
  have hb : ∀ c ∈ all, c.1.toNat < 64 ∧ c.2.toNat < 64 := fun c hc => by
    have := h.fit c hc
    rw [fitB_or, Bool.and_eq_true] at this
    exact ⟨fit_lt64 hn this.1, fit_lt64 hn this.2⟩
  have h1 : ((all.drop rs.length).map fun c => c.1.toNat * 64 + c.2.toNat).Nodup := by
    rw [List.Nodup, List.pairwise_map]
    refine List.Pairwise.imp_of_mem ?_ h.nw
    intro a b ha hb2 hne e
    have p1 := hb a (List.mem_of_mem_drop ha)
    have p2 := hb b (List.mem_of_mem_drop hb2)
    have p3 : a.1.toNat * 64 + a.2.toNat = b.1.toNat * 64 + b.2.toNat := e
    exact hne (Prod.ext (BitVec.eq_of_toNat_eq (by omega)) (BitVec.eq_of_toNat_eq (by omega)))
  have h2 := tw_bnd 4096 _ h1 (fun x hx => by
    obtain ⟨c, hc, rfl⟩ := List.mem_map.1 hx
    have := hb c (List.mem_of_mem_drop hc)
    omega)
  rw [List.length_map, List.length_drop] at h2
  omega
/-- where nothing new is found, one word makes all clauses hold -/
theorem RfS.sat {n : Nat} {rs all : List Ru} {by_ : List Pr} (h : RfS n rs all by_) (hn : n ≤ 6) (hd : doneO all all.length) : ∃ s, fitB n s = true ∧ trueB rs s = true := by
  obtain ⟨s, h1, h2⟩ := complete (A := all) (n := n) (by omega) hd.closed h.fit h.nz
  refine ⟨s, h1, trueB_iff.2 fun r hr => trueB_iff.1 h2 r ?_⟩
  obtain ⟨more, e⟩ := h.d.pre
  rw [e]
  exact List.mem_append.2 (.inl hr)
end Go.Proofs.Ytekpifobhgjepaa
