/- The chains that Split tells: plain law. -/
import Derived.Test.YtgcpomdlajoifaaDilT
namespace Go.Proofs.Ytgcpomdlajoifaa
open Go Go.RowKit
set_option linter.unusedVariables false

/-- a chain of the head j, as far as z -/
structure ChI (n : Nat) (ps : List Pr) (last : Ls) (j : Nat) (l : List Nat) (z : Nat) : Prop where
  head : j < n ∧ last j < 0
  mem : ∀ i ∈ l, i < n ∧ cntU n ps i ≤ cntU n ps z
  zin : z ∈ l
  up : ∀ i ∈ l, up1 last i ∈ l
  root : ∀ i ∈ l, ∃ t, upN last t i = j
  nd : l.Nodup
/-- a whole chain of the head j -/
def ChAll (n : Nat) (last : Ls) (j : Nat) (l : List Nat) : Prop := l.Nodup ∧ ∀ i, i ∈ l ↔ i < n ∧ upN last n i = j
section
variable {n : Nat} {ps : List Pr} {last : Ls} {j z k : Nat} {l : List Nat}
theorem up1_head (h : last j < 0) : up1 last j = j := by unfold up1; rw [if_pos h]
theorem up1_next (h : last k = (z : Int)) : up1 last k = z := by unfold up1; rw [if_neg (by omega), h, Int.toNat_natCast]
theorem upN_head (h : last j < 0) : ∀ t, upN last t j = j := by
  intro t
  induction t with
  | zero => rfl
  | succ t ih => show upN last t (up1 last j) = j; rw [up1_head h]; exact ih
theorem upN_add (last : Ls) : ∀ a b v, upN last (a + b) v = upN last b (upN last a v) := by
  intro a
  induction a with
  | zero => intro b v; rw [Nat.zero_add]; rfl
  | succ a ih => intro b v; rw [show a + 1 + b = (a + b) + 1 by omega]; exact ih b (up1 last v)
theorem upN_same {a b v u : Nat} (ha : upN last a v = u) (hu : last u < 0) (hb : last (upN last b v) < 0) : upN last b v = u := by
  rcases Nat.le_total a b with h | h
  · obtain ⟨c, rfl⟩ := Nat.le.dest h
    rw [upN_add, ha, upN_head hu]
  · obtain ⟨c, rfl⟩ := Nat.le.dest h
    rw [upN_add, upN_head hb] at ha
    exact ha
theorem ChI.start (hj : j < n) (hl : last j < 0) : ChI n ps last j [j] j :=
  ⟨⟨hj, hl⟩, fun i hi => by simp at hi; subst hi; exact ⟨hj, Nat.le_refl _⟩, by simp, fun i hi => by simp at hi; subst hi; rw [up1_head hl]; simp, fun i hi => by simp at hi; subst hi; exact ⟨0, rfl⟩, by simp⟩
theorem ChI.snoc (hanti : ∀ i j : Nat, (i : Int) < (n : Int) → (j : Int) < (n : Int) → under ps i j = true → under ps j i = true → i = j) (hm : MatO n ps last) (h : ChI n ps last j l z) (hk : k < n) (hl : last k = (z : Int)) : ChI n ps last j (l ++ [k]) k := by
  have hz := (h.mem z h.zin).1
  have ho : ov ps z k = true := by
    rcases hm.ok k hk with h1 | ⟨x, hx, e, ho⟩
    · omega
    · obtain rfl : x = z := by omega
      exact ho
  have hlt := cntU_lt hanti hz hk ho
  have hni : k ∉ l := fun hc => by have := (h.mem k hc).2; omega
  refine ⟨h.head, fun i hi => ?_, by simp, fun i hi => ?_, fun i hi => ?_, ?_⟩
  · rw [List.mem_append] at hi
    rcases hi with hi | hi
    · have := h.mem i hi
      exact ⟨this.1, by omega⟩
    · simp at hi; subst hi; exact ⟨hk, Nat.le_refl _⟩
  · rw [List.mem_append] at hi ⊢
    rcases hi with hi | hi
    · exact .inl (h.up i hi)
    · simp at hi; subst hi; rw [up1_next hl]; exact .inl h.zin
  · rw [List.mem_append] at hi
    rcases hi with hi | hi
    · exact h.root i hi
    · simp at hi; subst hi
      obtain ⟨t, e⟩ := h.root z h.zin
      exact ⟨t + 1, by show upN last t (up1 last i) = j; rw [up1_next hl]; exact e⟩
  · rw [List.nodup_append]
    refine ⟨h.nd, by simp, fun a ha b hb e => ?_⟩
    simp at hb
    subst hb e
    exact hni ha
theorem ChI.lt (hanti : ∀ i j : Nat, (i : Int) < (n : Int) → (j : Int) < (n : Int) → under ps i j = true → under ps j i = true → i = j) (hm : MatO n ps last) (hz : z < n) (hk : k < n) (hl : last k = (z : Int)) : cntU n ps z < cntU n ps k := by
  refine cntU_lt hanti hz hk ?_
  rcases hm.ok k hk with h1 | ⟨x, hx, e, ho⟩
  · omega
  · obtain rfl : x = z := by omega
    exact ho
theorem cntU_le (n : Nat) (ps : List Pr) (v : Nat) : cntU n ps v ≤ n := by
  unfold cntU
  have := List.length_filter_le (fun u => ov ps u v) (List.range n)
  simpa using this
theorem ChI.ups (h : ChI n ps last j l z) {i : Nat} (hi : i ∈ l) : ∀ t, upN last t i ∈ l := by
  intro t
  induction t with
  | zero => exact hi
  | succ t ih => rw [upN_last]; exact h.up _ ih
theorem ChI.done (hanti : ∀ i j : Nat, (i : Int) < (n : Int) → (j : Int) < (n : Int) → under ps i j = true → under ps j i = true → i = j) (hm : MatO n ps last) (h : ChI n ps last j l z) (hno : ∀ k, k < n → last k ≠ (z : Int)) : ChAll n last j l := by
  refine ⟨h.nd, fun i => ⟨fun hi => ?_, fun ⟨hi, e⟩ => ?_⟩⟩
  · obtain ⟨t, e⟩ := h.root i hi
    have hin := (h.mem i hi).1
    exact ⟨hin, upN_same e h.head.2 (hm.root hanti n i hin (cntU_le n ps i))⟩
  · obtain ⟨t, e2⟩ := h.root z h.zin
    have hz := (h.mem z h.zin).1
    rcases hm.anc n t i z hi hz (e.trans e2.symm) with ⟨s, es⟩ | ⟨s, es⟩
    · rw [← es]; exact h.ups h.zin s
    · have key : ∀ s, upN last s i = z → i ∈ l := by
        intro s
        induction s with
        | zero => intro e; rw [show i = z from e]; exact h.zin
        | succ s ih =>
          intro e
          rw [upN_last] at e
          have hw := (hm.upK s i hi).1
          by_cases hneg : last (upN last s i) < 0
          · rw [up1_head hneg] at e
            exact ih e
          · exfalso
            refine hno _ hw ?_
            unfold up1 at e
            rw [if_neg hneg] at e
            omega
      exact key s es
/-- just one of a chain is in a set that has one of each -/
theorem one_len {p : Nat → Bool} {v : Nat} (hn : l.Nodup) (hv : v ∈ l) (hp : p v = true) (hu : ∀ i ∈ l, p i = true → i = v) : (l.filter p).length = 1 := by
  have : l.filter p = l.filter fun i => i == v := by
    apply List.filter_congr
    intro x hx
    cases hpx : p x with
    | true => rw [hu x hx hpx]; simp
    | false =>
      have : x ≠ v := fun e => by rw [e, hp] at hpx; cases hpx
      simpa using this
  rw [this]
  clear hu this hp
  induction l with
  | nil => cases hv
  | cons a l ih =>
    rw [List.nodup_cons] at hn
    rw [List.filter_cons]
    by_cases e : a = v
    · subst e
      have h0 : (l.filter fun i => i == a) = [] := by
        rw [List.filter_eq_nil_iff]
        intro x hx
        have : x ≠ a := fun e => hn.1 (e ▸ hx)
        simpa using this
      simp [h0]
    · have e2 : (a == v) = false := by simpa using e
      rw [e2]
      simp only [Bool.false_eq_true, if_false]
      refine ih hn.2 ?_
      rw [List.mem_cons] at hv
      rcases hv with hv | hv
      · exact absurd hv.symm e
      · exact hv
theorem ChAll.one (h : ChAll n last j l) {p : Nat → Bool} (hp : ∃ v, v < n ∧ p v = true ∧ upN last n v = j ∧ ∀ u, u < n → p u = true → upN last n u = j → u = v) : (l.filter p).length = 1 := by
  obtain ⟨v, hv, pv, ev, hu⟩ := hp
  exact one_len h.1 ((h.2 v).2 ⟨hv, ev⟩) pv fun i hi pi => hu i ((h.2 i).1 hi).1 pi ((h.2 i).1 hi).2
end
/-- the chains of the first q heads -/
def Chs (n : Nat) (last : Ls) (q : Nat) (ls : List (List Nat)) : Prop := ls.length = ((List.range q).filter (headB last)).length ∧ ∀ l ∈ ls, ∃ j, j < n ∧ last j < 0 ∧ ChAll n last j l
theorem Chs.start (n : Nat) (last : Ls) : Chs n last 0 [] := ⟨rfl, fun l h => by cases h⟩
theorem heads_succ (last : Ls) (q : Nat) : ((List.range (q + 1)).filter (headB last)).length = ((List.range q).filter (headB last)).length + (if last q < 0 then 1 else 0) := by
  rw [List.range_succ, List.filter_append, List.length_append]
  congr 1
  unfold headB
  by_cases h : last q < 0
  · rw [if_pos h]; simp [h]
  · rw [if_neg h]; simp [h]
theorem Chs.skip {n q : Nat} {last : Ls} {ls : List (List Nat)} (h : Chs n last q ls) (hq : ¬ last q < 0) : Chs n last (q + 1) ls := ⟨by rw [heads_succ, if_neg hq, h.1]; rfl, h.2⟩
theorem Chs.snoc {n q : Nat} {last : Ls} {ls : List (List Nat)} {l : List Nat} (h : Chs n last q ls) (hn : q < n) (hq : last q < 0) (hl : ChAll n last q l) : Chs n last (q + 1) (ls ++ [l]) :=
  ⟨by rw [heads_succ, if_pos hq, List.length_append, h.1]; rfl, fun x hx => by
    rw [List.mem_append] at hx
    rcases hx with hx | hx
    · exact h.2 x hx
    · simp at hx; subst hx; exact ⟨q, hn, hq, hl⟩⟩
end Go.Proofs.Ytgcpomdlajoifaa
