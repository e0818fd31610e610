/- What two have in common: plain laws of joins and meets. -/
import Derived.Test.YtgcpomdlajoifaaDownsP
namespace Go.Proofs.Ytgcpomdlajoifaa
open Go
set_option linter.unusedVariables false

/-- the first one of a set that all of it is above; below 0: there is none -/
def leastO (l : List (BitVec 32)) (s : BitVec 32) : Option Nat := (List.range l.length).find? fun i => s.getLsbD i && subB s (nth l i)
def codeO : Option Nat → Int
  | some i => i
  | none => -1
def leastI (l : List (BitVec 32)) (s : BitVec 32) : Int := codeO (leastO l s)
theorem leastO_some {l : List (BitVec 32)} {s : BitVec 32} {i : Nat} (h : leastO l s = some i) : i < l.length ∧ s.getLsbD i = true ∧ subB s (nth l i) = true := by
  unfold leastO at h
  have h1 := List.find?_some h
  have h2 := List.mem_of_find?_eq_some h
  rw [Bool.and_eq_true] at h1
  exact ⟨List.mem_range.1 h2, h1.1, h1.2⟩
theorem leastO_of {l : List (BitVec 32)} {s : BitVec 32} {i : Nat} (hi : i < l.length) (h1 : s.getLsbD i = true) (h2 : subB s (nth l i) = true) (hu : ∀ j, j < l.length → s.getLsbD j = true → subB s (nth l j) = true → j = i) : leastO l s = some i := by
  cases h : leastO l s with
  | none =>
    unfold leastO at h
    rw [List.find?_eq_none] at h
    have := h i (List.mem_range.2 hi)
    rw [h1, h2] at this
    exact absurd rfl this
  | some j =>
    obtain ⟨a, b, c⟩ := leastO_some h
    rw [hu j a b c]
/-- the join of two -/
noncomputable def joinO (n : Nat) (ps : List Pr) (a b : Nat) : Option Nat := leastO (upL n ps) (nth (upL n ps) a &&& nth (upL n ps) b)
noncomputable def joinI (n : Nat) (ps : List Pr) (a b : Nat) : Int := codeO (joinO n ps a b)
noncomputable def meetO (n : Nat) (ps : List Pr) (a b : Nat) : Option Nat := joinO n (turnP ps) a b
noncomputable def meetI (n : Nat) (ps : List Pr) (a b : Nat) : Int := codeO (meetO n ps a b)
section
variable {n : Nat} {ps : List Pr}
theorem joinO_comm (a b : Nat) : joinO n ps a b = joinO n ps b a := by
  unfold joinO
  rw [BitVec.and_comm]
theorem meetO_comm (a b : Nat) : meetO n ps a b = meetO n ps b a := joinO_comm a b
theorem up_and {a b : Nat} (hn : n ≤ 32) (ha : a < n) (hb : b < n) (j : Nat) : (nth (upL n ps) a &&& nth (upL n ps) b).getLsbD j = (decide (j < n) && (under ps a j && under ps b j)) := by
  rw [BitVec.getLsbD_and, upL_bit ps hn ha, upL_bit ps hn hb]
  cases decide (j < n) <;> simp
/-- what a join is -/
theorem joinO_spec (hn : n ≤ 32) {a b j : Nat} (ha : a < n) (hb : b < n) (h : joinO n ps a b = some j) : j < n ∧ under ps a j = true ∧ under ps b j = true ∧ ∀ c, c < n → under ps a c = true → under ps b c = true → under ps j c = true := by
  unfold joinO at h
  obtain ⟨h1, h2, h3⟩ := leastO_some h
  rw [upL_length] at h1
  rw [up_and hn ha hb, Bool.and_eq_true, Bool.and_eq_true] at h2
  refine ⟨h1, h2.2.1, h2.2.2, fun c hc hac hbc => ?_⟩
  have := subB_iff.1 h3 c (by rw [up_and hn ha hb, hac, hbc]; simpa using hc)
  rw [upL_bit ps hn h1, Bool.and_eq_true] at this
  exact this.2
/-- a join is the one that is as a join -/
theorem joinO_of (hn : n ≤ 32) (hanti : ∀ i j : Nat, i < n → j < n → under ps i j = true → under ps j i = true → i = j) {a b j : Nat} (ha : a < n) (hb : b < n) (hj : j < n) (h1 : under ps a j = true) (h2 : under ps b j = true) (h3 : ∀ c, c < n → under ps a c = true → under ps b c = true → under ps j c = true) : joinO n ps a b = some j := by
  unfold joinO
  refine leastO_of (by rw [upL_length]; exact hj) ?_ ?_ ?_
  · rw [up_and hn ha hb, h1, h2]; simpa using hj
  · rw [subB_iff]
    intro c hc
    rw [up_and hn ha hb, Bool.and_eq_true, Bool.and_eq_true, decide_eq_true_eq] at hc
    rw [upL_bit ps hn hj, h3 c hc.1 hc.2.1 hc.2.2]
    simpa using hc.1
  · intro i hi hb1 hs
    rw [upL_length] at hi
    rw [up_and hn ha hb, Bool.and_eq_true, Bool.and_eq_true] at hb1
    refine hanti i j hi hj ?_ (h3 i hi hb1.2.1 hb1.2.2)
    have := subB_iff.1 hs j (by rw [up_and hn ha hb, h1, h2]; simpa using hj)
    rw [upL_bit ps hn hi, Bool.and_eq_true] at this
    exact this.2
theorem under_self (a : Nat) : under ps a a = true := under_iff.2 (Reach.refl _)
theorem under_step {a b c : Nat} (h : under ps a b = true) (k : under ps b c = true) : under ps a c = true := under_iff.2 ((under_iff.1 h).trans (under_iff.1 k))
end
/-- an order of n things -/
structure Ord (n : Nat) (ps : List Pr) : Prop where
  le : n ≤ 32
  anti : ∀ i j : Nat, i < n → j < n → under ps i j = true → under ps j i = true → i = j
section
variable {n : Nat} {ps : List Pr}
theorem Ord.of (h : ordF n ps = 0) : Ord n ps := by
  obtain ⟨h1, _, h3⟩ := ordF_zero h
  exact ⟨by omega, fun i j hi hj => h3 i j (by omega) (by omega)⟩
theorem Ord.turn (h : Ord n ps) : Ord n (turnP ps) := ⟨h.le, fun i j hi hj h1 h2 => by
  rw [turn_under] at h1 h2
  exact h.anti i j hi hj h2 h1⟩
theorem Ord.self (h : Ord n ps) {a : Nat} (ha : a < n) : joinO n ps a a = some a :=
  joinO_of h.le h.anti ha ha ha (under_self a) (under_self a) fun c _ h1 _ => h1
theorem Ord.join (h : Ord n ps) {a b j : Nat} (ha : a < n) (hb : b < n) (he : joinO n ps a b = some j) : j < n ∧ under ps a j = true ∧ under ps b j = true ∧ ∀ c, c < n → under ps a c = true → under ps b c = true → under ps j c = true := joinO_spec h.le ha hb he
theorem Ord.meet (h : Ord n ps) {a b j : Nat} (ha : a < n) (hb : b < n) (he : meetO n ps a b = some j) : j < n ∧ under ps j a = true ∧ under ps j b = true ∧ ∀ c, c < n → under ps c a = true → under ps c b = true → under ps c j = true := by
  obtain ⟨h1, h2, h3, h4⟩ := joinO_spec h.le ha hb he
  rw [turn_under] at h2 h3
  refine ⟨h1, h2, h3, fun c hc => ?_⟩
  have := h4 c hc
  rw [turn_under, turn_under, turn_under] at this
  exact this
theorem Ord.join_of (h : Ord n ps) {a b j : Nat} (ha : a < n) (hb : b < n) (hj : j < n) (h1 : under ps a j = true) (h2 : under ps b j = true) (h3 : ∀ c, c < n → under ps a c = true → under ps b c = true → under ps j c = true) : joinO n ps a b = some j := joinO_of h.le h.anti ha hb hj h1 h2 h3
theorem Ord.meet_of (h : Ord n ps) {a b j : Nat} (ha : a < n) (hb : b < n) (hj : j < n) (h1 : under ps j a = true) (h2 : under ps j b = true) (h3 : ∀ c, c < n → under ps c a = true → under ps c b = true → under ps c j = true) : meetO n ps a b = some j := by
  refine joinO_of h.le h.turn.anti ha hb hj (by rw [turn_under]; exact h1) (by rw [turn_under]; exact h2) fun c hc => ?_
  rw [turn_under, turn_under, turn_under]
  exact h3 c hc
/-- the laws of absorption -/
theorem Ord.absorb_join (h : Ord n ps) {a b m : Nat} (ha : a < n) (hb : b < n) (he : meetO n ps a b = some m) : joinO n ps a m = some a := by
  obtain ⟨h1, h2, _, _⟩ := h.meet ha hb he
  exact h.join_of ha h1 ha (under_self a) h2 fun c _ h3 _ => h3
theorem Ord.absorb_meet (h : Ord n ps) {a b j : Nat} (ha : a < n) (hb : b < n) (he : joinO n ps a b = some j) : meetO n ps a j = some a := by
  obtain ⟨h1, h2, _, _⟩ := h.join ha hb he
  exact h.meet_of ha h1 ha (under_self a) h2 fun c _ h3 _ => h3
end
/-! ### lattices -/
/-- any two have both -/
noncomputable def isL (n : Nat) (ps : List Pr) : Bool := (List.range n).all fun a => (List.range n).all fun b => (joinO n ps a b).isSome && (meetO n ps a b).isSome
theorem isL_turn {n : Nat} {ps : List Pr} : isL n (turnP ps) = isL n ps := by
  unfold isL meetO
  rw [turn_turn]
  congr 1
  funext a
  congr 1
  funext b
  rw [Bool.and_comm]
noncomputable def jn (n : Nat) (ps : List Pr) (a b : Nat) : Nat := (joinO n ps a b).getD 0
noncomputable def mt (n : Nat) (ps : List Pr) (a b : Nat) : Nat := (meetO n ps a b).getD 0
structure Lat (n : Nat) (ps : List Pr) : Prop where
  ord : Ord n ps
  jo : ∀ a b, a < n → b < n → joinO n ps a b = some (jn n ps a b)
  me : ∀ a b, a < n → b < n → meetO n ps a b = some (mt n ps a b)
theorem Lat.of {n : Nat} {ps : List Pr} (h : Ord n ps) (hi : isL n ps = true) : Lat n ps := by
  unfold isL at hi
  have key : ∀ a b, a < n → b < n → (joinO n ps a b).isSome = true ∧ (meetO n ps a b).isSome = true := by
    intro a b ha hb
    have := List.all_eq_true.1 (List.all_eq_true.1 hi a (List.mem_range.2 ha)) b (List.mem_range.2 hb)
    rwa [Bool.and_eq_true] at this
  refine ⟨h, fun a b ha hb => ?_, fun a b ha hb => ?_⟩
  · obtain ⟨j, hj⟩ := Option.isSome_iff_exists.1 (key a b ha hb).1
    unfold jn
    rw [hj]; rfl
  · obtain ⟨j, hj⟩ := Option.isSome_iff_exists.1 (key a b ha hb).2
    unfold mt
    rw [hj]; rfl
section
variable {n : Nat} {ps : List Pr}
theorem Lat.turn (h : Lat n ps) : Lat n (turnP ps) := by
  refine ⟨h.ord.turn, fun a b ha hb => ?_, fun a b ha hb => ?_⟩
  · exact h.me a b ha hb
  · unfold mt meetO
    rw [turn_turn]
    exact h.jo a b ha hb
theorem jn_turn (a b : Nat) : jn n (turnP ps) a b = mt n ps a b := rfl
theorem mt_turn (a b : Nat) : mt n (turnP ps) a b = jn n ps a b := by
  unfold mt meetO jn
  rw [turn_turn]
theorem jn_comm (a b : Nat) : jn n ps a b = jn n ps b a := by unfold jn; rw [joinO_comm]
theorem mt_comm (a b : Nat) : mt n ps a b = mt n ps b a := by unfold mt; rw [meetO_comm]
variable (h : Lat n ps) {a b c : Nat}
include h
theorem Lat.jlt (ha : a < n) (hb : b < n) : jn n ps a b < n := (h.ord.join ha hb (h.jo a b ha hb)).1
theorem Lat.mlt (ha : a < n) (hb : b < n) : mt n ps a b < n := (h.ord.meet ha hb (h.me a b ha hb)).1
theorem Lat.jl (ha : a < n) (hb : b < n) : under ps a (jn n ps a b) = true := (h.ord.join ha hb (h.jo a b ha hb)).2.1
theorem Lat.jr (ha : a < n) (hb : b < n) : under ps b (jn n ps a b) = true := (h.ord.join ha hb (h.jo a b ha hb)).2.2.1
theorem Lat.jle (ha : a < n) (hb : b < n) (hc : c < n) (h1 : under ps a c = true) (h2 : under ps b c = true) : under ps (jn n ps a b) c = true := (h.ord.join ha hb (h.jo a b ha hb)).2.2.2 c hc h1 h2
theorem Lat.anti (ha : a < n) (hb : b < n) (h1 : under ps a b = true) (h2 : under ps b a = true) : a = b := h.ord.anti a b ha hb h1 h2
theorem Lat.assoc (ha : a < n) (hb : b < n) (hc : c < n) : jn n ps (jn n ps a b) c = jn n ps a (jn n ps b c) := by
  have hab := h.jlt ha hb
  have hbc := h.jlt hb hc
  refine h.anti (h.jlt hab hc) (h.jlt ha hbc) ?_ ?_
  · exact h.jle hab hc (h.jlt ha hbc) (h.jle ha hb (h.jlt ha hbc) (h.jl ha hbc) (under_step (h.jl hb hc) (h.jr ha hbc))) (under_step (h.jr hb hc) (h.jr ha hbc))
  · exact h.jle ha hbc (h.jlt hab hc) (under_step (h.jl ha hb) (h.jl hab hc)) (h.jle hb hc (h.jlt hab hc) (under_step (h.jr ha hb) (h.jl hab hc)) (h.jr hab hc))
theorem Lat.jabs (ha : a < n) (hb : b < n) : jn n ps a (mt n ps a b) = a := by
  have := h.ord.absorb_join ha hb (h.me a b ha hb)
  have h2 := h.jo a _ ha (h.mlt ha hb)
  rw [h2] at this
  exact Option.some.inj this
theorem Lat.mabs (ha : a < n) (hb : b < n) : mt n ps a (jn n ps a b) = a := by
  have := h.ord.absorb_meet ha hb (h.jo a b ha hb)
  have h2 := h.me a _ ha (h.jlt ha hb)
  rw [h2] at this
  exact Option.some.inj this
theorem Lat.jup (ha : a < n) (hc : c < n) (h1 : under ps a c = true) : jn n ps a c = c := by
  have := h.ord.join_of ha hc hc h1 (under_self c) (fun x _ _ k => k)
  rw [h.jo a c ha hc] at this
  exact Option.some.inj this
omit h
/-- is it so of three? -/
noncomputable def lawB (n : Nat) (ps : List Pr) (always : Bool) (a b c : Nat) : Bool :=
  !((always || under ps c a) && mt n ps a (jn n ps b c) != jn n ps (mt n ps a b) (mt n ps a c))
noncomputable def allL (n : Nat) (ps : List Pr) (always : Bool) : Bool := (List.range n).all fun a => (List.range n).all fun b => (List.range n).all fun c => lawB n ps always a b c
theorem allL_iff {always : Bool} : allL n ps always = true ↔ ∀ a b c, a < n → b < n → c < n → (always = true ∨ under ps c a = true) → mt n ps a (jn n ps b c) = jn n ps (mt n ps a b) (mt n ps a c) := by
  have e : ∀ a b c, lawB n ps always a b c = true ↔ ((always = true ∨ under ps c a = true) → mt n ps a (jn n ps b c) = jn n ps (mt n ps a b) (mt n ps a c)) := by
    intro a b c
    unfold lawB
    rw [Bool.not_eq_true', Bool.and_eq_false_iff, Bool.or_eq_false_iff, bne_eq_false_iff_eq]
    constructor
    · rintro (⟨h1, h2⟩ | h1) h
      · rcases h with h | h
        · rw [h1] at h; cases h
        · rw [h2] at h; cases h
      · exact h1
    · intro h
      by_cases h1 : always = true ∨ under ps c a = true
      · exact .inr (h h1)
      · left
        constructor
        · cases always
          · rfl
          · exact absurd (.inl rfl) h1
        · cases hu : under ps c a
          · rfl
          · exact absurd (.inr hu) h1
  unfold allL
  simp only [List.all_eq_true, List.mem_range]
  constructor
  · intro h a b c ha hb hc
    exact (e a b c).1 (h a ha b hb c hc)
  · intro h a ha b hb c hc
    exact (e a b c).2 (h a b c ha hb hc)
theorem shared_modular (hs : allL n ps true = true) : allL n ps false = true :=
  allL_iff.2 fun a b c ha hb hc _ => allL_iff.1 hs a b c ha hb hc (.inl rfl)
theorem shared_turn (h : Lat n ps) (hs : allL n ps true = true) : allL n (turnP ps) true = true := by
  refine allL_iff.2 fun a b c ha hb hc _ => ?_
  rw [mt_turn, jn_turn, jn_turn, mt_turn, mt_turn]
  have D := fun a b c ha hb hc => allL_iff.1 hs a b c ha hb hc (.inl rfl)
  have hab := h.jlt ha hb
  rw [D (jn n ps a b) a c hab ha hc]
  rw [mt_comm (jn n ps a b) a, h.mabs ha hb, mt_comm (jn n ps a b) c, D c a b hc ha hb]
  rw [← h.assoc ha (h.mlt hc ha) (h.mlt hc hb), mt_comm c a, h.jabs ha hc, mt_comm c b]
theorem modular_turn (h : Lat n ps) (hs : allL n ps false = true) : allL n (turnP ps) false = true := by
  refine allL_iff.2 fun a b c ha hb hc hu => ?_
  rw [mt_turn, jn_turn, jn_turn, mt_turn, mt_turn]
  have hac : under ps a c = true := by
    rcases hu with hu | hu
    · cases hu
    · rwa [turn_under] at hu
  have D := allL_iff.1 hs c b a hc hb ha (.inr hac)
  rw [h.jup ha hc hac, mt_comm (jn n ps a b) c, jn_comm a b, D, mt_comm c a]
  have : mt n ps a c = a := by
    have := h.mabs ha hc
    rwa [h.jup ha hc hac] at this
  rw [this, mt_comm c b, jn_comm]
theorem shared_eq (h : Lat n ps) : allL n (turnP ps) true = allL n ps true := by
  rw [Bool.eq_iff_iff]
  exact ⟨fun hs => by have := shared_turn h.turn hs; rwa [turn_turn] at this, shared_turn h⟩
theorem modular_eq (h : Lat n ps) : allL n (turnP ps) false = allL n ps false := by
  rw [Bool.eq_iff_iff]
  exact ⟨fun hs => by have := modular_turn h.turn hs; rwa [turn_turn] at this, modular_turn h⟩
end
end Go.Proofs.Ytgcpomdlajoifaa
