/- Users and roles: no user has two roles of a set at odds. Plain law. -/
import Derived.Test.YtgcpomdlajoifaaDownsP
namespace Go.Proofs.Ytgcpomdlajoifaa
open Go
set_option linter.unusedVariables false

/-- how many bits below k -/
def bitsN (x : BitVec 32) : Nat → Nat
  | 0 => 0
  | k + 1 => bitsN x k + if x.getLsbD k then 1 else 0
theorem bitsN_mono {x y : BitVec 32} (h : ∀ i, x.getLsbD i = true → y.getLsbD i = true) : ∀ k, bitsN x k ≤ bitsN y k := by
  intro k
  induction k with
  | zero => exact Nat.le_refl _
  | succ k ih =>
    show bitsN x k + _ ≤ bitsN y k + _
    cases hb : x.getLsbD k
    · simp only [Bool.false_eq_true, if_false]; omega
    · rw [h k hb]; simp only [if_true]; omega
/-- at odds: two or more of a set -/
def oddR (x q : BitVec 32) : Bool := decide (1 < bitsN (q &&& x) 32)
theorem oddR_mono {x y q : BitVec 32} (h : subB x y = true) (k : oddR y q = false) : oddR x q = false := by
  unfold oddR at k ⊢
  rw [decide_eq_false_iff_not] at k ⊢
  have := bitsN_mono (x := q &&& x) (y := q &&& y) (fun i hi => by
    rw [BitVec.getLsbD_and, Bool.and_eq_true] at hi ⊢
    exact ⟨hi.1, subB_iff.1 h i hi.2⟩) 32
  omega
structure RSt where
  given : Nat → BitVec 32
  play : Nat → BitVec 32
def updR (m : Nat → BitVec 32) (k : Nat) (x : BitVec 32) : Nat → BitVec 32 := fun i => if i = k then x else m i
/-- a deed: its kind, by whom, to which; and what these do not look at -/
abbrev Dr := Int × Int × Int × Int × BitVec 32 × Int
def roleE (users n : Nat) (d : Dr) : Int :=
  if d.1 < 1 ∨ 4 < d.1 then 6
  else if d.2.1 < 0 ∨ (users : Int) ≤ d.2.1 ∨ d.2.2.1 < 0 ∨ (n : Int) ≤ d.2.2.1 then 2
  else 0
theorem roleE_zero {users n : Nat} {d : Dr} (h : roleE users n d = 0) : ∃ u t : Nat, d.2.1 = u ∧ u < users ∧ d.2.2.1 = t ∧ t < n ∧ (d.1 = 1 ∨ d.1 = 2 ∨ d.1 = 3 ∨ d.1 = 4) := by
  unfold roleE at h
  split at h
  · cases h
  split at h
  · cases h
  rename_i h1 h2
  obtain ⟨u, hu⟩ := Int.eq_ofNat_of_zero_le (show 0 ≤ d.2.1 by omega)
  obtain ⟨t, ht⟩ := Int.eq_ofNat_of_zero_le (show 0 ≤ d.2.2.1 by omega)
  exact ⟨u, t, hu, by omega, ht, by omega, by omega⟩
/-- one deed of user u, role t -/
noncomputable def roleDo (n : Nat) (ps : List Pr) (odds : List (BitVec 32)) (s : RSt) (kd : Int) (u t : Nat) : Int × RSt :=
  if kd = 1 then
    (if odds.any (oddR (dnW n ps (s.given u ||| 1#32 <<< t))) then (7, s)
     else if (s.given u).getLsbD t then (5, s)
     else (0, ⟨updR s.given u (s.given u ||| 1#32 <<< t), s.play⟩))
  else if kd = 2 then
    (if (s.given u).getLsbD t then (0, ⟨updR s.given u (s.given u &&& ~~~(1#32 <<< t)), updR s.play u (s.play u &&& dnW n ps (s.given u &&& ~~~(1#32 <<< t)))⟩) else (5, s))
  else if kd = 3 then
    (if (dnW n ps (s.given u)).getLsbD t then (if (s.play u).getLsbD t then (5, s) else (0, ⟨s.given, updR s.play u (s.play u ||| 1#32 <<< t)⟩)) else (7, s))
  else (if (s.play u).getLsbD t then (0, ⟨s.given, updR s.play u (s.play u &&& ~~~(1#32 <<< t))⟩) else (5, s))
structure RInv (n users : Nat) (ps : List Pr) (odds : List (BitVec 32)) (s : RSt) : Prop where
  fit : ∀ u, u < users → fitB n (s.given u) = true
  has : ∀ u, u < users → subB (s.play u) (dnW n ps (s.given u)) = true
  odd : ∀ u, u < users → ∀ q ∈ odds, oddR (dnW n ps (s.given u)) q = false
section
variable {n users : Nat} {ps : List Pr} {odds : List (BitVec 32)} {s : RSt}
theorem dnW_mono {x y : BitVec 32} (hn : n ≤ 32) (h : subB x y = true) : subB (dnW n ps x) (dnW n ps y) = true := by
  rw [subB_iff]
  intro i hi
  obtain ⟨h1, j, hj, h2, h3⟩ := (dnW_bit hn).1 hi
  exact (dnW_bit hn).2 ⟨h1, j, hj, subB_iff.1 h j h2, h3⟩
theorem dnW_zero (hn : n ≤ 32) : dnW n ps 0#32 = 0#32 := by
  apply BitVec.eq_of_getLsbD_eq
  intro i _
  cases hb : (dnW n ps 0#32).getLsbD i
  · simp
  · obtain ⟨_, j, _, h2, _⟩ := (dnW_bit hn).1 hb
    simp at h2
theorem oddR_zero (q : BitVec 32) : oddR 0#32 q = false := by
  unfold oddR
  rw [decide_eq_false_iff_not, show q &&& 0#32 = 0#32 by simp]
  have : ∀ k, bitsN 0#32 k = 0 := by
    intro k
    induction k with
    | zero => rfl
    | succ k ih => show bitsN 0#32 k + _ = 0; rw [ih]; simp
  rw [this]
  omega
theorem RInv.start (hn : n ≤ 32) : RInv n users ps odds ⟨fun _ => 0#32, fun _ => 0#32⟩ :=
  ⟨fun u _ => fitB_zero n, fun u _ => subB_zero _, fun u _ q _ => by show oddR (dnW n ps 0#32) q = false; rw [dnW_zero hn]; exact oddR_zero q⟩
theorem sub_andNot (x y : BitVec 32) : subB (x &&& ~~~y) x = true := subB_iff.2 fun i hi => by rw [BitVec.getLsbD_and, Bool.and_eq_true] at hi; exact hi.1
theorem fit_sub {x y : BitVec 32} (h : subB x y = true) (hy : fitB n y = true) : fitB n x = true := fitB_iff.2 fun i hi => fitB_iff.1 hy i (subB_iff.1 h i hi)
theorem fit_bit {t : Nat} (ht : t < n) : fitB n (1#32 <<< t) = true := by
  rw [fitB_iff]
  intro j hj
  rw [getLsbD_bit, Bool.and_eq_true, decide_eq_true_eq] at hj
  omega
theorem RInv.do (hn : n ≤ 32) (h : RInv n users ps odds s) (kd : Int) {u t : Nat} (hu : u < users) (ht : t < n) : RInv n users ps odds (roleDo n ps odds s kd u t).2 := by
  unfold roleDo
  split
  · split
    · exact h
    · rename_i hodd
      split
      · exact h
      · refine ⟨fun v hv => ?_, fun v hv => ?_, fun v hv q hq => ?_⟩
        · show fitB n (updR s.given u _ v) = true
          unfold updR
          split
          · rw [fitB_or, h.fit u hu, fit_bit ht]; rfl
          · exact h.fit v hv
        · show subB (s.play v) (dnW n ps (updR s.given u _ v)) = true
          unfold updR
          split
          · rename_i e; subst e
            exact subB_trans (h.has v hv) (dnW_mono hn (subB_or_left _ _))
          · exact h.has v hv
        · show oddR (dnW n ps (updR s.given u _ v)) q = false
          unfold updR
          split
          · cases hb : oddR (dnW n ps (s.given u ||| 1#32 <<< t)) q
            · rfl
            · exact absurd (List.any_eq_true.2 ⟨q, hq, hb⟩) hodd
          · exact h.odd v hv q hq
  split
  · split
    · have hs := sub_andNot (s.given u) (1#32 <<< t)
      refine ⟨fun v hv => ?_, fun v hv => ?_, fun v hv q hq => ?_⟩
      · show fitB n (updR s.given u _ v) = true
        unfold updR
        split
        · exact fit_sub hs (h.fit u hu)
        · exact h.fit v hv
      · show subB (updR s.play u _ v) (dnW n ps (updR s.given u _ v)) = true
        unfold updR
        split
        · rw [subB_iff]
          intro i hi
          rw [BitVec.getLsbD_and, Bool.and_eq_true] at hi
          exact hi.2
        · exact h.has v hv
      · show oddR (dnW n ps (updR s.given u _ v)) q = false
        unfold updR
        split
        · exact oddR_mono (dnW_mono hn hs) (h.odd u hu q hq)
        · exact h.odd v hv q hq
    · exact h
  split
  · split
    · rename_i hb
      split
      · exact h
      · refine ⟨h.fit, fun v hv => ?_, h.odd⟩
        show subB (updR s.play u _ v) (dnW n ps (s.given v)) = true
        unfold updR
        split
        · rename_i e; subst e
          rw [subB_iff]
          intro i hi
          rw [BitVec.getLsbD_or, Bool.or_eq_true] at hi
          rcases hi with hi | hi
          · exact subB_iff.1 (h.has v hv) i hi
          · rw [getLsbD_bit, Bool.and_eq_true, decide_eq_true_eq] at hi
            rw [← hi.1]; exact hb
        · exact h.has v hv
    · exact h
  · split
    · refine ⟨h.fit, fun v hv => ?_, h.odd⟩
      show subB (updR s.play u _ v) (dnW n ps (s.given v)) = true
      unfold updR
      split
      · rename_i e; subst e
        exact subB_trans (sub_andNot _ _) (h.has v hv)
      · exact h.has v hv
    · exact h
end
end Go.Proofs.Ytgcpomdlajoifaa
