/- What one knows: plain facts, with no program in sight. -/
import Derived.Test.YtodkpojmonikiaaWordP
import Derived.Test.YtodkpojmonikiaaMat
namespace Go.Proofs.Ytodkpojmonikiaa
open Go Go.RowKit

def knAt (c : List Int) (ev : BitVec 32) (w v : Nat) : Bool := iat c w != iat c v || ev.getLsbD v
def knTo (c : List Int) (ev : BitVec 32) (w k : Nat) : Bool := (List.range k).all (knAt c ev w)
theorem knTo_succ (c : List Int) (ev : BitVec 32) (w k : Nat) : knTo c ev w (k + 1) = (knTo c ev w k && knAt c ev w k) := all_range _ k
/-- what one knows of an event -/
def knW (n : Nat) (c : List Int) (ev : BitVec 32) : BitVec 32 := wordN n fun w => knTo c ev w n
theorem knTo_iff {c : List Int} {ev : BitVec 32} {w n : Nat} : knTo c ev w n = true ↔ ∀ v, v < n → iat c w = iat c v → ev.getLsbD v = true := by
  unfold knTo
  rw [List.all_eq_true]
  constructor
  · intro h v hv e
    have := h v (List.mem_range.2 hv)
    unfold knAt at this
    rw [Bool.or_eq_true, bne_iff_ne] at this
    rcases this with h | h
    · exact absurd e h
    · exact h
  · intro h v hv
    unfold knAt
    rw [Bool.or_eq_true, bne_iff_ne]
    by_cases e : iat c w = iat c v
    · exact .inr (h v (List.mem_range.1 hv) e)
    · exact .inl e
theorem knW_bit {n : Nat} {c : List Int} {ev : BitVec 32} (hn : n ≤ 32) {w : Nat} : (knW n c ev).getLsbD w = true ↔ w < n ∧ ∀ v, v < n → iat c w = iat c v → ev.getLsbD v = true := by
  unfold knW
  rw [wordN_bit _ n hn, Bool.and_eq_true, decide_eq_true_eq, knTo_iff]
theorem knW_fit {n : Nat} {c : List Int} {ev : BitVec 32} (hn : n ≤ 32) : fitB n (knW n c ev) = true := wordN_fit n _ hn
theorem knW_sub {n : Nat} {c : List Int} {ev : BitVec 32} (hn : n ≤ 32) : subB (knW n c ev) ev = true :=
  subB_iff.2 fun w hw => ((knW_bit hn).1 hw).2 w ((knW_bit hn).1 hw).1 rfl
theorem knW_idem {n : Nat} {c : List Int} {ev : BitVec 32} (hn : n ≤ 32) : knW n c (knW n c ev) = knW n c ev := by
  refine word_ext (knW_fit hn) (knW_fit hn) fun w _ => ?_
  rw [Bool.eq_iff_iff]
  constructor
  · intro h
    exact subB_iff.1 (knW_sub hn) w h
  · intro h
    refine (knW_bit hn).2 ⟨((knW_bit hn).1 h).1, fun v hv e => (knW_bit hn).2 ⟨hv, fun u hu e2 => ((knW_bit hn).1 h).2 u hu (e.trans e2)⟩⟩
theorem knW_not {n : Nat} {c : List Int} {ev : BitVec 32} (hn : n < 32) : knW n c ((1#32 <<< n - 1#32) &&& ~~~(knW n c ev)) = (1#32 <<< n - 1#32) &&& ~~~(knW n c ev) := by
  refine word_ext (knW_fit (by omega)) (not_fit _ hn) fun w hw => ?_
  rw [Bool.eq_iff_iff]
  constructor
  · exact fun h => subB_iff.1 (knW_sub (by omega)) w h
  · intro h
    rw [not_bit _ hw hn] at h
    refine (knW_bit (by omega)).2 ⟨hw, fun v hv e => ?_⟩
    rw [not_bit _ hv hn]
    cases hb : (knW n c ev).getLsbD v
    · rfl
    · exfalso
      have : (knW n c ev).getLsbD w = true := (knW_bit (by omega)).2 ⟨hw, fun u hu e2 => ((knW_bit (by omega)).1 hb).2 u hu (e.symm.trans e2)⟩
      rw [this] at h
      cases h
theorem knW_all {n : Nat} {c : List Int} (hn : n < 32) : knW n c (1#32 <<< n - 1#32) = 1#32 <<< n - 1#32 := by
  refine word_ext (knW_fit (by omega)) (full_fit hn) fun w hw => ?_
  have h2 : (1#32 <<< n - 1#32).getLsbD w = true := by rw [full_bit n w hn]; simpa using hw
  rw [h2]
  exact (knW_bit (by omega)).2 ⟨hw, fun v hv _ => by rw [full_bit n v hn]; simpa using hv⟩
theorem knW_and {n : Nat} {c : List Int} {a b : BitVec 32} (hn : n ≤ 32) : knW n c (a &&& b) = knW n c a &&& knW n c b := by
  apply BitVec.eq_of_getLsbD_eq
  intro w _
  rw [Bool.eq_iff_iff, BitVec.getLsbD_and, Bool.and_eq_true, knW_bit hn, knW_bit hn, knW_bit hn]
  constructor
  · rintro ⟨h1, h2⟩
    exact ⟨⟨h1, fun v hv e => by have := h2 v hv e; rw [BitVec.getLsbD_and, Bool.and_eq_true] at this; exact this.1⟩, h1, fun v hv e => by have := h2 v hv e; rw [BitVec.getLsbD_and, Bool.and_eq_true] at this; exact this.2⟩
  · rintro ⟨⟨h1, h2⟩, _, h3⟩
    exact ⟨h1, fun v hv e => by rw [BitVec.getLsbD_and, h2 v hv e, h3 v hv e]; rfl⟩

/-- is a row of another length? -/
def neLen (n : Int) (r : Rv) : Bool := (r.2.1 : Int) != n
/-- the code -/
def knowF (n : Int) (rs : List Rv) (ev : BitVec 32) : Int :=
  if n < 1 ∨ 6 < n ∨ rs.length < 1 ∨ 5 < rs.length then 1 else if rs.any (neLen n) = true then 3 else if fitB n.toNat ev then 0 else 4
theorem knowF_zero {n : Int} {rs : List Rv} {ev : BitVec 32} (h : knowF n rs ev = 0) : (1 ≤ n ∧ n ≤ 6 ∧ 1 ≤ rs.length ∧ rs.length ≤ 5) ∧ (∀ r ∈ rs, (r.2.1 : Int) = n) ∧ fitB n.toNat ev = true := by
  unfold knowF at h
  split at h
  · exact absurd h (by decide)
  rename_i h1
  split at h
  · exact absurd h (by decide)
  rename_i h2
  split at h
  · rename_i h3
    refine ⟨by omega, fun r hr => ?_, h3⟩
    rw [Bool.not_eq_true, List.any_eq_false] at h2
    have := h2 r hr
    unfold neLen at this
    simpa using this
  · exact absurd h (by decide)
theorem knowF_ok {n : Int} {rs : List Rv} {ev ev2 : BitVec 32} (h : knowF n rs ev = 0) (h2 : fitB n.toNat ev2 = true) : knowF n rs ev2 = 0 := by
  unfold knowF at h ⊢
  rw [h2]
  split
  · rename_i q; rw [if_pos q] at h; exact absurd h (by decide)
  · rename_i q
    rw [if_neg q] at h
    split
    · rename_i q2; rw [if_pos q2] at h; exact absurd h (by decide)
    · rfl
end Go.Proofs.Ytodkpojmonikiaa
