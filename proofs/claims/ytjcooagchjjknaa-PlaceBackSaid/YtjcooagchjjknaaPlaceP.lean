/- Plain laws of places: a path leads in a page and in its view to the same node. -/
import Derived.Test.YtjcooagchjjknaaPageP
namespace Go.Proofs.Ytjcooagchjjknaa
open Go
set_option linter.unusedVariables false

/-- the nodes below a node that a label sees, among the first k -/
def belowTo (ls : List Lf) (who : Lab) (a : Int) : Nat → List Int
  | 0 => []
  | k + 1 => belowTo ls who a k ++ (if (lfAt ls k).1 = a ∧ seen who (lfAt ls k) = true then [(k : Int)] else [])
def belowL (ls : List Lf) (who : Lab) (a : Int) : List Int := belowTo ls who a ls.length
theorem belowTo_le (ls : List Lf) (who : Lab) (a : Int) (k : Nat) : (belowTo ls who a k).length ≤ k := by
  induction k with
  | zero => exact Nat.le_refl _
  | succ k ih =>
    show (belowTo ls who a k ++ _).length ≤ _
    rw [List.length_append]
    split <;> simp <;> omega
theorem belowTo_mem {ls : List Lf} {who : Lab} {a x : Int} {k : Nat} (h : x ∈ belowTo ls who a k) : ∃ i, i < k ∧ x = (i : Int) ∧ (lfAt ls i).1 = a ∧ seen who (lfAt ls i) = true := by
  induction k with
  | zero => cases h
  | succ k ih =>
    rcases List.mem_append.1 h with h | h
    · obtain ⟨i, h1, h2⟩ := ih h
      exact ⟨i, by omega, h2⟩
    · split at h
      · rename_i hc
        rw [List.mem_singleton] at h
        exact ⟨k, by omega, h, hc⟩
      · cases h
/-- the walk down a path -/
def goF (ls : List Lf) (who : Lab) : Int → List Int → Option Int
  | a, [] => some a
  | a, p :: ps => if 0 ≤ p ∧ p < (belowL ls who a).length then goF ls who ((belowL ls who a).getD p.toNat 0) ps else none

/-- the number of a node in the view -/
def inV (so : Lf → Bool) (ls : List Lf) (a : Int) : Int := if a < 0 then a else ((cntK so ls a.toNat : Nat) : Int)
theorem lf_at {ls : List Lf} {i : Nat} (h : i < ls.length) : lfAt ls i = ls[i] := lfAt_eq ls i h
theorem cntK_len (so : Lf → Bool) (ls : List Lf) : cntK so ls ls.length = (viewK so ls).length := by
  unfold cntK viewK
  rw [List.take_length, List.length_map]
theorem view_at {so : Lf → Bool} {ls : List Lf} {i : Nat} (hi : i < ls.length) (h : so (lfAt ls i) = true) : cntK so ls i < (viewK so ls).length ∧ lfAt (viewK so ls) (cntK so ls i) = renK so ls (lfAt ls i) := by
  rw [lf_at hi] at h ⊢
  have h1 := kept_at hi h
  have h2 : (viewK so ls)[cntK so ls i]? = some (renK so ls ls[i]) := by unfold viewK; rw [List.getElem?_map, h1]; rfl
  have h3 : cntK so ls i < (viewK so ls).length := by
    rcases Nat.lt_or_ge (cntK so ls i) (viewK so ls).length with h3 | h3
    · exact h3
    · rw [List.getElem?_eq_none h3] at h2; cases h2
  exact ⟨h3, by rw [lf_at h3]; rw [List.getElem?_eq_getElem h3] at h2; exact Option.some.inj h2⟩
/-- a node that is the root's parent, or seen -/
def At (ls : List Lf) (who : Lab) (a : Int) : Prop := a = -1 ∨ ∃ i, i < ls.length ∧ a = (i : Int) ∧ seen who (lfAt ls i) = true
theorem up_at {ls : List Lf} {who : Lab} (h : PageOk ls) {k : Nat} (hk : k < ls.length) (hs : seen who (lfAt ls k) = true) : At ls who (lfAt ls k).1 ∧ (lfAt ls k).1 < k := by
  have h1 := h.2 k hk
  refine ⟨?_, h1.2.1.2⟩
  by_cases h0 : (lfAt ls k).1 < 0
  · left; omega
  · right
    obtain ⟨u, hu⟩ := Int.eq_ofNat_of_zero_le (show 0 ≤ (lfAt ls k).1 by omega)
    refine ⟨u, by omega, hu, ?_⟩
    have := h1.2.2 (by omega)
    rw [hu, Int.toNat_natCast] at this
    exact leB_trans this hs
theorem inV_inj {ls : List Lf} {who : Lab} {a b : Int} (ha : At ls who a) (hb : At ls who b) : inV (seen who) ls a = inV (seen who) ls b ↔ a = b := by
  constructor
  · intro h
    rcases ha with rfl | ⟨i, hi, rfl, si⟩ <;> rcases hb with rfl | ⟨j, hj, rfl, sj⟩
    · rfl
    · unfold inV at h; rw [if_pos (by omega), if_neg (by omega)] at h; omega
    · unfold inV at h; rw [if_neg (by omega), if_pos (by omega)] at h; omega
    · unfold inV at h
      rw [if_neg (by omega), if_neg (by omega), Int.toNat_natCast, Int.toNat_natCast] at h
      rw [lf_at hi] at si
      rw [lf_at hj] at sj
      rcases Nat.lt_trichotomy i j with h1 | h1 | h1
      · have := cntK_lt (so := seen who) h1 hi si; omega
      · rw [h1]
      · have := cntK_lt (so := seen who) h1 hj sj; omega
  · intro h; rw [h]
theorem below_view {ls : List Lf} {who : Lab} (h : PageOk ls) {a : Int} (ha : At ls who a) : ∀ k, k ≤ ls.length →
    belowTo (viewL ls who) who (inV (seen who) ls a) (cntK (seen who) ls k) = (belowTo ls who a k).map (inV (seen who) ls) := by
  intro k
  induction k with
  | zero => intro _; rfl
  | succ k ih =>
    intro hk
    rw [cntK_succ (show k < ls.length by omega), ← lf_at (show k < ls.length by omega)]
    show _ = (belowTo ls who a k ++ _).map _
    rw [List.map_append, ← ih (by omega)]
    cases hs : seen who (lfAt ls k)
    · rw [if_neg (by simp), if_neg (by simp)]; simp
    · rw [if_pos rfl]
      show belowTo _ _ _ _ ++ _ = _
      have hv := (view_at (so := seen who) (show k < ls.length by omega) hs).2
      have hu := up_at h (show k < ls.length by omega) hs
      have e1 : (lfAt (viewL ls who) (cntK (seen who) ls k)).1 = inV (seen who) ls (lfAt ls k).1 := by
        show (lfAt (viewK (seen who) ls) _).1 = _
        rw [hv]; rfl
      have e2 : seen who (lfAt (viewL ls who) (cntK (seen who) ls k)) = true := by
        show seen who (lfAt (viewK (seen who) ls) _) = true
        rw [hv]
        exact hs
      rw [e1, e2]
      congr 1
      by_cases hx : (lfAt ls k).1 = a
      · rw [if_pos ⟨by rw [hx], rfl⟩, if_pos ⟨hx, rfl⟩]
        simp [inV]; omega
      · rw [if_neg (fun ⟨h1, _⟩ => hx ((inV_inj hu.1 ha).1 h1)), if_neg (fun ⟨h1, _⟩ => hx h1)]
        rfl
theorem belowL_view {ls : List Lf} {who : Lab} (h : PageOk ls) {a : Int} (ha : At ls who a) : belowL (viewL ls who) who (inV (seen who) ls a) = (belowL ls who a).map (inV (seen who) ls) := by
  unfold belowL
  rw [← below_view h ha _ (Nat.le_refl _), cntK_len]
  rfl
theorem belowL_at {ls : List Lf} {who : Lab} {a : Int} {p : Nat} (hp : p < (belowL ls who a).length) : ∃ i, i < ls.length ∧ (belowL ls who a).getD p 0 = (i : Int) ∧ (lfAt ls i).1 = a ∧ seen who (lfAt ls i) = true := by
  have e : (belowL ls who a).getD p 0 = (belowL ls who a)[p] := by rw [List.getD_eq_getElem?_getD, List.getElem?_eq_getElem hp]; rfl
  obtain ⟨i, h1, h2, h3⟩ := belowTo_mem (List.getElem_mem hp)
  exact ⟨i, h1, by rw [e]; exact h2, h3⟩
theorem goF_view {ls : List Lf} {who : Lab} (h : PageOk ls) : ∀ (ps : List Int) (a : Int), At ls who a → goF (viewL ls who) who (inV (seen who) ls a) ps = (goF ls who a ps).map (inV (seen who) ls)
  | [], a, ha => rfl
  | p :: ps, a, ha => by
    unfold goF
    rw [belowL_view h ha, List.length_map]
    by_cases hp : 0 ≤ p ∧ p < (belowL ls who a).length
    · rw [if_pos hp, if_pos hp]
      obtain ⟨i, h1, h2, h3⟩ := belowL_at (ls := ls) (who := who) (a := a) (p := p.toNat) (by omega)
      have e : ((belowL ls who a).map (inV (seen who) ls)).getD p.toNat 0 = inV (seen who) ls ((belowL ls who a).getD p.toNat 0) := by
        have hl : p.toNat < (belowL ls who a).length := by omega
        rw [List.getD_eq_getElem?_getD, List.getD_eq_getElem?_getD, List.getElem?_map, List.getElem?_eq_getElem hl]; rfl
      rw [e]
      exact goF_view h ps _ (by rw [h2]; exact .inr ⟨i, h1, rfl, h3.2⟩)
    · rw [if_neg hp, if_neg hp]; rfl
theorem goF_at {ls : List Lf} {who : Lab} : ∀ (ps : List Int) (a b : Int), goF ls who a ps = some b → ps ≠ [] → ∃ i, i < ls.length ∧ b = (i : Int) ∧ seen who (lfAt ls i) = true
  | [], a, b, h, hne => absurd rfl hne
  | p :: ps, a, b, h, _ => by
    unfold goF at h
    by_cases hp : 0 ≤ p ∧ p < (belowL ls who a).length
    · rw [if_pos hp] at h
      cases ps with
      | nil =>
        obtain ⟨i, h1, h2, h3⟩ := belowL_at (ls := ls) (who := who) (a := a) (p := p.toNat) (by omega)
        have : (belowL ls who a).getD p.toNat 0 = b := Option.some.inj h
        exact ⟨i, h1, by rw [← this, h2], h3.2⟩
      | cons q qs => exact goF_at (q :: qs) _ b h (by simp)
    · rw [if_neg hp] at h; cases h
theorem goF_step {ls : List Lf} {who : Lab} {a : Int} {ps : List Int} {k : Nat} (h : k < ps.length) : goF ls who a (ps.drop k) = if 0 ≤ ps[k] ∧ ps[k] < (belowL ls who a).length then goF ls who ((belowL ls who a).getD (ps[k]).toNat 0) (ps.drop (k + 1)) else none := by
  rw [List.drop_eq_getElem_cons h]
  rfl
end Go.Proofs.Ytjcooagchjjknaa
