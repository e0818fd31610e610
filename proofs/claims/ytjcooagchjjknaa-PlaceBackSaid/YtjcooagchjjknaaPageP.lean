/- Pages: plain facts, with no program in sight. -/
import Derived.Test.YtjcooagchjjknaaLabG
import Derived.Test.YtjcooagchjjknaaLeaf
namespace Go.Proofs.Ytjcooagchjjknaa
open Go Go.RowKit

def lab (x : Lf) : Lab := x.2.2
def lf0 : Lf := (0, 0, 0, 0#32)
def lfAt (ls : List Lf) (i : Nat) : Lf := ls.getD i lf0
theorem lfAt_eq (ls : List Lf) (i : Nat) (h : i < ls.length) : lfAt ls i = ls[i] := by
  unfold lfAt
  rw [List.getD_eq_getElem?_getD, List.getElem?_eq_getElem h]
  rfl
/-- what is wrong with a leaf -/
def pgAt (ls : List Lf) (i : Nat) : Int :=
  if labOk (lab (lfAt ls i)) = false then 4 else if (lfAt ls i).1 < -1 ∨ (i : Int) ≤ (lfAt ls i).1 then 2
  else if 0 ≤ (lfAt ls i).1 ∧ leB (lab (lfAt ls (lfAt ls i).1.toNat)) (lab (lfAt ls i)) = false then 3 else 0
def pageTo (ls : List Lf) : Nat → Int
  | 0 => 0
  | k + 1 => if pageTo ls k ≠ 0 then pageTo ls k else pgAt ls k
def pageF (ls : List Lf) : Int := if 40 < ls.length then 1 else pageTo ls ls.length
theorem pageTo_zero {ls : List Lf} : ∀ {k : Nat}, pageTo ls k = 0 ↔ ∀ i, i < k → pgAt ls i = 0 := by
  intro k
  induction k with
  | zero => simp [pageTo]
  | succ k ih =>
    show (if pageTo ls k ≠ 0 then pageTo ls k else pgAt ls k) = 0 ↔ _
    by_cases h : pageTo ls k = 0
    · rw [if_neg (by simp [h])]
      have h2 := ih.1 h
      constructor
      · intro h3 i hi
        by_cases e : i = k
        · subst e; exact h3
        · exact h2 i (by omega)
      · intro h3; exact h3 k (by omega)
    · rw [if_pos h]
      constructor
      · intro h3; exact absurd h3 h
      · intro h3; exact absurd (ih.2 fun i hi => h3 i (by omega)) h
theorem pageTo_stop {ls : List Lf} {k : Nat} {e : Int} (h0 : pageTo ls k = 0) (h : pgAt ls k = e) (he : e ≠ 0) : ∀ m, k < m → pageTo ls m = e := by
  intro m
  induction m with
  | zero => intro h; omega
  | succ m ih =>
    intro hm
    show (if pageTo ls m ≠ 0 then pageTo ls m else pgAt ls m) = e
    by_cases hk : k = m
    · subst hk
      rw [if_neg (by simp [h0]), h]
    · rw [ih (by omega), if_pos he]
/-- a page -/
def PageOk (ls : List Lf) : Prop := ls.length ≤ 40 ∧ ∀ i, i < ls.length → labOk (lab (lfAt ls i)) = true ∧ (-1 ≤ (lfAt ls i).1 ∧ (lfAt ls i).1 < i) ∧ (0 ≤ (lfAt ls i).1 → leB (lab (lfAt ls (lfAt ls i).1.toNat)) (lab (lfAt ls i)) = true)
theorem pgAt_zero {ls : List Lf} {i : Nat} : pgAt ls i = 0 ↔ labOk (lab (lfAt ls i)) = true ∧ (-1 ≤ (lfAt ls i).1 ∧ (lfAt ls i).1 < i) ∧ (0 ≤ (lfAt ls i).1 → leB (lab (lfAt ls (lfAt ls i).1.toNat)) (lab (lfAt ls i)) = true) := by
  unfold pgAt
  constructor
  · intro h
    split at h
    · exact absurd h (by decide)
    rename_i h1
    split at h
    · exact absurd h (by decide)
    rename_i h2
    split at h
    · exact absurd h (by decide)
    rename_i h3
    refine ⟨by simpa using h1, by omega, fun h4 => ?_⟩
    cases hb : leB (lab (lfAt ls (lfAt ls i).1.toNat)) (lab (lfAt ls i))
    · exact absurd ⟨h4, hb⟩ h3
    · rfl
  · rintro ⟨h1, h2, h3⟩
    rw [if_neg (by rw [h1]; simp), if_neg (by omega), if_neg]
    rintro ⟨h4, h5⟩
    rw [h3 h4] at h5
    cases h5
theorem pageF_zero {ls : List Lf} : pageF ls = 0 ↔ PageOk ls := by
  unfold pageF PageOk
  constructor
  · intro h
    split at h
    · exact absurd h (by decide)
    · exact ⟨by omega, fun i hi => pgAt_zero.1 (pageTo_zero.1 h i hi)⟩
  · rintro ⟨h1, h2⟩
    rw [if_neg (by omega)]
    exact pageTo_zero.2 fun i hi => pgAt_zero.2 (h2 i hi)
theorem leB_refl (a : Lab) : leB a a = true := by unfold leB; rw [subB_refl]; simp
theorem leB_trans {a b c : Lab} (h : leB a b = true) (k : leB b c = true) : leB a c = true := by
  unfold leB at h k ⊢
  rw [Bool.and_eq_true, decide_eq_true_eq] at h k ⊢
  exact ⟨by omega, subB_trans h.2 k.2⟩
theorem leB_meet (x a b : Lab) : leB x (meetL a b) = (leB x a && leB x b) := by
  unfold leB meetL
  rw [subB_and]
  have e : decide (x.1 ≤ min a.1 b.1) = (decide (x.1 ≤ a.1) && decide (x.1 ≤ b.1)) := by
    rw [Bool.eq_iff_iff]; simp; omega
  simp only [e]
  cases decide (x.1 ≤ a.1) <;> cases decide (x.1 ≤ b.1) <;> cases subB x.2 a.2 <;> cases subB x.2 b.2 <;> rfl
/-- is a leaf seen? -/
def seen (who : Lab) (x : Lf) : Bool := leB (lab x) who
/-- how many of the first k are kept -/
def cntK (so : Lf → Bool) (ls : List Lf) (k : Nat) : Nat := ((ls.take k).filter so).length
def renK (so : Lf → Bool) (ls : List Lf) (x : Lf) : Lf := (if x.1 < 0 then x.1 else ((cntK so ls x.1.toNat : Nat) : Int), x.2)
def viewK (so : Lf → Bool) (ls : List Lf) : List Lf := (ls.filter so).map (renK so ls)
def viewTo (so : Lf → Bool) (ls : List Lf) (k : Nat) : List Lf := ((ls.take k).filter so).map (renK so ls)
def viewL (ls : List Lf) (who : Lab) : List Lf := viewK (seen who) ls
theorem lab_ren (so : Lf → Bool) (ls : List Lf) (x : Lf) : lab (renK so ls x) = lab x := rfl
theorem cntK_succ {so : Lf → Bool} {ls : List Lf} {k : Nat} (h : k < ls.length) : cntK so ls (k + 1) = cntK so ls k + if so ls[k] then 1 else 0 := by
  unfold cntK
  rw [take_snoc _ _ h, List.filter_append, List.length_append, List.filter_cons, List.filter_nil]
  split <;> rfl
theorem cntK_mono {so : Lf → Bool} {ls : List Lf} {i j : Nat} (h : i ≤ j) : cntK so ls i ≤ cntK so ls j := by
  unfold cntK
  rw [← List.countP_eq_length_filter, ← List.countP_eq_length_filter]
  exact List.Sublist.countP_le ((List.take_prefix_take_left h).sublist)
theorem cntK_lt {so : Lf → Bool} {ls : List Lf} {i j : Nat} (hj : i < j) (hi : i < ls.length) (h : so ls[i] = true) : cntK so ls i < cntK so ls j := by
  have h1 := cntK_succ (so := so) hi
  rw [h, if_pos rfl] at h1
  have h2 := cntK_mono (so := so) (ls := ls) (i := i + 1) (j := j) (by omega)
  omega
theorem viewTo_len (so : Lf → Bool) (ls : List Lf) (k : Nat) : (viewTo so ls k).length = cntK so ls k := by unfold viewTo cntK; rw [List.length_map]
theorem viewTo_succ {so : Lf → Bool} {ls : List Lf} {k : Nat} (h : k < ls.length) : viewTo so ls (k + 1) = viewTo so ls k ++ if so ls[k] then [renK so ls ls[k]] else [] := by
  unfold viewTo
  rw [take_snoc _ _ h, List.filter_append, List.map_append, List.filter_cons, List.filter_nil]
  split <;> rfl
theorem viewTo_all (so : Lf → Bool) (ls : List Lf) : viewTo so ls ls.length = viewK so ls := by unfold viewTo viewK; rw [List.take_length]
theorem filter_take {so : Lf → Bool} : ∀ (ls : List Lf) (k : Nat), (ls.filter so).take (((ls.take k).filter so).length) = (ls.take k).filter so := by
  intro ls k
  have h : ls.filter so = (ls.take k).filter so ++ (ls.drop k).filter so := by rw [← List.filter_append, List.take_append_drop]
  rw [h, List.take_left]
theorem kept_at {so : Lf → Bool} {ls : List Lf} {i : Nat} (hi : i < ls.length) (h : so ls[i] = true) : (ls.filter so)[cntK so ls i]? = some ls[i] := by
  have e : ls.filter so = (ls.take i).filter so ++ (ls.drop i).filter so := by rw [← List.filter_append, List.take_append_drop]
  rw [e]
  unfold cntK
  rw [List.getElem?_append_right (Nat.le_refl _), Nat.sub_self, List.drop_eq_getElem_cons hi, List.filter_cons, if_pos h]
  rfl
theorem kept_from {so : Lf → Bool} {ls : List Lf} {j : Nat} (hj : j < (ls.filter so).length) : ∃ i, ∃ hi : i < ls.length, so ls[i] = true ∧ cntK so ls i = j := by
  have : ∀ k, k ≤ ls.length → j < cntK so ls k → ∃ i, ∃ hi : i < ls.length, so ls[i] = true ∧ cntK so ls i = j := by
    intro k
    induction k with
    | zero => intro _ h; simp [cntK] at h
    | succ k ih =>
      intro hk h
      by_cases h2 : j < cntK so ls k
      · exact ih (by omega) h2
      · have h3 := cntK_succ (so := so) (ls := ls) (k := k) (by omega)
        by_cases h4 : so (ls[k]'(by omega)) = true
        · rw [h4, if_pos rfl] at h3
          exact ⟨k, by omega, h4, by omega⟩
        · rw [if_neg h4] at h3
          omega
  exact this ls.length (Nat.le_refl _) (by unfold cntK; rw [List.take_length]; exact hj)
/-- what stays of a page is one, where with each leaf the one above it stays -/
theorem viewK_ok {so : Lf → Bool} {ls : List Lf} (h : PageOk ls) (hup : ∀ i, (hi : i < ls.length) → so ls[i] = true → 0 ≤ ls[i].1 → so (lfAt ls ls[i].1.toNat) = true) : PageOk (viewK so ls) := by
  have hlen : (viewK so ls).length = (ls.filter so).length := by unfold viewK; rw [List.length_map]
  refine ⟨by rw [hlen]; exact Nat.le_trans (List.length_filter_le _ _) h.1, fun j hj => ?_⟩
  rw [hlen] at hj
  obtain ⟨i, hi, hs, hc⟩ := kept_from hj
  have at_ : ∀ i, (hi : i < ls.length) → so ls[i] = true → lfAt (viewK so ls) (cntK so ls i) = renK so ls ls[i] := by
    intro i hi hs
    unfold lfAt viewK
    rw [List.getD_eq_getElem?_getD, List.getElem?_map, kept_at hi hs]
    rfl
  have hj2 := at_ i hi hs
  rw [hc] at hj2
  rw [hj2]
  obtain ⟨h1, h2, h3⟩ := h.2 i hi
  rw [lfAt_eq ls i hi] at h1 h2 h3
  rw [lab_ren]
  refine ⟨h1, ?_, ?_⟩
  · unfold renK
    simp only
    split
    · omega
    · have hu : ls[i].1.toNat < ls.length := by omega
      have := hup i hi hs (by omega)
      rw [lfAt_eq ls _ hu] at this
      have := cntK_lt (so := so) (i := ls[i].1.toNat) (j := i) (by omega) hu this
      omega
  · intro h0
    unfold renK at h0 ⊢
    simp only at h0 ⊢
    split at h0
    · omega
    · rename_i hn
      rw [if_neg hn]
      have hu : ls[i].1.toNat < ls.length := by omega
      have hs2 := hup i hi hs (by omega)
      rw [lfAt_eq ls _ hu] at hs2
      rw [Int.toNat_natCast, at_ _ hu hs2, lab_ren]
      have := h3 (by omega)
      rw [lfAt_eq ls _ hu] at this
      exact this
theorem seen_up {ls : List Lf} {who : Lab} (h : PageOk ls) : ∀ i, (hi : i < ls.length) → seen who ls[i] = true → 0 ≤ ls[i].1 → seen who (lfAt ls ls[i].1.toNat) = true := by
  intro i hi hs h0
  have := (h.2 i hi).2.2
  rw [lfAt_eq ls i hi] at this
  exact leB_trans (this h0) hs
theorem viewL_ok {ls : List Lf} (h : PageOk ls) (who : Lab) : PageOk (viewL ls who) := viewK_ok h (seen_up h)
theorem viewL_le (ls : List Lf) (who : Lab) : (viewL ls who).length ≤ ls.length := by
  unfold viewL viewK
  rw [List.length_map]
  exact List.length_filter_le _ _
theorem viewL_twice (ls : List Lf) (a b : Lab) : viewL (viewL ls a) b = viewL ls (meetL a b) := by
  have hs : seen (meetL a b) = fun x => seen a x && seen b x := by funext x; exact leB_meet (lab x) a b
  have hfil : ∀ l : List Lf, ((l.filter (seen a)).filter (seen b)) = l.filter (seen (meetL a b)) := by
    intro l
    rw [List.filter_filter, hs]
    congr 1
    funext x
    exact Bool.and_comm _ _
  have hcomp : (fun x => seen b (renK (seen a) ls x)) = seen b := rfl
  unfold viewL viewK
  rw [List.filter_map, List.map_map]
  show List.map _ ((ls.filter (seen a)).filter (seen b)) = _
  rw [hfil]
  apply List.map_congr_left
  intro x _
  show renK (seen b) _ (renK (seen a) ls x) = renK (seen (meetL a b)) ls x
  unfold renK
  simp only
  by_cases h0 : x.1 < 0
  · rw [if_pos h0, if_pos h0, if_pos h0]
  · rw [if_neg h0, if_neg h0, if_neg (by omega)]
    congr 1
    rw [Int.toNat_natCast]
    congr 1
    unfold cntK
    rw [← List.map_take, filter_take, List.filter_map, List.length_map]
    show (((ls.take x.1.toNat).filter (seen a)).filter (seen b)).length = _
    rw [hfil]
end Go.Proofs.Ytjcooagchjjknaa
