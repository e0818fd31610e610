/- Pages from which some places are taken: plain facts, with no program in sight. -/
import Derived.Test.YtjcooagchjjknaaPlaceP
namespace Go.Proofs.Ytjcooagchjjknaa
open Go
set_option linter.unusedVariables false

/-- how many of the first k places are kept -/
def cntI (g : Nat → Bool) : Nat → Nat
  | 0 => 0
  | k + 1 => cntI g k + if g k then 1 else 0
def renI (g : Nat → Bool) (x : Lf) : Lf := (if x.1 < 0 then x.1 else ((cntI g x.1.toNat : Nat) : Int), x.2)
def selTo (g : Nat → Bool) (ls : List Lf) : Nat → List Lf
  | 0 => []
  | k + 1 => selTo g ls k ++ if g k then [renI g (lfAt ls k)] else []
def selL (g : Nat → Bool) (ls : List Lf) : List Lf := selTo g ls ls.length
theorem cntI_yes {g : Nat → Bool} {k : Nat} (h : g k = true) : cntI g (k + 1) = cntI g k + 1 := by show cntI g k + _ = _; rw [h]; rfl
theorem cntI_no {g : Nat → Bool} {k : Nat} (h : g k = false) : cntI g (k + 1) = cntI g k := by show cntI g k + _ = _; rw [h]; rfl
theorem cntI_step (g : Nat → Bool) (k : Nat) : cntI g k ≤ cntI g (k + 1) := by
  show _ ≤ cntI g k + _
  omega
theorem cntI_mono {g : Nat → Bool} {i j : Nat} (h : i ≤ j) : cntI g i ≤ cntI g j := by
  induction j with
  | zero => obtain rfl : i = 0 := by omega
            exact Nat.le_refl _
  | succ j ih =>
    by_cases e : i = j + 1
    · subst e; exact Nat.le_refl _
    · exact Nat.le_trans (ih (by omega)) (cntI_step g j)
theorem cntI_lt {g : Nat → Bool} {i j : Nat} (h : i < j) (hi : g i = true) : cntI g i < cntI g j := by
  have := cntI_mono (g := g) (i := i + 1) (j := j) h
  rw [cntI_yes hi] at this
  omega
theorem cntI_inj {g : Nat → Bool} {i j : Nat} (hi : g i = true) (hj : g j = true) (h : cntI g i = cntI g j) : i = j := by
  rcases Nat.lt_trichotomy i j with h1 | h1 | h1
  · have := cntI_lt h1 hi; omega
  · exact h1
  · have := cntI_lt h1 hj; omega
theorem cntI_le (g : Nat → Bool) : ∀ k, cntI g k ≤ k := by
  intro k
  induction k with
  | zero => exact Nat.le_refl _
  | succ k ih => show cntI g k + _ ≤ _; split <;> omega
theorem cntI_congr {g h : Nat → Bool} : ∀ k, (∀ i, i < k → g i = h i) → cntI g k = cntI h k := by
  intro k
  induction k with
  | zero => intro _; rfl
  | succ k ih => intro e; show cntI g k + _ = cntI h k + _; rw [ih (fun i hi => e i (by omega)), e k (by omega)]
theorem cntI_from {g : Nat → Bool} {k j : Nat} (h : j < cntI g k) : ∃ i, i < k ∧ g i = true ∧ cntI g i = j := by
  induction k with
  | zero => exact absurd h (by show ¬ j < 0; omega)
  | succ k ih =>
    by_cases h2 : j < cntI g k
    · obtain ⟨i, h3, h4⟩ := ih h2
      exact ⟨i, by omega, h4⟩
    · cases hg : g k
      · rw [cntI_no hg] at h; omega
      · rw [cntI_yes hg] at h; exact ⟨k, by omega, hg, by omega⟩
theorem cntI_comp (g h : Nat → Bool) : ∀ k, cntI (fun i => g i && h (cntI g i)) k = cntI h (cntI g k) := by
  intro k
  induction k with
  | zero => rfl
  | succ k ih =>
    cases hg : g k
    · rw [cntI_no hg, cntI_no (by show (g k && _) = false; rw [hg]; rfl), ih]
    · rw [cntI_yes hg]
      show cntI _ k + (if g k && h (cntI g k) then 1 else 0) = cntI h (cntI g k) + (if h (cntI g k) then 1 else 0)
      rw [ih, hg, Bool.true_and]
theorem selTo_len (g : Nat → Bool) (ls : List Lf) : ∀ k, (selTo g ls k).length = cntI g k := by
  intro k
  induction k with
  | zero => rfl
  | succ k ih =>
    show (selTo g ls k ++ _).length = cntI g k + _
    rw [List.length_append, ih]
    split <;> rfl
theorem selL_len (g : Nat → Bool) (ls : List Lf) : (selL g ls).length = cntI g ls.length := selTo_len g ls _
theorem lfAt_app {a b : List Lf} {i : Nat} (h : i < a.length) : lfAt (a ++ b) i = lfAt a i := by
  rw [lf_at (by rw [List.length_append]; omega), lf_at h, List.getElem_append_left h]
theorem lfAt_last (a : List Lf) (x : Lf) : lfAt (a ++ [x]) a.length = x := by
  rw [lf_at (by simp), List.getElem_append_right (Nat.le_refl _)]
  simp
theorem selTo_at {g : Nat → Bool} {ls : List Lf} : ∀ k i, i < k → g i = true → lfAt (selTo g ls k) (cntI g i) = renI g (lfAt ls i) := by
  intro k
  induction k with
  | zero => intro i h; omega
  | succ k ih =>
    intro i hi hg
    show lfAt (selTo g ls k ++ _) _ = _
    by_cases e : i = k
    · subst e
      rw [hg]
      have := lfAt_last (selTo g ls i) (renI g (lfAt ls i))
      rw [selTo_len] at this
      exact this
    · rw [lfAt_app (by rw [selTo_len]; exact cntI_lt (by omega) hg)]
      exact ih i (by omega) hg
theorem sel_at {g : Nat → Bool} {ls : List Lf} {i : Nat} (h : i < ls.length) (hg : g i = true) : cntI g i < (selL g ls).length ∧ lfAt (selL g ls) (cntI g i) = renI g (lfAt ls i) :=
  ⟨by rw [selL_len]; exact cntI_lt h hg, selTo_at _ _ h hg⟩
theorem lf_ext {a b : List Lf} (hl : a.length = b.length) (h : ∀ i, i < a.length → lfAt a i = lfAt b i) : a = b := by
  apply List.ext_getElem hl
  intro i h1 h2
  have := h i h1
  rw [lf_at h1, lf_at h2] at this
  exact this
/-- what is told of the places that are kept tells all -/
theorem sel_ext {g : Nat → Bool} {ls vs : List Lf} (hl : vs.length = cntI g ls.length) (h : ∀ i, i < ls.length → g i = true → lfAt vs (cntI g i) = renI g (lfAt ls i)) : vs = selL g ls := by
  apply lf_ext (by rw [hl, selL_len])
  intro j hj
  rw [hl] at hj
  obtain ⟨i, h1, h2, rfl⟩ := cntI_from hj
  rw [h i h1 h2, (sel_at h1 h2).2]
theorem renI_comp (g h : Nat → Bool) (x : Lf) : renI h (renI g x) = renI (fun i => g i && h (cntI g i)) x := by
  unfold renI
  by_cases h0 : x.1 < 0
  · simp only [h0, if_true]
  · simp only [h0, if_false]
    rw [if_neg (by omega), Int.toNat_natCast, cntI_comp]
theorem sel_sel (g h : Nat → Bool) (ls : List Lf) : selL h (selL g ls) = selL (fun i => g i && h (cntI g i)) ls := by
  apply sel_ext
  · rw [selL_len, selL_len, cntI_comp]
  · intro i hi hg
    have hg : (g i && h (cntI g i)) = true := hg
    rw [Bool.and_eq_true] at hg
    obtain ⟨h1, h2⟩ := sel_at hi hg.1
    rw [cntI_comp, (sel_at h1 hg.2).2, h2, renI_comp]
/-- a page whose leaves stand below earlier ones -/
def UpOk (ls : List Lf) : Prop := ∀ i, i < ls.length → -1 ≤ (lfAt ls i).1 ∧ (lfAt ls i).1 < i
theorem PageOk.up {ls : List Lf} (h : PageOk ls) : UpOk ls := fun i hi => (h.2 i hi).2.1
theorem renI_congr {g h : Nat → Bool} {x : Lf} {k : Nat} (hx : x.1 < k) (e : ∀ i, i < k → g i = h i) : renI g x = renI h x := by
  unfold renI
  split
  · rfl
  · rw [cntI_congr x.1.toNat fun i hi => e i (by omega)]
theorem sel_congr {g h : Nat → Bool} {ls : List Lf} (hu : UpOk ls) (e : ∀ i, i < ls.length → g i = h i) : selL g ls = selL h ls := by
  apply sel_ext
  · rw [selL_len, cntI_congr _ e]
  · intro i hi hg
    rw [← e i hi] at hg
    rw [← cntI_congr i (fun j hj => e j (by omega)), (sel_at hi hg).2, renI_congr (hu i hi).2 fun j hj => e j (by omega)]
/-- the view, as places -/
def seenI (ls : List Lf) (who : Lab) (i : Nat) : Bool := seen who (lfAt ls i)
theorem cntK_is (so : Lf → Bool) (ls : List Lf) : ∀ k, k ≤ ls.length → cntK so ls k = cntI (fun i => so (lfAt ls i)) k := by
  intro k
  induction k with
  | zero => intro _; rfl
  | succ k ih =>
    intro hk
    rw [cntK_succ (show k < ls.length by omega), ih (by omega), ← lf_at (show k < ls.length by omega)]
    rfl
theorem view_sel {ls : List Lf} (hu : UpOk ls) (who : Lab) : viewL ls who = selL (seenI ls who) ls := by
  apply sel_ext
  · show (viewL ls who).length = cntI (fun i => seen who (lfAt ls i)) ls.length
    rw [← cntK_is (seen who) ls _ (Nat.le_refl _), cntK_len]; rfl
  · intro i hi hg
    rw [show cntI (seenI ls who) i = cntK (seen who) ls i from (cntK_is (seen who) ls i (by omega)).symm]
    have := (view_at (so := seen who) hi hg).2
    show lfAt (viewK (seen who) ls) _ = _
    rw [this]
    unfold renK renI
    split
    · rfl
    · rw [cntK_is (seen who) ls _ (by have := hu i hi; omega)]
      rfl
theorem lab_renI (g : Nat → Bool) (x : Lf) : lab (renI g x) = lab x := rfl
theorem seen_renI (g : Nat → Bool) (who : Lab) (x : Lf) : seen who (renI g x) = seen who x := rfl
/-- what is kept of a page is one, where with each leaf the one above it is kept -/
theorem sel_ok {g : Nat → Bool} {ls : List Lf} (h : PageOk ls) (hup : ∀ i, i < ls.length → g i = true → 0 ≤ (lfAt ls i).1 → g (lfAt ls i).1.toNat = true) : PageOk (selL g ls) := by
  refine ⟨by rw [selL_len]; exact Nat.le_trans (cntI_le g _) h.1, fun j hj => ?_⟩
  rw [selL_len] at hj
  obtain ⟨i, hi, hg, rfl⟩ := cntI_from hj
  rw [(sel_at hi hg).2, lab_renI]
  obtain ⟨h1, h2, h3⟩ := h.2 i hi
  refine ⟨h1, ?_, fun h0 => ?_⟩
  · unfold renI
    simp only
    split
    · omega
    · have := cntI_lt (g := g) (i := (lfAt ls i).1.toNat) (j := i) (by omega) (hup i hi hg (by omega))
      omega
  · unfold renI at h0 ⊢
    simp only at h0 ⊢
    split at h0
    · omega
    · rename_i hn
      rw [if_neg hn, Int.toNat_natCast]
      have hu : (lfAt ls i).1.toNat < ls.length := by omega
      rw [(sel_at hu (hup i hi hg (by omega))).2, lab_renI]
      exact h3 (by omega)

/-! ### a leaf more -/
def but (a : Nat) (i : Nat) : Bool := decide (i ≠ a)
theorem cnt_but (a : Nat) : ∀ k, cntI (but a) k = if k ≤ a then k else k - 1 := by
  intro k
  induction k with
  | zero => rw [if_pos (Nat.zero_le _)]; rfl
  | succ k ih =>
    by_cases e : k = a
    · subst e
      rw [cntI_no (by simp [but]), ih]
      rw [if_pos (Nat.le_refl _), if_neg (by omega)]
      omega
    · rw [cntI_yes (by simp [but, e]), ih]
      by_cases h : k ≤ a
      · rw [if_pos h, if_pos (by omega)]
      · rw [if_neg h, if_neg (by omega)]; omega
def shiftU (a : Nat) (x : Lf) : Lf := if (a : Int) ≤ x.1 then (x.1 + 1, x.2) else x
def putL (ls : List Lf) (a : Nat) (x : Lf) : List Lf := ls.take a ++ [x] ++ (ls.drop a).map (shiftU a)
section
variable {ls : List Lf} {a : Nat} {x : Lf}
theorem put_len (ha : a ≤ ls.length) : (putL ls a x).length = ls.length + 1 := by
  unfold putL
  simp
  omega
theorem put_lo (ha : a ≤ ls.length) {i : Nat} (hi : i < a) : lfAt (putL ls a x) i = lfAt ls i := by
  unfold putL
  rw [lfAt_app (by simp; omega), lfAt_app (by simp; omega)]
  unfold lfAt
  rw [List.getD_eq_getElem?_getD, List.getD_eq_getElem?_getD, List.getElem?_take, if_pos hi]
theorem put_at (ha : a ≤ ls.length) : lfAt (putL ls a x) a = x := by
  unfold putL
  rw [lfAt_app (by simp; omega)]
  have := lfAt_last (ls.take a) x
  rw [List.length_take, Nat.min_eq_left ha] at this
  exact this
theorem put_hi (ha : a ≤ ls.length) {i : Nat} (hi : a ≤ i) (hl : i < ls.length) : lfAt (putL ls a x) (i + 1) = shiftU a (lfAt ls i) := by
  rw [lf_at (by rw [put_len ha]; omega), lf_at hl]
  unfold putL
  rw [List.getElem_append_right (by simp; omega)]
  simp only [List.getElem_map, List.getElem_drop]
  congr 2
  simp
  omega
/-- all but the new one are what was there -/
theorem put_sel (hu : UpOk ls) (ha : a ≤ ls.length) (hx : x.1 < a) : selL (but a) (putL ls a x) = ls := by
  symm
  apply sel_ext
  · rw [put_len ha, cnt_but, if_neg (by omega)]; rfl
  · intro i hi hg
    rw [put_len ha] at hi
    have hne : i ≠ a := by simpa [but] using hg
    rw [cnt_but]
    by_cases h : i ≤ a
    · rw [if_pos h, put_lo ha (by omega)]
      unfold renI
      have hui := hu i (by omega)
      split
      · rfl
      · rw [cnt_but, if_pos (by omega)]
        have e : ((lfAt ls i).1.toNat : Int) = (lfAt ls i).1 := by omega
        rw [e]
    · rw [if_neg h]
      obtain ⟨j, rfl⟩ : ∃ j, i = j + 1 := ⟨i - 1, by omega⟩
      rw [put_hi ha (by omega) (by omega), Nat.add_sub_cancel]
      have hui := hu j (by omega)
      unfold shiftU
      by_cases h2 : (a : Int) ≤ (lfAt ls j).1
      · rw [if_pos h2]
        unfold renI
        simp only
        rw [if_neg (by omega), cnt_but, if_neg (by omega)]
        have e : (((lfAt ls j).1 + 1).toNat - 1 : Nat) = (lfAt ls j).1.toNat := by omega
        rw [e]
        have e2 : ((lfAt ls j).1.toNat : Int) = (lfAt ls j).1 := by omega
        rw [e2]
      · rw [if_neg h2]
        unfold renI
        split
        · rfl
        · rw [cnt_but, if_pos (by omega)]
          have e2 : ((lfAt ls j).1.toNat : Int) = (lfAt ls j).1 := by omega
          rw [e2]
/-- nobody stands below the new one -/
theorem put_none (hu : UpOk ls) (ha : a ≤ ls.length) (hx : x.1 < a) : ∀ i, i < (putL ls a x).length → (lfAt (putL ls a x) i).1 ≠ a := by
  intro i hi
  rw [put_len ha] at hi
  by_cases h1 : i < a
  · rw [put_lo ha h1]
    have := hu i (by omega)
    omega
  · by_cases h2 : i = a
    · subst h2; rw [put_at ha]; omega
    · obtain ⟨j, rfl⟩ : ∃ j, i = j + 1 := ⟨i - 1, by omega⟩
      rw [put_hi ha (by omega) (by omega)]
      unfold shiftU
      split
      · simp only; omega
      · omega
/-- who is like that is that -/
theorem put_uniq {p : List Lf} (hl : p.length = ls.length + 1) (ha : a ≤ ls.length) (hs : selL (but a) p = ls) (hx : lfAt p a = x) (hn : ∀ i, i < p.length → (lfAt p i).1 ≠ a) (hu : UpOk p) : p = putL ls a x := by
  apply lf_ext (by rw [hl, put_len ha])
  intro i hi
  have hni := hn i hi
  have hui := hu i hi
  by_cases h1 : i < a
  · have := (sel_at (g := but a) hi (by simp [but]; omega)).2
    rw [hs, cnt_but, if_pos (by omega)] at this
    rw [put_lo ha h1, this]
    unfold renI
    rw [cnt_but]
    generalize lfAt p i = y at hni hui
    obtain ⟨u, t⟩ := y
    simp only at hni hui ⊢
    split
    · rfl
    · rw [if_pos (by omega)]
      have e : (u.toNat : Int) = u := by omega
      rw [e]
  · by_cases h2 : i = a
    · subst h2; rw [put_at ha, hx]
    · obtain ⟨j, rfl⟩ : ∃ j, i = j + 1 := ⟨i - 1, by omega⟩
      have := (sel_at (g := but a) hi (by simp [but]; omega)).2
      rw [hs, cnt_but, if_neg (by omega), Nat.add_sub_cancel] at this
      rw [put_hi ha (by omega) (by omega), this]
      unfold shiftU renI
      rw [cnt_but]
      generalize lfAt p (j + 1) = y at hni hui
      obtain ⟨u, t⟩ := y
      simp only at hni hui ⊢
      by_cases h3 : u < 0
      · rw [if_pos h3, if_neg (by omega)]
      · rw [if_neg h3]
        by_cases h4 : u.toNat ≤ a
        · rw [if_pos h4, if_neg (by omega)]
          have e : (u.toNat : Int) = u := by omega
          rw [e]
        · rw [if_neg h4, if_pos (by omega)]
          have e : ((u.toNat - 1 : Nat) : Int) + 1 = u := by omega
          rw [e]
theorem put_up (hu : UpOk ls) (ha : a ≤ ls.length) (h0 : -1 ≤ x.1) (hx : x.1 < a) : UpOk (putL ls a x) := by
  intro i hi
  rw [put_len ha] at hi
  by_cases h1 : i < a
  · rw [put_lo ha h1]; exact hu i (by omega)
  · by_cases h2 : i = a
    · subst h2; rw [put_at ha]; exact ⟨h0, hx⟩
    · obtain ⟨j, rfl⟩ : ∃ j, i = j + 1 := ⟨i - 1, by omega⟩
      rw [put_hi ha (by omega) (by omega)]
      have := hu j (by omega)
      unfold shiftU
      split
      · simp only; omega
      · omega
theorem lab_shift (y : Lf) : lab (shiftU a y) = lab y := by unfold shiftU lab; split <;> rfl
/-- a page with one more is a page -/
theorem put_ok (h : PageOk ls) (h40 : ls.length < 40) (ha : a ≤ ls.length) (h0 : -1 ≤ x.1) (hx : x.1 < a) (hlab : labOk (lab x) = true) (hle : 0 ≤ x.1 → leB (lab (lfAt ls x.1.toNat)) (lab x) = true) : PageOk (putL ls a x) := by
  have hu := put_up h.up ha h0 hx
  refine ⟨by rw [put_len ha]; omega, fun i hi => ⟨?_, hu i hi, fun hup => ?_⟩⟩
  · rw [put_len ha] at hi
    by_cases h1 : i < a
    · rw [put_lo ha h1]; exact (h.2 i (by omega)).1
    · by_cases h2 : i = a
      · subst h2; rw [put_at ha]; exact hlab
      · obtain ⟨j, rfl⟩ : ∃ j, i = j + 1 := ⟨i - 1, by omega⟩
        rw [put_hi ha (by omega) (by omega), lab_shift]
        exact (h.2 j (by omega)).1
  · rw [put_len ha] at hi
    by_cases h1 : i < a
    · rw [put_lo ha h1] at hup ⊢
      have := h.2 i (by omega)
      rw [put_lo ha (by omega)]
      exact this.2.2 hup
    · by_cases h2 : i = a
      · subst h2
        rw [put_at ha] at hup ⊢
        rw [put_lo ha (by omega)]
        exact hle hup
      · obtain ⟨j, rfl⟩ : ∃ j, i = j + 1 := ⟨i - 1, by omega⟩
        rw [put_hi ha (by omega) (by omega)] at hup ⊢
        rw [lab_shift]
        have hj := h.2 j (by omega)
        unfold shiftU at hup ⊢
        split at hup
        · rename_i h3
          rw [if_pos h3]
          simp only
          rw [show ((lfAt ls j).1 + 1).toNat = (lfAt ls j).1.toNat + 1 by omega, put_hi ha (by omega) (by omega), lab_shift]
          exact hj.2.2 (by omega)
        · rename_i h3
          rw [if_neg h3, put_lo ha (by omega)]
          exact hj.2.2 hup
/-- the view of a page with one more that is seen -/
theorem view_put (h : PageOk ls) (hp : PageOk (putL ls a x)) (ha : a ≤ ls.length) (hx : x.1 < a) {who : Lab} (hs : seen who x = true) :
    viewL (putL ls a x) who = putL (viewL ls who) (cntI (seenI ls who) a) (renI (seenI ls who) x) := by
  have hu := hp.up
  have hsel := put_sel h.up ha hx
  have hnone := put_none h.up ha hx
  have hlen := put_len (x := x) ha
  have hat := put_at (x := x) ha
  have hv := viewL_ok hp who
  rw [view_sel hu] at hv
  have hseen : ∀ i, i < (putL ls a x).length → seenI (putL ls a x) who i = true → 0 ≤ (lfAt (putL ls a x) i).1 → seenI (putL ls a x) who (lfAt (putL ls a x) i).1.toNat = true := by
    intro i hi hg h0
    have := seen_up hp i hi (who := who)
    rw [← lf_at hi] at this
    exact this hg h0
  have hg : ∀ i, i < (putL ls a x).length → but a i = true → seenI (putL ls a x) who i = seenI ls who (cntI (but a) i) := by
    intro i hi hb
    have := (sel_at hi hb).2
    rw [hsel] at this
    unfold seenI
    rw [this, seen_renI]
  have hga : seenI (putL ls a x) who a = true := by unfold seenI; rw [hat]; exact hs
  have hcnt : ∀ k, k ≤ a → cntI (seenI (putL ls a x) who) k = cntI (seenI ls who) k := by
    intro k hk
    apply cntI_congr
    intro i hi
    rw [hg i (by omega) (by simp [but]; omega), cnt_but, if_pos (by omega)]
  rw [view_sel hu, view_sel h.up]
  generalize putL ls a x = p at *
  apply put_uniq
  · rw [selL_len, selL_len]
    have h1 := cntI_comp (but a) (seenI ls who) p.length
    rw [show cntI (but a) p.length = ls.length by rw [hlen, cnt_but, if_neg (by omega)]; rfl] at h1
    rw [← h1]
    have : ∀ k, k ≤ p.length → cntI (seenI p who) k = cntI (fun i => but a i && seenI ls who (cntI (but a) i)) k + if a < k then 1 else 0 := by
      intro k
      induction k with
      | zero => intro _; rfl
      | succ k ih =>
        intro hk
        by_cases e : k = a
        · subst e
          rw [cntI_yes hga, cntI_no (by simp [but]), ih (by omega)]
          simp
        · have hb : but a k = true := by simp [but, e]
          show cntI _ k + (if seenI p who k then 1 else 0) = cntI _ k + (if but a k && seenI ls who (cntI (but a) k) then 1 else 0) + _
          rw [ih (by omega), hg k (by omega) hb, hb, Bool.true_and]
          by_cases h2 : a < k
          · rw [if_pos h2, if_pos (by omega : a < k + 1)]; omega
          · rw [if_neg h2, if_neg (by omega : ¬ a < k + 1)]; omega
    rw [this _ (Nat.le_refl _), if_pos (by omega)]
  · rw [selL_len]; exact cntI_mono ha
  · rw [← hcnt a (Nat.le_refl _), sel_sel]
    have : selL (seenI ls who) ls = selL (seenI ls who) (selL (but a) p) := by rw [hsel]
    rw [this, sel_sel]
    apply sel_congr hu
    intro i hi
    by_cases e : i = a
    · subst e
      simp [but]
    · have hb : but a i = true := by simp [but, e]
      rw [hb, Bool.true_and, ← hg i hi hb]
      cases hgi : seenI p who i
      · rfl
      · rw [Bool.true_and]
        simp only [but, decide_eq_true_eq]
        intro e2
        exact e (cntI_inj hgi hga e2)
  · rw [← hcnt a (Nat.le_refl _), (sel_at (by omega) hga).2, hat]
    refine renI_congr (k := a) hx fun i hi => ?_
    rw [hg i (by omega) (by simp [but]; omega), cnt_but, if_pos (by omega)]
  · intro j hj
    rw [selL_len] at hj
    obtain ⟨i, hi, hgi, rfl⟩ := cntI_from hj
    rw [(sel_at hi hgi).2, ← hcnt a (Nat.le_refl _)]
    have hne := hnone i hi
    have hui := hu i hi
    unfold renI
    simp only
    split
    · omega
    · intro e2
      have h7 := hseen i hi hgi (by omega)
      have := cntI_inj h7 hga (by omega)
      omega
  · exact hv.up
/-- the view of a page with one more that is not seen -/
theorem view_put_no (h : PageOk ls) (ha : a ≤ ls.length) (h0 : -1 ≤ x.1) (hx : x.1 < a) {who : Lab} (hs : seen who x = false) : viewL (putL ls a x) who = viewL ls who := by
  have hu := put_up h.up ha h0 hx
  have hsel := put_sel h.up ha hx
  rw [view_sel hu, view_sel h.up]
  have : selL (seenI ls who) ls = selL (seenI ls who) (selL (but a) (putL ls a x)) := by rw [hsel]
  rw [this, sel_sel]
  apply sel_congr hu
  intro i hi
  by_cases e : i = a
  · subst e
    unfold seenI
    rw [put_at ha, hs]
    simp [but]
  · have hb : but a i = true := by simp [but, e]
    have := (sel_at hi hb).2
    rw [hsel] at this
    unfold seenI
    rw [hb, this, seen_renI, Bool.true_and]
end
end Go.Proofs.Ytjcooagchjjknaa
