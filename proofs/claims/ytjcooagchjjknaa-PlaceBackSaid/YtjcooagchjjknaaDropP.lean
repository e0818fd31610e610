/- Pages from which a leaf is taken with all below it, or whose text is changed: plain facts. -/
import Derived.Test.YtjcooagchjjknaaSelP
namespace Go.Proofs.Ytjcooagchjjknaa
open Go
set_option linter.unusedVariables false

def goneTo (ls : List Lf) (k : Nat) : Nat → List Bool
  | 0 => []
  | i + 1 => goneTo ls k i ++ [decide (i = k) || (decide (0 ≤ (lfAt ls i).1) && bat (goneTo ls k i) (lfAt ls i).1.toNat)]
def goneI (ls : List Lf) (k i : Nat) : Bool := bat (goneTo ls k (i + 1)) i
theorem goneTo_len (ls : List Lf) (k : Nat) : ∀ i, (goneTo ls k i).length = i := by
  intro i
  induction i with
  | zero => rfl
  | succ i ih => show (goneTo ls k i ++ _).length = _; rw [List.length_append, ih]; rfl
theorem bat_app {a b : List Bool} {i : Nat} (h : i < a.length) : bat (a ++ b) i = bat a i := by
  rw [bat_eq _ _ (by rw [List.length_append]; omega), bat_eq _ _ h, List.getElem_append_left h]
theorem bat_last (a : List Bool) (x : Bool) : bat (a ++ [x]) a.length = x := by
  rw [bat_eq _ _ (by simp), List.getElem_append_right (Nat.le_refl _)]
  simp
theorem goneTo_at {ls : List Lf} {k : Nat} : ∀ n i, i < n → bat (goneTo ls k n) i = goneI ls k i := by
  intro n
  induction n with
  | zero => intro i h; omega
  | succ n ih =>
    intro i hi
    by_cases e : i = n
    · subst e; rfl
    · show bat (goneTo ls k n ++ _) i = _
      rw [bat_app (by rw [goneTo_len]; omega)]
      exact ih i (by omega)
theorem gone_step {ls : List Lf} (hu : UpOk ls) {k i : Nat} (hi : i < ls.length) : goneI ls k i = (decide (i = k) || (decide (0 ≤ (lfAt ls i).1) && goneI ls k (lfAt ls i).1.toNat)) := by
  have h1 := hu i hi
  show bat (goneTo ls k i ++ _) i = _
  have := bat_last (goneTo ls k i) (decide (i = k) || (decide (0 ≤ (lfAt ls i).1) && bat (goneTo ls k i) (lfAt ls i).1.toNat))
  rw [goneTo_len] at this
  rw [this]
  by_cases h0 : 0 ≤ (lfAt ls i).1
  · rw [goneTo_at i _ (by omega)]
  · simp [h0]
def keepI (ls : List Lf) (k i : Nat) : Bool := !goneI ls k i
def dropL (ls : List Lf) (k : Nat) : List Lf := selL (keepI ls k) ls
theorem keep_up {ls : List Lf} (hu : UpOk ls) {k i : Nat} (hi : i < ls.length) (h : keepI ls k i = true) (h0 : 0 ≤ (lfAt ls i).1) : keepI ls k (lfAt ls i).1.toNat = true := by
  unfold keepI at h ⊢
  rw [gone_step hu hi] at h
  simp only [h0, decide_true, Bool.true_and, Bool.not_or, Bool.and_eq_true] at h
  exact h.2
theorem drop_ok {ls : List Lf} (h : PageOk ls) (k : Nat) : PageOk (dropL ls k) := sel_ok h fun i hi hg h0 => keep_up h.up hi hg h0
theorem cntI_add (g : Nat → Bool) (i : Nat) : ∀ d, cntI g (i + d) ≤ cntI g i + d := by
  intro d
  induction d with
  | zero => exact Nat.le_refl _
  | succ d ih => show cntI g (i + d) + _ ≤ _; split <;> omega
theorem cntI_less {g : Nat → Bool} {k n : Nat} (hk : k < n) (h : g k = false) : cntI g n < n := by
  have h1 := cntI_add g (k + 1) (n - (k + 1))
  rw [show k + 1 + (n - (k + 1)) = n by omega, cntI_no h] at h1
  have := cntI_le g k
  omega
theorem gone_self {ls : List Lf} (hu : UpOk ls) {k : Nat} (hk : k < ls.length) : goneI ls k k = true := by
  rw [gone_step hu hk]
  simp
theorem drop_less {ls : List Lf} (hu : UpOk ls) {k : Nat} (hk : k < ls.length) : (dropL ls k).length < ls.length := by
  unfold dropL
  rw [selL_len]
  exact cntI_less hk (by unfold keepI; rw [gone_self hu hk]; rfl)
/-- put, and taken again -/
theorem drop_put {ls : List Lf} {a : Nat} {x : Lf} (hu : UpOk ls) (ha : a ≤ ls.length) (h0 : -1 ≤ x.1) (hx : x.1 < a) : dropL (putL ls a x) a = ls := by
  have hup := put_up hu ha h0 hx
  have hn := put_none hu ha hx
  have hs := put_sel hu ha hx
  generalize putL ls a x = p at *
  rw [← hs]
  apply sel_congr hup
  intro i
  induction i using Nat.strongRecOn with
  | _ i ih =>
    intro hi
    unfold keepI but
    rw [gone_step hup hi]
    by_cases h1 : 0 ≤ (lfAt p i).1
    · have h2 := hup i hi
      have h3 := ih (lfAt p i).1.toNat (by omega) (by omega)
      unfold keepI but at h3
      have h4 := hn i hi
      have h5 : (lfAt p i).1.toNat ≠ a := by omega
      simp only [h5, ne_eq, not_false_eq_true, decide_true, Bool.not_eq_eq_eq_not, Bool.not_true] at h3
      rw [h3]
      simp
    · simp [h1]
theorem seen_of_gone {ls : List Lf} (h : PageOk ls) {k : Nat} {who : Lab} (hk : seenI ls who k = false) : ∀ i, i < ls.length → goneI ls k i = true → seenI ls who i = false := by
  intro i
  induction i using Nat.strongRecOn with
  | _ i ih =>
    intro hi hg
    rw [gone_step h.up hi, Bool.or_eq_true, Bool.and_eq_true, decide_eq_true_eq, decide_eq_true_eq] at hg
    rcases hg with rfl | ⟨h0, hg⟩
    · exact hk
    · have hu := h.up i hi
      have := ih _ (by omega) (by omega) hg
      cases hs : seenI ls who i
      · rfl
      · have h2 := seen_up h i hi (who := who)
        rw [← lf_at hi] at h2
        have h3 := h2 hs h0
        unfold seenI at this
        rw [this] at h3
        cases h3
theorem view_drop_no {ls : List Lf} (h : PageOk ls) {k : Nat} {who : Lab} (hk : seenI ls who k = false) : viewL (dropL ls k) who = viewL ls who := by
  rw [view_sel (drop_ok h k).up, view_sel h.up]
  unfold dropL
  rw [sel_sel]
  apply sel_congr h.up
  intro i hi
  cases hg : keepI ls k i
  · have : goneI ls k i = true := by unfold keepI at hg; simpa using hg
    rw [seen_of_gone h hk i hi this]
    rfl
  · rw [Bool.true_and]
    have := (sel_at hi hg).2
    show seen who (lfAt (selL (keepI ls k) ls) (cntI (keepI ls k) i)) = _
    rw [this, seen_renI]
    rfl
theorem gone_view {ls : List Lf} (h : PageOk ls) {k : Nat} {who : Lab} (hk : k < ls.length) (hs : seenI ls who k = true) : ∀ i, i < ls.length → seenI ls who i = true → goneI (selL (seenI ls who) ls) (cntI (seenI ls who) k) (cntI (seenI ls who) i) = goneI ls k i := by
  have hv := viewL_ok h who
  rw [view_sel h.up] at hv
  intro i
  induction i using Nat.strongRecOn with
  | _ i ih =>
    intro hi hg
    obtain ⟨h1, h2⟩ := sel_at hi hg
    rw [gone_step hv.up h1, gone_step h.up hi, h2]
    have hu := h.up i hi
    have e1 : decide (cntI (seenI ls who) i = cntI (seenI ls who) k) = decide (i = k) := by
      by_cases e : i = k
      · subst e; simp
      · have : ¬ cntI (seenI ls who) i = cntI (seenI ls who) k := fun e2 => e (cntI_inj hg hs e2)
        simp [e, this]
    rw [e1]
    congr 1
    unfold renI
    by_cases h0 : (lfAt ls i).1 < 0
    · rw [if_pos h0]
      have : ¬ 0 ≤ (lfAt ls i).1 := by omega
      simp [this]
    · rw [if_neg h0]
      have h3 := seen_up h i hi (who := who)
      rw [← lf_at hi] at h3
      have h4 := h3 hg (by omega)
      simp only
      rw [Int.toNat_natCast, ih (lfAt ls i).1.toNat (by omega) (by omega) h4]
      have a1 : 0 ≤ (lfAt ls i).1 := by omega
      simp [a1]
theorem view_drop {ls : List Lf} (h : PageOk ls) {k : Nat} {who : Lab} (hk : k < ls.length) (hs : seenI ls who k = true) : viewL (dropL ls k) who = dropL (viewL ls who) (cntI (seenI ls who) k) := by
  have hd := (drop_ok h k).up
  rw [view_sel hd, view_sel h.up]
  unfold dropL at hd ⊢
  rw [sel_sel, sel_sel]
  apply sel_congr h.up
  intro i hi
  cases hg : seenI ls who i
  · rw [Bool.false_and]
    cases hk2 : keepI ls k i
    · rfl
    · rw [Bool.true_and]
      have := (sel_at hi hk2).2
      show seen who (lfAt (selL (keepI ls k) ls) (cntI (keepI ls k) i)) = _
      rw [this, seen_renI]
      exact hg
  · rw [Bool.true_and]
    have h1 : keepI (selL (seenI ls who) ls) (cntI (seenI ls who) k) (cntI (seenI ls who) i) = keepI ls k i := by unfold keepI; rw [gone_view h hk hs i hi hg]
    rw [h1]
    cases hk2 : keepI ls k i
    · rfl
    · rw [Bool.true_and]
      have := (sel_at hi hk2).2
      show seen who (lfAt (selL (keepI ls k) ls) (cntI (keepI ls k) i)) = _
      rw [this, seen_renI]
      exact hg
/-! ### another text -/
def setL (ls : List Lf) (k : Nat) (t : Int) : List Lf := ls.set k ((lfAt ls k).1, t, (lfAt ls k).2.2)
theorem set_len (ls : List Lf) (k : Nat) (t : Int) : (setL ls k t).length = ls.length := by unfold setL; rw [List.length_set]
theorem set_at {ls : List Lf} {k : Nat} {t : Int} {i : Nat} (hi : i < ls.length) : lfAt (setL ls k t) i = if i = k then ((lfAt ls k).1, t, (lfAt ls k).2.2) else lfAt ls i := by
  rw [lf_at (by rw [set_len]; exact hi), lf_at hi]
  unfold setL
  rw [List.getElem_set]
  by_cases e : k = i
  · rw [if_pos e, if_pos e.symm]
  · rw [if_neg e, if_neg (fun h => e h.symm)]
theorem set_up {ls : List Lf} {k : Nat} {t : Int} {i : Nat} (hi : i < ls.length) : (lfAt (setL ls k t) i).1 = (lfAt ls i).1 ∧ lab (lfAt (setL ls k t) i) = lab (lfAt ls i) := by
  rw [set_at hi]
  by_cases e : i = k
  · subst e; rw [if_pos rfl]; exact ⟨rfl, rfl⟩
  · rw [if_neg e]; exact ⟨rfl, rfl⟩
theorem set_ok {ls : List Lf} (h : PageOk ls) (k : Nat) (t : Int) : PageOk (setL ls k t) := by
  refine ⟨by rw [set_len]; exact h.1, fun i hi => ?_⟩
  rw [set_len] at hi
  obtain ⟨h1, h2, h3⟩ := h.2 i hi
  obtain ⟨e1, e2⟩ := set_up (k := k) (t := t) hi
  rw [e1, e2]
  refine ⟨h1, h2, fun h0 => ?_⟩
  rw [(set_up (k := k) (t := t) (show (lfAt ls i).1.toNat < ls.length by omega)).2]
  exact h3 h0
theorem set_seen {ls : List Lf} {k : Nat} {t : Int} {who : Lab} {i : Nat} (hi : i < ls.length) : seenI (setL ls k t) who i = seenI ls who i := by
  unfold seenI seen
  rw [(set_up hi).2]
theorem view_set_no {ls : List Lf} (h : PageOk ls) {k : Nat} {t : Int} {who : Lab} (hs : seenI ls who k = false) : viewL (setL ls k t) who = viewL ls who := by
  rw [view_sel (set_ok h k t).up, view_sel h.up]
  symm
  apply sel_ext
  · rw [selL_len, set_len, cntI_congr _ fun i hi => (set_seen hi)]
  · intro i hi hg
    rw [set_len] at hi
    rw [set_seen hi] at hg
    have hc : ∀ j, j ≤ i → cntI (seenI (setL ls k t) who) j = cntI (seenI ls who) j := fun j hj => cntI_congr j fun m hm => set_seen (by omega)
    rw [hc i (Nat.le_refl _), (sel_at hi hg).2, set_at hi, if_neg (fun e => by subst e; rw [hs] at hg; cases hg)]
    exact renI_congr (h.up i hi).2 fun j hj => (set_seen (by omega)).symm
theorem view_set {ls : List Lf} (h : PageOk ls) {k : Nat} {t : Int} {who : Lab} (hk : k < ls.length) (hs : seenI ls who k = true) : viewL (setL ls k t) who = setL (viewL ls who) (cntI (seenI ls who) k) t := by
  rw [view_sel (set_ok h k t).up, view_sel h.up]
  symm
  apply sel_ext
  · rw [set_len, selL_len, set_len, cntI_congr _ fun i hi => (set_seen hi)]
  · intro i hi hg
    rw [set_len] at hi
    rw [set_seen hi] at hg
    have hc : ∀ j, j ≤ i → cntI (seenI (setL ls k t) who) j = cntI (seenI ls who) j := fun j hj => cntI_congr j fun m hm => set_seen (by omega)
    rw [hc i (Nat.le_refl _), set_at (sel_at hi hg).1, set_at hi]
    have hr : ∀ x : Lf, x.1 < i → renI (seenI (setL ls k t) who) x = renI (seenI ls who) x := fun x hx => renI_congr hx fun j hj => set_seen (by omega)
    by_cases e : i = k
    · subst e
      rw [if_pos rfl, if_pos rfl, (sel_at hi hg).2, hr ((lfAt ls i).1, t, (lfAt ls i).2.2) (h.up i hi).2]
      rfl
    · rw [if_neg (fun e2 => e (cntI_inj hg hs e2)), if_neg e, (sel_at hi hg).2, hr _ (h.up i hi).2]
end Go.Proofs.Ytjcooagchjjknaa
