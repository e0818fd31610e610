/- The pen and the view: plain facts. -/
import Derived.Test.YtjcooagchjjknaaPenP
namespace Go.Proofs.Ytjcooagchjjknaa
open Go
set_option linter.unusedVariables false

section
variable {ls : List Lf} {w who : Lab}
theorem seen_le (hle : leB w who = true) {x : Lf} (h : seen w x = true) : seen who x = true := leB_trans h hle
theorem At.le (hle : leB w who = true) {b : Int} (h : At ls w b) : At ls who b := by
  rcases h with rfl | ⟨i, h1, h2, h3⟩
  · exact .inl rfl
  · exact .inr ⟨i, h1, h2, seen_le hle h3⟩
theorem below_view2 (h : PageOk ls) (hle : leB w who = true) {b : Int} (ha : At ls who b) : ∀ k, k ≤ ls.length →
    belowTo (viewL ls who) w (inV (seen who) ls b) (cntK (seen who) ls k) = (belowTo ls w b k).map (inV (seen who) ls) := by
  intro k
  induction k with
  | zero => intro _; rfl
  | succ k ih =>
    intro hk
    rw [cntK_succ (show k < ls.length by omega), ← lf_at (show k < ls.length by omega)]
    show _ = (belowTo ls w b k ++ _).map _
    rw [List.map_append, ← ih (by omega)]
    cases hs : seen who (lfAt ls k)
    · have hsw : seen w (lfAt ls k) = false := by
        cases hq : seen w (lfAt ls k)
        · rfl
        · rw [seen_le hle hq] at hs; cases hs
      rw [if_neg (by simp), if_neg (by rw [hsw]; simp)]; simp
    · rw [if_pos rfl]
      show belowTo _ _ _ _ ++ _ = _
      have hv := (view_at (so := seen who) (show k < ls.length by omega) hs).2
      have hu := up_at h (show k < ls.length by omega) hs
      have e1 : (lfAt (viewL ls who) (cntK (seen who) ls k)).1 = inV (seen who) ls (lfAt ls k).1 := by
        show (lfAt (viewK (seen who) ls) _).1 = _
        rw [hv]; rfl
      have e2 : seen w (lfAt (viewL ls who) (cntK (seen who) ls k)) = seen w (lfAt ls k) := by
        show seen w (lfAt (viewK (seen who) ls) _) = _
        rw [hv]
        rfl
      rw [e1, e2]
      congr 1
      by_cases hx : (lfAt ls k).1 = b
      · by_cases hq : seen w (lfAt ls k) = true
        · rw [if_pos ⟨by rw [hx], hq⟩, if_pos ⟨hx, hq⟩]
          simp [inV]; omega
        · rw [if_neg (fun h => hq h.2), if_neg (fun h => hq h.2)]; rfl
      · rw [if_neg (fun ⟨h1, _⟩ => hx ((inV_inj hu.1 ha).1 h1)), if_neg (fun ⟨h1, _⟩ => hx h1)]
        rfl
theorem belowL_view2 (h : PageOk ls) (hle : leB w who = true) {b : Int} (ha : At ls who b) : belowL (viewL ls who) w (inV (seen who) ls b) = (belowL ls w b).map (inV (seen who) ls) := by
  unfold belowL
  rw [← below_view2 h hle ha _ (Nat.le_refl _), cntK_len]
  rfl
theorem getD_map {f : Int → Int} {l : List Int} {p : Nat} (hp : p < l.length) : (l.map f).getD p 0 = f (l.getD p 0) := by
  rw [List.getD_eq_getElem?_getD, List.getD_eq_getElem?_getD, List.getElem?_map, List.getElem?_eq_getElem hp]; rfl
theorem goF_view2 (h : PageOk ls) (hle : leB w who = true) : ∀ (ps : List Int) (a : Int), At ls who a → goF (viewL ls who) w (inV (seen who) ls a) ps = (goF ls w a ps).map (inV (seen who) ls)
  | [], a, ha => rfl
  | p :: ps, a, ha => by
    unfold goF
    rw [belowL_view2 h hle ha, List.length_map]
    by_cases hp : 0 ≤ p ∧ p < (belowL ls w a).length
    · rw [if_pos hp, if_pos hp]
      obtain ⟨i, h1, h2, h3⟩ := belowL_at (ls := ls) (who := w) (a := a) (p := p.toNat) (by omega)
      rw [getD_map (by omega)]
      exact goF_view2 h hle ps _ (by rw [h2]; exact .inr ⟨i, h1, rfl, seen_le hle h3.2⟩)
    · rw [if_neg hp, if_neg hp]; rfl
theorem go_top (h : PageOk ls) (hle : leB w who = true) (ps : List Int) : goF (viewL ls who) w (-1) ps = (goF ls w (-1) ps).map (inV (seen who) ls) := by
  have := goF_view2 h hle ps (-1) (.inl rfl)
  rw [show inV (seen who) ls (-1) = -1 from if_pos (by omega)] at this
  exact this
theorem inV_seen (i : Nat) (hi : i < ls.length) : inV (seen who) ls (i : Int) = ((cntI (seenI ls who) i : Nat) : Int) := by
  unfold inV
  rw [if_neg (by omega), Int.toNat_natCast, cntK_is (seen who) ls i (by omega)]
  rfl
theorem fnd_view (h : PageOk ls) (hle : leB w who = true) (ps : List Int) : ((fndF ls w ps).2 ≠ 0 ∧ fndF ls w ps = (0, 5) ∧ fndF (viewL ls who) w ps = (0, 5)) ∨
    ∃ i : Nat, i < ls.length ∧ seenI ls who i = true ∧ fndF ls w ps = ((i : Int), 0) ∧ fndF (viewL ls who) w ps = (((cntI (seenI ls who) i : Nat) : Int), 0) := by
  have hg := go_top h hle ps
  by_cases h0 : (fndF ls w ps).2 = 0
  · right
    obtain ⟨hne, i, h1, h2, h3, h4⟩ := fnd_zero h0
    refine ⟨i, h2, seen_le hle h3, Prod.ext h4 h0, ?_⟩
    unfold fndF
    rw [if_neg hne, hg, h1]
    show (inV (seen who) ls (i : Int), (0 : Int)) = _
    rw [inV_seen i h2]
  · left
    refine ⟨h0, fnd_nz h0, ?_⟩
    unfold fndF at h0 ⊢
    by_cases hp : ps = []
    · rw [if_pos hp]
    · rw [if_neg hp] at h0 ⊢
      cases hq : goF ls w (-1) ps
      · rw [hg, hq]; rfl
      · rw [hq] at h0; exact absurd rfl h0
/-- where it comes to stand in the view -/
theorem putAt_view (h : PageOk ls) (hle : leB w who = true) {b : Int} (ha : At ls w b) {k : Nat} (hk : k ≤ (belowL ls w b).length) : putAt (viewL ls who) w (inV (seen who) ls b) k = cntI (seenI ls who) (putAt ls w b k) := by
  unfold putAt
  by_cases h0 : k = 0
  · rw [if_pos h0, if_pos h0]
    rcases ha with rfl | ⟨i, h1, rfl, h3⟩
    · rw [show inV (seen who) ls (-1) = -1 from if_pos (by omega)]; rfl
    · rw [inV_seen i h1, show ((i : Int) + 1).toNat = i + 1 by omega, cntI_yes (show seenI ls who i = true from seen_le hle h3)]
      omega
  · rw [if_neg h0, if_neg h0, belowL_view2 h hle (ha.le hle), getD_map (by omega)]
    obtain ⟨i, h1, h2, h3, h4⟩ := belowL_from (ls := ls) (who := w) (b := b) (q := k - 1) (by omega)
    rw [h4, inV_seen i h1, show ((i : Int) + 1).toNat = i + 1 by omega, cntI_yes (show seenI ls who i = true from seen_le hle (belowP_iff.1 h2).2)]
    omega
/-- a stroke whose label is under another one, and what that one sees -/
theorem pen_view (h : PageOk ls) (h40 : ls.length < 40) {s : Sk} (hw : labOk s.who = true) (hle : leB s.who who = true) :
    (penC (viewL ls who) s).1 = (penC ls s).1 ∧ ((penC ls s).1 = 0 → (penC (viewL ls who) s).2 = viewL (penC ls s).2 who) := by
  unfold penC
  by_cases h1 : s.kind = 1
  · rw [if_pos h1, if_pos h1]
    have hg := go_top h hle s.path.dropLast
    by_cases hp : s.path = []
    · unfold putF; rw [if_pos hp, if_pos hp]; exact ⟨rfl, fun h => by cases h⟩
    · cases hq : goF ls s.who (-1) s.path.dropLast
      · unfold putF; rw [if_neg hp, if_neg hp, hg, hq]; exact ⟨rfl, fun h => by cases h⟩
      · rename_i b
        have hat := go_seen _ hq
        obtain ⟨hb1, hb2⟩ := up_bounds hat
        have e1 : putF ls s.who s.path s.text = putK ls s.who b (s.path.getD (s.path.length - 1) 0) s.text := by unfold putF; rw [if_neg hp, hq]
        have e2 : putF (viewL ls who) s.who s.path s.text = putK (viewL ls who) s.who (inV (seen who) ls b) (s.path.getD (s.path.length - 1) 0) s.text := by unfold putF; rw [if_neg hp, hg, hq]; rfl
        have hok := fun h0 => putF_ok (ps := s.path) (t := s.text) h hw h0
        rw [e1] at hok ⊢
        rw [e2]
        unfold putK at hok ⊢
        rw [belowL_view2 h hle (hat.le hle), List.length_map, own_view h.up hle]
        generalize s.path.getD (s.path.length - 1) 0 = q at hok ⊢
        by_cases h2 : q < 0 ∨ ((belowL ls s.who b).length : Int) < q
        · rw [if_pos h2, if_pos h2]; exact ⟨rfl, fun h => by cases h⟩
        · rw [if_neg h2, if_neg h2]
          rw [if_neg h2] at hok
          have hvl := viewL_le ls who
          by_cases h3 : 4 ≤ ownN ls s.who
          · rw [if_pos (.inl h3), if_pos (.inl h3)]; exact ⟨rfl, fun h => by cases h⟩
          · rw [if_neg (by omega), if_neg (by omega)]
            rw [if_neg (by omega)] at hok
            refine ⟨rfl, fun _ => ?_⟩
            have hk : q.toNat ≤ (belowL ls s.who b).length := by omega
            obtain ⟨a1, a2, _⟩ := putAt_spec (who := s.who) h.up hb1 hb2 hk
            show putL _ _ _ = viewL (putL _ _ _) who
            rw [view_put h (hok rfl).1 a1 a2 (show seen who (b, s.text, s.who) = true from hle), putAt_view h hle hat hk]
            congr 1
            unfold renI inV
            by_cases hb0 : b < 0
            · simp only [hb0, if_true]
            · simp only [hb0, if_false]
              rw [cntK_is (seen who) ls b.toNat (by omega)]
              rfl
  · rw [if_neg h1, if_neg h1]
    by_cases h2 : s.kind ≠ 2 ∧ s.kind ≠ 3
    · rw [if_pos h2, if_pos h2]; exact ⟨rfl, fun h => by cases h⟩
    · rw [if_neg h2, if_neg h2]
      rcases fnd_view h hle s.path with ⟨h3, h4, h5⟩ | ⟨i, hi, hs, h4, h5⟩
      · rw [h4, h5]
        exact ⟨rfl, fun h => by cases h⟩
      · rw [h4, h5]
        simp only [ne_eq, not_true_eq_false, if_false]
        rw [Int.toNat_natCast, Int.toNat_natCast]
        have hv := sel_at (g := seenI ls who) hi hs
        have hlab : lab (lfAt (viewL ls who) (cntI (seenI ls who) i)) = lab (lfAt ls i) := by rw [view_sel h.up, hv.2, lab_renI]
        rw [hlab]
        by_cases h6 : lab (lfAt ls i) = s.who
        · simp only [h6, not_true_eq_false, if_false]
          by_cases h7 : s.kind = 3
          · rw [if_pos h7, if_pos h7]
            exact ⟨by simp, fun _ => (view_drop h hi hs).symm⟩
          · rw [if_neg h7, if_neg h7]
            exact ⟨by simp, fun _ => (view_set h hi hs).symm⟩
        · simp only [h6, not_false_eq_true, if_true]
          exact ⟨by simp, fun h => by cases h⟩
/-- a stroke whose label is not -/
theorem pen_view_no (h : PageOk ls) {s : Sk} (hw : labOk s.who = true) (hle : leB s.who who = false) (h0 : (penC ls s).1 = 0) : viewL (penC ls s).2 who = viewL ls who := by
  unfold penC at h0 ⊢
  by_cases h1 : s.kind = 1
  · rw [if_pos h1] at h0 ⊢
    obtain ⟨_, b, k, hg, _, hk, _, _, e⟩ := putF_zero h0
    rw [e]
    have hat := go_seen _ hg
    obtain ⟨hb1, hb2⟩ := up_bounds hat
    obtain ⟨a1, a2, _⟩ := putAt_spec (who := s.who) h.up hb1 hb2 hk
    exact view_put_no h a1 hb1 a2 hle
  · rw [if_neg h1] at h0 ⊢
    by_cases h2 : s.kind ≠ 2 ∧ s.kind ≠ 3
    · rw [if_pos h2] at h0; cases h0
    · rw [if_neg h2] at h0 ⊢
      by_cases h3 : (fndF ls s.who s.path).2 ≠ 0
      · rw [if_pos h3] at h0; exact absurd h0 h3
      · rw [if_neg h3] at h0 ⊢
        by_cases h4 : lab (lfAt ls (fndF ls s.who s.path).1.toNat) ≠ s.who
        · rw [if_pos h4] at h0; cases h0
        · rw [if_neg h4]
          have hs : seenI ls who (fndF ls s.who s.path).1.toNat = false := by
            unfold seenI seen
            rw [Decidable.not_not.1 h4]
            exact hle
          by_cases h5 : s.kind = 3
          · rw [if_pos h5]; exact view_drop_no h hs
          · rw [if_neg h5]; exact view_set_no h hs
end
end Go.Proofs.Ytjcooagchjjknaa
