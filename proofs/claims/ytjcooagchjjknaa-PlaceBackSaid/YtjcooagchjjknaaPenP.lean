/- The pen: what each stroke makes of a page; plain facts, with no program in sight. -/
import Derived.Test.YtjcooagchjjknaaDropP
namespace Go.Proofs.Ytjcooagchjjknaa
open Go
set_option linter.unusedVariables false

/-! ### those below a leaf, place by place -/
def belowP (ls : List Lf) (who : Lab) (b : Int) (i : Nat) : Bool := decide ((lfAt ls i).1 = b ∧ seen who (lfAt ls i) = true)
theorem belowP_iff {ls : List Lf} {who : Lab} {b : Int} {i : Nat} : belowP ls who b i = true ↔ (lfAt ls i).1 = b ∧ seen who (lfAt ls i) = true := by unfold belowP; rw [decide_eq_true_eq]
section
variable {ls : List Lf} {who : Lab} {b : Int}
theorem belowTo_cnt : ∀ k, (belowTo ls who b k).length = cntI (belowP ls who b) k := by
  intro k
  induction k with
  | zero => rfl
  | succ k ih =>
    show (belowTo ls who b k ++ _).length = cntI _ k + _
    rw [List.length_append, ih]
    by_cases h : (lfAt ls k).1 = b ∧ seen who (lfAt ls k) = true
    · rw [if_pos h, if_pos (belowP_iff.2 h)]; rfl
    · rw [if_neg h, if_neg (fun h2 => h (belowP_iff.1 h2))]; rfl
theorem getD_app_left {a c : List Int} {i : Nat} (h : i < a.length) : (a ++ c).getD i 0 = a.getD i 0 := by
  rw [List.getD_eq_getElem?_getD, List.getD_eq_getElem?_getD, List.getElem?_append_left h]
theorem getD_app_at {a : List Int} {x : Int} : (a ++ [x]).getD a.length 0 = x := by
  rw [List.getD_eq_getElem?_getD, List.getElem?_append_right (Nat.le_refl _)]
  simp
theorem belowTo_val : ∀ k i, i < k → belowP ls who b i = true → (belowTo ls who b k).getD (cntI (belowP ls who b) i) 0 = (i : Int) := by
  intro k
  induction k with
  | zero => intro i h; omega
  | succ k ih =>
    intro i hi h
    show (belowTo ls who b k ++ _).getD _ 0 = _
    by_cases e : i = k
    · subst e
      rw [if_pos (belowP_iff.1 h), ← belowTo_cnt]
      exact getD_app_at
    · rw [getD_app_left (by rw [belowTo_cnt]; exact cntI_lt (by omega) h)]
      exact ih i (by omega) h
theorem belowL_from {q : Nat} (h : q < (belowL ls who b).length) : ∃ i, i < ls.length ∧ belowP ls who b i = true ∧ cntI (belowP ls who b) i = q ∧ (belowL ls who b).getD q 0 = (i : Int) := by
  have h2 := h
  unfold belowL at h2
  rw [belowTo_cnt] at h2
  obtain ⟨i, h3, h4, rfl⟩ := cntI_from h2
  exact ⟨i, h3, h4, rfl, belowTo_val _ i h3 h4⟩
theorem belowL_val {i : Nat} (hi : i < ls.length) (h : belowP ls who b i = true) : cntI (belowP ls who b) i < (belowL ls who b).length ∧ (belowL ls who b).getD (cntI (belowP ls who b) i) 0 = (i : Int) :=
  ⟨by unfold belowL; rw [belowTo_cnt]; exact cntI_lt hi h, belowTo_val _ i hi h⟩
/-- where a new one comes to stand -/
def putAt (ls : List Lf) (who : Lab) (b : Int) (k : Nat) : Nat := if k = 0 then (b + 1).toNat else ((belowL ls who b).getD (k - 1) 0 + 1).toNat
theorem putAt_spec (hu : UpOk ls) (hb : -1 ≤ b) (hbl : b < ls.length) {k : Nat} (hk : k ≤ (belowL ls who b).length) : putAt ls who b k ≤ ls.length ∧ b < putAt ls who b k ∧ cntI (belowP ls who b) (putAt ls who b k) = k := by
  unfold putAt
  by_cases h0 : k = 0
  · subst h0
    rw [if_pos rfl]
    refine ⟨by omega, by omega, ?_⟩
    have : ∀ j, j ≤ (b + 1).toNat → cntI (belowP ls who b) j = 0 := by
      intro j
      induction j with
      | zero => intro _; rfl
      | succ j ih =>
        intro hj
        rw [cntI_no, ih (by omega)]
        cases hp : belowP ls who b j
        · rfl
        · have h1 := (belowP_iff.1 hp).1
          have h2 := hu j (by omega)
          omega
    exact this _ (Nat.le_refl _)
  · rw [if_neg h0]
    obtain ⟨i, h1, h2, h3, h4⟩ := belowL_from (ls := ls) (who := who) (b := b) (q := k - 1) (by omega)
    rw [h4]
    have h5 := hu i h1
    have h6 := (belowP_iff.1 h2).1
    rw [show ((i : Int) + 1).toNat = i + 1 by omega]
    refine ⟨by omega, by omega, ?_⟩
    rw [cntI_yes h2, h3]
    omega
end
/-! ### the way to what was put -/
theorem goF_le {ls : List Lf} {who : Lab} (hu : UpOk ls) : ∀ (ps : List Int) (b c : Int), goF ls who b ps = some c → b ≤ c ∧ (-1 ≤ b → b < ls.length → -1 ≤ c ∧ c < ls.length)
  | [], b, c, h => by
    have : b = c := Option.some.inj h
    subst this
    exact ⟨Int.le_refl _, fun h1 h2 => ⟨h1, h2⟩⟩
  | p :: ps, b, c, h => by
    unfold goF at h
    by_cases hp : 0 ≤ p ∧ p < (belowL ls who b).length
    · rw [if_pos hp] at h
      obtain ⟨i, h1, h2, _, h4⟩ := belowL_from (ls := ls) (who := who) (b := b) (q := p.toNat) (by omega)
      rw [h4] at h
      obtain ⟨h5, h6⟩ := goF_le hu ps _ c h
      have h7 := hu i h1
      have h8 := (belowP_iff.1 h2).1
      exact ⟨by omega, fun _ _ => h6 (by omega) (by omega)⟩
    · rw [if_neg hp] at h; cases h
theorem goF_app {ls : List Lf} {who : Lab} : ∀ (ps qs : List Int) (b : Int), goF ls who b (ps ++ qs) = (goF ls who b ps).bind fun c => goF ls who c qs
  | [], qs, b => rfl
  | p :: ps, qs, b => by
    have e1 : ∀ l : List Int, goF ls who b (p :: l) = if 0 ≤ p ∧ p < (belowL ls who b).length then goF ls who ((belowL ls who b).getD p.toNat 0) l else none := fun _ => rfl
    show goF ls who b (p :: (ps ++ qs)) = _
    rw [e1, e1]
    by_cases hp : 0 ≤ p ∧ p < (belowL ls who b).length
    · rw [if_pos hp, if_pos hp]; exact goF_app ps qs _
    · rw [if_neg hp, if_neg hp]; rfl
section
variable {ls : List Lf} {a : Nat} {x : Lf} {who : Lab}
theorem below_put_lo (ha : a ≤ ls.length) {b : Int} {i : Nat} (hi : i < a) : belowP (putL ls a x) who b i = belowP ls who b i := by
  unfold belowP
  rw [put_lo ha hi]
theorem below_put_cnt (ha : a ≤ ls.length) {b : Int} : ∀ i, i ≤ a → cntI (belowP (putL ls a x) who b) i = cntI (belowP ls who b) i := fun i hi => cntI_congr i fun j hj => below_put_lo ha (by omega)
theorem goF_put (hu : UpOk ls) (ha : a ≤ ls.length) {c : Int} (hc : c < a) : ∀ (ps : List Int) (b : Int), goF ls who b ps = some c → goF (putL ls a x) who b ps = some c
  | [], b, h => h
  | p :: ps, b, h => by
    have hle := goF_le hu (p :: ps) b c h
    unfold goF at h ⊢
    by_cases hp : 0 ≤ p ∧ p < (belowL ls who b).length
    · rw [if_pos hp] at h
      obtain ⟨i, h1, h2, h3, h4⟩ := belowL_from (ls := ls) (who := who) (b := b) (q := p.toNat) (by omega)
      rw [h4] at h
      have h5 := (goF_le hu ps _ c h).1
      have hv := belowL_val (ls := putL ls a x) (who := who) (b := b) (i := i) (by rw [put_len ha]; omega) (by rw [below_put_lo ha (by omega)]; exact h2)
      rw [below_put_cnt ha i (by omega), h3] at hv
      rw [if_pos ⟨hp.1, by omega⟩, hv.2]
      exact goF_put hu ha hc ps _ h
    · rw [if_neg hp] at h; cases h
theorem find_put (hu : UpOk ls) (ha : a ≤ ls.length) {b : Int} (hb : b < a) (hxb : x.1 = b) (hs : seen who x = true) {ps : List Int} {k : Nat} (hg : goF ls who (-1) ps = some b) (hk : cntI (belowP ls who b) a = k) :
    goF (putL ls a x) who (-1) (ps ++ [(k : Int)]) = some (a : Int) := by
  rw [goF_app, goF_put hu ha hb ps (-1) hg]
  show goF (putL ls a x) who b [(k : Int)] = _
  have hv := belowL_val (ls := putL ls a x) (who := who) (b := b) (i := a) (by rw [put_len ha]; omega) (belowP_iff.2 (by rw [put_at ha]; exact ⟨hxb, hs⟩))
  rw [below_put_cnt ha a (Nat.le_refl _), hk] at hv
  unfold goF
  rw [if_pos ⟨by omega, by omega⟩, Int.toNat_natCast, hv.2]
  rfl
end
/-! ### the strokes -/
def ownP (ls : List Lf) (who : Lab) (i : Nat) : Bool := decide (lab (lfAt ls i) = who)
def ownN (ls : List Lf) (who : Lab) : Nat := cntI (ownP ls who) ls.length
def putK (ls : List Lf) (who : Lab) (b : Int) (k t : Int) : Int × List Lf :=
  if k < 0 ∨ ((belowL ls who b).length : Int) < k then (5, []) else if 4 ≤ ownN ls who ∨ 40 ≤ ls.length then (1, []) else (0, putL ls (putAt ls who b k.toNat) (b, t, who))
def putF (ls : List Lf) (who : Lab) (ps : List Int) (t : Int) : Int × List Lf :=
  if ps = [] then (5, []) else match goF ls who (-1) ps.dropLast with
  | none => (5, [])
  | some b => putK ls who b (ps.getD (ps.length - 1) 0) t
structure Sk where
  kind : Int
  who : Lab
  path : List Int
  text : Int
def fndF (ls : List Lf) (who : Lab) (ps : List Int) : Int × Int := if ps = [] then (0, 5) else match goF ls who (-1) ps with | none => (0, 5) | some a => (a, 0)
/-- a stroke on a page, with a label that may be -/
def penC (ls : List Lf) (s : Sk) : Int × List Lf :=
  if s.kind = 1 then putF ls s.who s.path s.text
  else if s.kind ≠ 2 ∧ s.kind ≠ 3 then (6, [])
  else if (fndF ls s.who s.path).2 ≠ 0 then ((fndF ls s.who s.path).2, [])
  else if lab (lfAt ls (fndF ls s.who s.path).1.toNat) ≠ s.who then (7, [])
  else if s.kind = 3 then (0, dropL ls (fndF ls s.who s.path).1.toNat) else (0, setL ls (fndF ls s.who s.path).1.toNat s.text)
theorem fnd_zero {ls : List Lf} {who : Lab} {ps : List Int} (h : (fndF ls who ps).2 = 0) : ps ≠ [] ∧ ∃ i : Nat, goF ls who (-1) ps = some (i : Int) ∧ i < ls.length ∧ seenI ls who i = true ∧ (fndF ls who ps).1 = i := by
  unfold fndF at h ⊢
  by_cases hp : ps = []
  · rw [if_pos hp] at h; cases h
  · rw [if_neg hp] at h ⊢
    cases hg : goF ls who (-1) ps
    · rw [hg] at h; cases h
    · rename_i a
      obtain ⟨i, h1, h2, h3⟩ := goF_at ps (-1) a hg hp
      subst h2
      exact ⟨hp, i, rfl, h1, h3, rfl⟩
theorem fnd_nz {ls : List Lf} {who : Lab} {ps : List Int} (h : (fndF ls who ps).2 ≠ 0) : (fndF ls who ps) = (0, 5) := by
  unfold fndF at h ⊢
  by_cases hp : ps = []
  · rw [if_pos hp]
  · rw [if_neg hp] at h ⊢
    cases hg : goF ls who (-1) ps
    · rfl
    · rw [hg] at h; exact absurd rfl h
/-- what a put that is done says -/
theorem putF_zero {ls : List Lf} {who : Lab} {ps : List Int} {t : Int} (h : (putF ls who ps t).1 = 0) : ps ≠ [] ∧ ∃ (b : Int) (k : Nat), goF ls who (-1) ps.dropLast = some b ∧ ps.getD (ps.length - 1) 0 = k ∧ k ≤ (belowL ls who b).length ∧ ownN ls who < 4 ∧ ls.length < 40 ∧ putF ls who ps t = (0, putL ls (putAt ls who b k) (b, t, who)) := by
  unfold putF at h ⊢
  by_cases hp : ps = []
  · rw [if_pos hp] at h; cases h
  · rw [if_neg hp] at h ⊢
    cases hg : goF ls who (-1) ps.dropLast
    · rw [hg] at h; cases h
    · rename_i b
      rw [hg] at h
      simp only at h ⊢
      unfold putK at h ⊢
      by_cases h1 : ps.getD (ps.length - 1) 0 < 0 ∨ ((belowL ls who b).length : Int) < ps.getD (ps.length - 1) 0
      · rw [if_pos h1] at h; cases h
      · rw [if_neg h1] at h ⊢
        by_cases h2 : 4 ≤ ownN ls who ∨ 40 ≤ ls.length
        · rw [if_pos h2] at h; cases h
        · rw [if_neg h2]
          obtain ⟨k, hk⟩ := Int.eq_ofNat_of_zero_le (show 0 ≤ ps.getD (ps.length - 1) 0 by omega)
          refine ⟨hp, b, k, rfl, hk, by omega, by omega, by omega, ?_⟩
          rw [hk, Int.toNat_natCast]
theorem putF_nz {ls : List Lf} {who : Lab} {ps : List Int} {t : Int} (h : (putF ls who ps t).1 ≠ 0) : putF ls who ps t = (5, []) ∨ putF ls who ps t = (1, []) := by
  unfold putF at h ⊢
  by_cases hp : ps = []
  · rw [if_pos hp]; exact .inl rfl
  · rw [if_neg hp] at h ⊢
    cases hg : goF ls who (-1) ps.dropLast
    · exact .inl rfl
    · rename_i b
      rw [hg] at h
      simp only at h ⊢
      unfold putK at h ⊢
      split
      · exact .inl rfl
      · rename_i h1
        rw [if_neg h1] at h
        split
        · exact .inr rfl
        · rename_i h2
          rw [if_neg h2] at h
          exact absurd rfl h
theorem go_seen {ls : List Lf} {who : Lab} (ps : List Int) {b : Int} (h : goF ls who (-1) ps = some b) : At ls who b := by
  by_cases hp : ps = []
  · subst hp
    exact .inl (Option.some.inj h).symm
  · obtain ⟨i, h1, h2, h3⟩ := goF_at ps (-1) b h hp
    exact .inr ⟨i, h1, h2, h3⟩
theorem up_bounds {ls : List Lf} {who : Lab} {b : Int} (h : At ls who b) : -1 ≤ b ∧ b < ls.length := by
  rcases h with rfl | ⟨i, h1, rfl, _⟩ <;> omega
theorem putF_ok {ls : List Lf} (h : PageOk ls) {who : Lab} (hw : labOk who = true) {ps : List Int} {t : Int} (h0 : (putF ls who ps t).1 = 0) : PageOk (putF ls who ps t).2 ∧ (putF ls who ps t).2.length = ls.length + 1 := by
  obtain ⟨_, b, k, hg, _, hk, _, h40, e⟩ := putF_zero h0
  rw [e]
  have hat := go_seen _ hg
  obtain ⟨hb1, hb2⟩ := up_bounds hat
  obtain ⟨a1, a2, _⟩ := putAt_spec (who := who) h.up hb1 hb2 hk
  refine ⟨put_ok h h40 a1 hb1 a2 hw fun h5 => ?_, put_len a1⟩
  rcases hat with rfl | ⟨i, _, rfl, h6⟩
  · exact absurd h5 (by show ¬ (0 : Int) ≤ -1; omega)
  · exact h6
/-- the page behind a stroke that is done -/
theorem penC_ok {ls : List Lf} (h : PageOk ls) {s : Sk} (hw : labOk s.who = true) (h0 : (penC ls s).1 = 0) : PageOk (penC ls s).2 ∧ ((s.kind = 1 ∧ (penC ls s).2.length = ls.length + 1) ∨ (s.kind = 2 ∧ (penC ls s).2.length = ls.length) ∨ (s.kind = 3 ∧ (penC ls s).2.length < ls.length)) := by
  unfold penC at h0 ⊢
  by_cases h1 : s.kind = 1
  · rw [if_pos h1] at h0 ⊢
    obtain ⟨h2, h3⟩ := putF_ok h hw h0
    exact ⟨h2, .inl ⟨h1, h3⟩⟩
  · rw [if_neg h1] at h0 ⊢
    by_cases h2 : s.kind ≠ 2 ∧ s.kind ≠ 3
    · rw [if_pos h2] at h0; cases h0
    · rw [if_neg h2] at h0 ⊢
      by_cases h3 : (fndF ls s.who s.path).2 ≠ 0
      · rw [if_pos h3] at h0; exact absurd h0 h3
      · rw [if_neg h3] at h0 ⊢
        obtain ⟨_, i, _, hi, _, e⟩ := fnd_zero (Decidable.not_not.1 h3)
        rw [e, Int.toNat_natCast] at h0 ⊢
        by_cases h4 : lab (lfAt ls i) ≠ s.who
        · rw [if_pos h4] at h0; cases h0
        · rw [if_neg h4]
          by_cases h5 : s.kind = 3
          · rw [if_pos h5]; exact ⟨drop_ok h i, .inr (.inr ⟨h5, drop_less h.up hi⟩)⟩
          · rw [if_neg h5]; exact ⟨set_ok h i _, .inr (.inl ⟨by omega, set_len _ _ _⟩)⟩
theorem penC_nz {ls : List Lf} {s : Sk} (h : (penC ls s).1 ≠ 0) : (penC ls s).2 = [] := by
  unfold penC at h ⊢
  by_cases h1 : s.kind = 1
  · rw [if_pos h1] at h ⊢
    rcases putF_nz h with e | e <;> rw [e]
  · rw [if_neg h1] at h ⊢
    by_cases h2 : s.kind ≠ 2 ∧ s.kind ≠ 3
    · rw [if_pos h2]
    · rw [if_neg h2] at h ⊢
      by_cases h3 : (fndF ls s.who s.path).2 ≠ 0
      · rw [if_pos h3]
      · rw [if_neg h3] at h ⊢
        by_cases h4 : lab (lfAt ls (fndF ls s.who s.path).1.toNat) ≠ s.who
        · rw [if_pos h4]
        · rw [if_neg h4] at h
          by_cases h5 : s.kind = 3
          · rw [if_pos h5] at h; exact absurd rfl h
          · rw [if_neg h5] at h; exact absurd rfl h
/-! ### put, found, and taken again -/
theorem pen_back {ls : List Lf} (h : PageOk ls) {who : Lab} {ps : List Int} {t : Int} (h0 : (putF ls who ps t).1 = 0) :
    ∃ a : Nat, a < (putF ls who ps t).2.length ∧ fndF (putF ls who ps t).2 who ps = ((a : Int), 0) ∧ (lfAt (putF ls who ps t).2 a).2 = (t, who) ∧ dropL (putF ls who ps t).2 a = ls := by
  obtain ⟨hne, b, k, hg, hl, hk, _, _, e⟩ := putF_zero h0
  rw [e]
  have hat := go_seen _ hg
  obtain ⟨hb1, hb2⟩ := up_bounds hat
  obtain ⟨a1, a2, a3⟩ := putAt_spec (who := who) h.up hb1 hb2 hk
  refine ⟨putAt ls who b k, by rw [put_len a1]; omega, ?_, by rw [put_at a1], drop_put h.up a1 hb1 a2⟩
  have hf := find_put (x := (b, t, who)) h.up a1 a2 rfl (leB_refl who) hg a3
  have hps : ps.dropLast ++ [(k : Int)] = ps := by
    have h1 := List.dropLast_concat_getLast hne
    have h2 : ps.getLast hne = (k : Int) := by
      rw [← hl, List.getLast_eq_getElem, List.getD_eq_getElem?_getD, List.getElem?_eq_getElem (by have := List.length_pos_iff.2 hne; omega)]
      rfl
    rw [h2] at h1
    exact h1
  rw [hps] at hf
  unfold fndF
  rw [if_neg hne, hf]
/-! ### how many of a label -/
theorem own_sel {ls : List Lf} {g : Nat → Bool} (who : Lab) : ownN (selL g ls) who = cntI (fun i => g i && ownP ls who i) ls.length := by
  unfold ownN
  rw [selL_len, ← cntI_comp]
  apply cntI_congr
  intro i hi
  cases hg : g i
  · rfl
  · rw [Bool.true_and, Bool.true_and]
    unfold ownP
    rw [(sel_at hi hg).2, lab_renI]
theorem cntI_and_le (g h : Nat → Bool) : ∀ k, cntI (fun i => g i && h i) k ≤ cntI h k := by
  intro k
  induction k with
  | zero => exact Nat.le_refl _
  | succ k ih =>
    show cntI _ k + (if g k && h k then 1 else 0) ≤ cntI h k + (if h k then 1 else 0)
    cases g k <;> cases h k <;> simp <;> omega
theorem own_sel_le {ls : List Lf} {g : Nat → Bool} (who : Lab) : ownN (selL g ls) who ≤ ownN ls who := by
  rw [own_sel]
  exact cntI_and_le g _ _
theorem own_view {ls : List Lf} (hu : UpOk ls) {w who : Lab} (hle : leB w who = true) : ownN (viewL ls who) w = ownN ls w := by
  rw [view_sel hu, own_sel]
  apply cntI_congr
  intro i hi
  unfold ownP seenI seen
  by_cases h : lab (lfAt ls i) = w
  · rw [h, hle]; rfl
  · simp [h]
theorem own_put {ls : List Lf} (hu : UpOk ls) {a : Nat} {x : Lf} (ha : a ≤ ls.length) (hx : x.1 < a) (who : Lab) : ownN (putL ls a x) who = ownN ls who + if lab x = who then 1 else 0 := by
  have h1 := own_sel (ls := putL ls a x) (g := but a) who
  rw [put_sel hu ha hx] at h1
  rw [h1]
  have hat := put_at (x := x) ha
  have hlen := put_len (x := x) ha
  unfold ownN
  generalize putL ls a x = p at *
  have : ∀ k, k ≤ p.length → cntI (ownP p who) k = cntI (fun i => but a i && ownP p who i) k + if a < k ∧ lab x = who then 1 else 0 := by
    intro k
    induction k with
    | zero => intro _; rfl
    | succ k ih =>
      intro hk
      show cntI _ k + (if ownP p who k then 1 else 0) = cntI _ k + (if but a k && ownP p who k then 1 else 0) + _
      rw [ih (by omega)]
      by_cases e : k = a
      · subst e
        unfold ownP
        rw [hat]
        by_cases h2 : lab x = who
        · simp [h2, but]
        · simp [h2, but]
      · have hb : but a k = true := by simp [but, e]
        rw [hb, Bool.true_and]
        by_cases h2 : a < k
        · have : a < k + 1 := by omega
          simp only [h2, this, true_and]; omega
        · have : ¬ a < k + 1 := by omega
          simp only [h2, this, false_and, if_false]; omega
  rw [this _ (Nat.le_refl _)]
  have : a < p.length := by omega
  simp [this]
theorem own_set {ls : List Lf} {k : Nat} {t : Int} (who : Lab) : ownN (setL ls k t) who = ownN ls who := by
  unfold ownN
  rw [set_len]
  apply cntI_congr
  intro i hi
  unfold ownP
  rw [(set_up hi).2]
/-- no stroke but one that puts makes more of a label, and that no more than may be -/
theorem own_pen {ls : List Lf} (h : PageOk ls) {s : Sk} (h0 : (penC ls s).1 = 0) (L : Lab) : ownN (penC ls s).2 L ≤ ownN ls L + (if s.kind = 1 ∧ s.who = L then 1 else 0) ∧ (ownN ls L ≤ 4 → ownN (penC ls s).2 L ≤ 4) := by
  unfold penC at h0 ⊢
  by_cases h1 : s.kind = 1
  · rw [if_pos h1] at h0 ⊢
    obtain ⟨_, b, k, hg, _, hk, h4, _, e⟩ := putF_zero h0
    rw [e]
    have hat := go_seen _ hg
    obtain ⟨hb1, hb2⟩ := up_bounds hat
    obtain ⟨a1, a2, _⟩ := putAt_spec (who := s.who) h.up hb1 hb2 hk
    rw [show (0, putL ls (putAt ls s.who b k) (b, s.text, s.who)).2 = putL ls (putAt ls s.who b k) (b, s.text, s.who) from rfl, own_put h.up a1 a2]
    by_cases h5 : s.who = L
    · subst h5
      have e2 : lab (b, s.text, s.who) = s.who := rfl
      simp only [h1, e2, and_self, if_true]
      omega
    · have e2 : ¬ lab (b, s.text, s.who) = L := h5
      simp only [e2, h5, and_false, if_false]
      omega
  · rw [if_neg h1] at h0 ⊢
    by_cases h2 : s.kind ≠ 2 ∧ s.kind ≠ 3
    · rw [if_pos h2] at h0; cases h0
    · rw [if_neg h2] at h0 ⊢
      by_cases h3 : (fndF ls s.who s.path).2 ≠ 0
      · rw [if_pos h3] at h0; exact absurd h0 h3
      · rw [if_neg h3] at h0 ⊢
        by_cases h4 : lab (lfAt ls (fndF ls s.who s.path).1.toNat) ≠ s.who
        · rw [if_pos h4] at h0; cases h0
        · rw [if_neg h4]
          by_cases h5 : s.kind = 3
          · rw [if_pos h5]
            have := own_sel_le (ls := ls) (g := keepI ls (fndF ls s.who s.path).1.toNat) L
            show ownN (selL _ ls) L ≤ _ ∧ (_ → ownN (selL _ ls) L ≤ 4)
            omega
          · rw [if_neg h5]
            show ownN (setL ls _ _) L ≤ _ ∧ (_ → ownN (setL ls _ _) L ≤ 4)
            rw [own_set]
            omega
end Go.Proofs.Ytjcooagchjjknaa
