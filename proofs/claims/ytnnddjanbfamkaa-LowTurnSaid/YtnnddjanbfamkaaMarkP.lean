/- Nobody reads up and nothing goes down; nobody trusts less than it needs: the deeds as plain steps, and their laws. -/
import Derived.Test.YtnnddjanbfamkaaLabel
import Derived.Test.YtnnddjanbfamkaaOwn
namespace Go.Proofs.Ytnnddjanbfamkaa
open Go
set_option linter.unusedVariables false

/-- a deed: its kind, by whom, to which; and a label and a number that these do not look at -/
abbrev Dd := Int × Int × Int × Int × BitVec 32 × Int
def upd {α : Type} (m : Nat → α) (k : Nat) (x : α) : Nat → α := fun i => if i = k then x else m i
theorem upd_self {α : Type} (m : Nat → α) (k : Nat) (x : α) : upd m k x k = x := by unfold upd; rw [if_pos rfl]
theorem upd_ne {α : Type} (m : Nat → α) {k i : Nat} (x : α) (h : i ≠ k) : upd m k x i = m i := by unfold upd; rw [if_neg h]
/-- marks, what each one knows, and what has come into each thing -/
structure MSt where
  marks : Nat → Lab
  knows : Nat → BitVec 32
  from_ : Nat → BitVec 32
/-- what is wrong with a deed -/
def deedF (nc nt : Nat) (d : Dd) : Int :=
  if d.1 < 1 ∨ 3 < d.1 then 6
  else if d.2.1 < 0 ∨ (nc : Int) ≤ d.2.1 ∨ (d.1 ≠ 3 ∧ (d.2.2.1 < 0 ∨ (nt : Int) ≤ d.2.2.1)) then 2
  else 0
theorem deedF_zero {nc nt : Nat} {d : Dd} (h : deedF nc nt d = 0) : (d.1 = 3 ∧ ∃ u : Nat, d.2.1 = u ∧ u < nc) ∨ ((d.1 = 1 ∨ d.1 = 2) ∧ ∃ u t : Nat, d.2.1 = u ∧ u < nc ∧ d.2.2.1 = t ∧ t < nt) := by
  unfold deedF at h
  split at h
  · cases h
  split at h
  · cases h
  rename_i h1 h2
  obtain ⟨u, hu⟩ := Int.eq_ofNat_of_zero_le (show 0 ≤ d.2.1 by omega)
  by_cases h3 : d.1 = 3
  · exact .inl ⟨h3, u, hu, by omega⟩
  · obtain ⟨t, ht⟩ := Int.eq_ofNat_of_zero_le (show 0 ≤ d.2.2.1 by omega)
    exact .inr ⟨by omega, u, t, hu, by omega, ht, by omega⟩
/-- one deed, where nobody reads up -/
def markDo (nc nt : Nat) (clear things : Nat → Lab) (s : MSt) (d : Dd) : Int × MSt :=
  if deedF nc nt d ≠ 0 then (deedF nc nt d, s)
  else if d.1 = 3 then (0, ⟨upd s.marks d.2.1.toNat (0, 0#32), upd s.knows d.2.1.toNat 0#32, s.from_⟩)
  else if d.1 = 2 then (if leB (s.marks d.2.1.toNat) (things d.2.2.1.toNat) then (0, ⟨s.marks, s.knows, upd s.from_ d.2.2.1.toNat (s.from_ d.2.2.1.toNat ||| s.knows d.2.1.toNat)⟩) else (7, s))
  else (if leB (joinL (s.marks d.2.1.toNat) (things d.2.2.1.toNat)) (clear d.2.1.toNat) then (0, ⟨upd s.marks d.2.1.toNat (joinL (s.marks d.2.1.toNat) (things d.2.2.1.toNat)), upd s.knows d.2.1.toNat (s.knows d.2.1.toNat ||| s.from_ d.2.2.1.toNat), s.from_⟩) else (7, s))
/-- one deed, where nobody trusts less -/
def lowDo (nc nt : Nat) (clear things : Nat → Lab) (s : MSt) (d : Dd) : Int × MSt :=
  if deedF nc nt d ≠ 0 then (deedF nc nt d, s)
  else if d.1 = 3 then (0, ⟨upd s.marks d.2.1.toNat (clear d.2.1.toNat), upd s.knows d.2.1.toNat 0#32, s.from_⟩)
  else if d.1 = 2 then (if leB (things d.2.2.1.toNat) (s.marks d.2.1.toNat) then (0, ⟨s.marks, s.knows, upd s.from_ d.2.2.1.toNat (s.from_ d.2.2.1.toNat ||| s.knows d.2.1.toNat)⟩) else (7, s))
  else (0, ⟨upd s.marks d.2.1.toNat (meetL (s.marks d.2.1.toNat) (things d.2.2.1.toNat)), upd s.knows d.2.1.toNat (s.knows d.2.1.toNat ||| s.from_ d.2.2.1.toNat), s.from_⟩)
/-- the state and the codes behind a script -/
def stOf (f : MSt → Dd → Int × MSt) (s0 : MSt) (ds : List Dd) : MSt := ds.foldl (fun s d => (f s d).2) s0
def codesOf (f : MSt → Dd → Int × MSt) : MSt → List Dd → List Int
  | _, [] => []
  | s, d :: ds => (f s d).1 :: codesOf f (f s d).2 ds
theorem codesOf_length (f : MSt → Dd → Int × MSt) : ∀ (ds : List Dd) (s : MSt), (codesOf f s ds).length = ds.length := by
  intro ds
  induction ds with
  | nil => intro s; rfl
  | cons d ds ih => intro s; show (codesOf f _ ds).length + 1 = _; rw [ih]; rfl
theorem codesOf_append (f : MSt → Dd → Int × MSt) : ∀ (ds es : List Dd) (s : MSt), codesOf f s (ds ++ es) = codesOf f s ds ++ codesOf f (stOf f s ds) es := by
  intro ds
  induction ds with
  | nil => intro es s; rfl
  | cons d ds ih =>
    intro es s
    show (f s d).1 :: codesOf f (f s d).2 (ds ++ es) = _
    rw [ih]
    rfl
theorem stOf_append (f : MSt → Dd → Int × MSt) (s : MSt) (ds es : List Dd) : stOf f s (ds ++ es) = stOf f (stOf f s ds) es := by
  unfold stOf
  rw [List.foldl_append]
theorem stOf_snoc (f : MSt → Dd → Int × MSt) (s : MSt) (ds : List Dd) (k : Nat) (h : k < ds.length) : stOf f s (ds.take (k + 1)) = (f (stOf f s (ds.take k)) ds[k]).2 := by
  rw [take_snoc ds k h, stOf_append]
  rfl
theorem codesOf_snoc (f : MSt → Dd → Int × MSt) (s : MSt) (ds : List Dd) (k : Nat) (h : k < ds.length) : codesOf f s (ds.take (k + 1)) = codesOf f s (ds.take k) ++ [(f (stOf f s (ds.take k)) ds[k]).1] := by
  rw [take_snoc ds k h, codesOf_append]
  rfl
/-- what holds at the start and behind each deed holds behind a script -/
theorem stOf_inv (f : MSt → Dd → Int × MSt) (I : MSt → Prop) (hI : ∀ s d, I s → I (f s d).2) : ∀ (ds : List Dd) (s : MSt), I s → I (stOf f s ds) := by
  intro ds
  induction ds with
  | nil => intro s h; exact h
  | cons d ds ih => intro s h; exact ih _ (hI s d h)
/-! ### labels -/
theorem leB_iff {a b : Lab} : leB a b = true ↔ a.1 ≤ b.1 ∧ subB a.2 b.2 = true := by unfold leB; rw [Bool.and_eq_true, decide_eq_true_eq]
theorem leB_refl (a : Lab) : leB a a = true := leB_iff.2 ⟨Int.le_refl _, subB_refl _⟩
theorem leB_trans {a b c : Lab} (h : leB a b = true) (k : leB b c = true) : leB a c = true := by
  rw [leB_iff] at h k ⊢
  exact ⟨Int.le_trans h.1 k.1, subB_trans h.2 k.2⟩
theorem leB_join_left (a b : Lab) : leB a (joinL a b) = true := leB_iff.2 ⟨Int.le_max_left _ _, subB_or_left _ _⟩
theorem leB_join_right (a b : Lab) : leB b (joinL a b) = true := leB_iff.2 ⟨Int.le_max_right _ _, subB_or_right _ _⟩
theorem leB_meet_left (a b : Lab) : leB (meetL a b) a = true := leB_iff.2 ⟨Int.min_le_left _ _, by
  have : subB (a.2 &&& b.2) a.2 = true := subB_iff.2 fun i hi => by rw [BitVec.getLsbD_and, Bool.and_eq_true] at hi; exact hi.1
  exact this⟩
theorem leB_meet_right (a b : Lab) : leB (meetL a b) b = true := leB_iff.2 ⟨Int.min_le_right _ _, by
  have : subB (a.2 &&& b.2) b.2 = true := subB_iff.2 fun i hi => by rw [BitVec.getLsbD_and, Bool.and_eq_true] at hi; exact hi.2
  exact this⟩
/-! ### flow -/
structure FlowInv (nc nt : Nat) (clear things : Nat → Lab) (s : MSt) : Prop where
  mark : ∀ u, u < nc → leB (s.marks u) (clear u) = true
  own : ∀ t, t < nt → (s.from_ t).getLsbD t = true
  fit : ∀ t, t < nt → fitB nt (s.from_ t) = true
  into : ∀ t j, t < nt → j < nt → (s.from_ t).getLsbD j = true → leB (things j) (things t) = true
  kfit : ∀ u, u < nc → fitB nt (s.knows u) = true
  know : ∀ u j, u < nc → j < nt → (s.knows u).getLsbD j = true → leB (things j) (s.marks u) = true
section
variable {nc nt : Nat} {clear things : Nat → Lab} {s : MSt}
theorem FlowInv.start (hc : ∀ u, u < nc → labOk (clear u) = true) (h8 : nt ≤ 8) : FlowInv nc nt clear things ⟨fun _ => (0, 0#32), fun _ => 0#32, fun t => 1#32 <<< t⟩ := by
  refine ⟨fun u hu => ?_, fun t ht => ?_, fun t ht => ?_, fun t j ht hj h => ?_, fun u hu => fitB_zero _, fun u j hu hj h => ?_⟩
  · have := labOk_iff.1 (show labOk ((clear u).1, (clear u).2) = true from hc u hu)
    exact leB_iff.2 ⟨this.1, subB_zero _⟩
  · show (1#32 <<< t).getLsbD t = true
    rw [getLsbD_bit]; simp; omega
  · rw [fitB_iff]
    intro i hi
    have hi : (1#32 <<< t).getLsbD i = true := hi
    rw [getLsbD_bit, Bool.and_eq_true, decide_eq_true_eq] at hi
    omega
  · have h : (1#32 <<< t).getLsbD j = true := h
    rw [getLsbD_bit, Bool.and_eq_true, decide_eq_true_eq] at h
    rw [h.1]
    exact leB_refl _
  · simp at h
theorem FlowInv.do (hc : ∀ u, u < nc → labOk (clear u) = true) (h : FlowInv nc nt clear things s) (d : Dd) : FlowInv nc nt clear things (markDo nc nt clear things s d).2 := by
  unfold markDo
  by_cases h0 : deedF nc nt d = 0
  · rw [if_neg (by simpa using h0)]
    rcases deedF_zero h0 with ⟨h3, u, hu, hun⟩ | ⟨h12, u, t, hu, hun, ht, htn⟩
    · rw [if_pos h3, hu, Int.toNat_natCast]
      refine ⟨fun v hv => ?_, h.own, h.fit, h.into, fun v hv => ?_, fun v j hv hj hb => ?_⟩
      · show leB (upd s.marks u (0, 0#32) v) (clear v) = true
        unfold upd
        split
        · have := labOk_iff.1 (show labOk ((clear v).1, (clear v).2) = true from hc v hv)
          exact leB_iff.2 ⟨this.1, subB_zero _⟩
        · exact h.mark v hv
      · show fitB nt (upd s.knows u 0#32 v) = true
        unfold upd
        split
        · exact fitB_zero _
        · exact h.kfit v hv
      · have hb : (upd s.knows u 0#32 v).getLsbD j = true := hb
        show leB (things j) (upd s.marks u (0, 0#32) v) = true
        unfold upd at hb ⊢
        split at hb
        · simp at hb
        · rw [if_neg ‹_›]; exact h.know v j hv hj hb
    · rw [if_neg (by omega), hu, ht, Int.toNat_natCast, Int.toNat_natCast]
      by_cases h2 : d.1 = 2
      · rw [if_pos h2]
        split
        · rename_i hle
          refine ⟨h.mark, fun x hx => ?_, fun x hx => ?_, fun x j hx hj hb => ?_, h.kfit, h.know⟩
          · show (upd s.from_ t (s.from_ t ||| s.knows u) x).getLsbD x = true
            unfold upd
            split
            · rename_i e; rw [BitVec.getLsbD_or, ← e, h.own x hx]; rfl
            · exact h.own x hx
          · show fitB nt (upd s.from_ t (s.from_ t ||| s.knows u) x) = true
            unfold upd
            split
            · rw [fitB_or, h.fit t htn, h.kfit u hun]; rfl
            · exact h.fit x hx
          · have hb : (upd s.from_ t (s.from_ t ||| s.knows u) x).getLsbD j = true := hb
            unfold upd at hb
            split at hb
            · rename_i e
              subst e
              rw [BitVec.getLsbD_or, Bool.or_eq_true] at hb
              rcases hb with hb | hb
              · exact h.into x j hx hj hb
              · exact leB_trans (h.know u j hun hj hb) hle
            · exact h.into x j hx hj hb
        · exact h
      · rw [if_neg h2]
        split
        · rename_i hle
          refine ⟨fun v hv => ?_, h.own, h.fit, h.into, fun v hv => ?_, fun v j hv hj hb => ?_⟩
          · show leB (upd s.marks u _ v) (clear v) = true
            unfold upd
            split
            · rename_i e; rw [e]; exact hle
            · exact h.mark v hv
          · show fitB nt (upd s.knows u _ v) = true
            unfold upd
            split
            · rw [fitB_or, h.kfit u hun, h.fit t htn]; rfl
            · exact h.kfit v hv
          · have hb : (upd s.knows u (s.knows u ||| s.from_ t) v).getLsbD j = true := hb
            show leB (things j) (upd s.marks u _ v) = true
            unfold upd at hb ⊢
            split at hb
            · rw [if_pos ‹_›]
              rw [BitVec.getLsbD_or, Bool.or_eq_true] at hb
              rcases hb with hb | hb
              · exact leB_trans (h.know u j hun hj hb) (leB_join_left _ _)
              · exact leB_trans (h.into t j htn hj hb) (leB_join_right _ _)
            · rw [if_neg ‹_›]; exact h.know v j hv hj hb
        · exact h
  · rw [if_pos (by simpa using h0)]; exact h
/-! ### what has come stays -/
theorem from_grows (s : MSt) (d : Dd) (t : Nat) : subB (s.from_ t) ((markDo nc nt clear things s d).2.from_ t) = true := by
  unfold markDo
  split
  · exact subB_refl _
  split
  · exact subB_refl _
  split
  · split
    · show subB (s.from_ t) (upd s.from_ _ _ t) = true
      unfold upd
      split
      · rename_i e; rw [e]; exact subB_or_left _ _
      · exact subB_refl _
    · exact subB_refl _
  · split <;> exact subB_refl _
theorem from_grows_all (t : Nat) : ∀ (ds : List Dd) (s : MSt), subB (s.from_ t) ((stOf (markDo nc nt clear things) s ds).from_ t) = true := by
  intro ds
  induction ds with
  | nil => intro s; exact subB_refl _
  | cons d ds ih => intro s; exact subB_trans (from_grows s d t) (ih _)
/-! ### low -/
structure LowInv (nc nt : Nat) (clear things : Nat → Lab) (s : MSt) : Prop where
  mark : ∀ u, u < nc → leB (s.marks u) (clear u) = true
  into : ∀ t j, t < nt → j < nt → (s.from_ t).getLsbD j = true → leB (things t) (things j) = true
  know : ∀ u j, u < nc → j < nt → (s.knows u).getLsbD j = true → leB (s.marks u) (things j) = true
theorem LowInv.start (clear things : Nat → Lab) : LowInv nc nt clear things ⟨clear, fun _ => 0#32, fun t => 1#32 <<< t⟩ := by
  refine ⟨fun u hu => leB_refl _, fun t j ht hj h => ?_, fun u j hu hj h => by simp at h⟩
  have h : (1#32 <<< t).getLsbD j = true := h
  rw [getLsbD_bit, Bool.and_eq_true, decide_eq_true_eq] at h
  rw [h.1]
  exact leB_refl _
theorem LowInv.do (h : LowInv nc nt clear things s) (d : Dd) : LowInv nc nt clear things (lowDo nc nt clear things s d).2 := by
  unfold lowDo
  by_cases h0 : deedF nc nt d = 0
  · rw [if_neg (by simpa using h0)]
    rcases deedF_zero h0 with ⟨h3, u, hu, hun⟩ | ⟨h12, u, t, hu, hun, ht, htn⟩
    · rw [if_pos h3, hu, Int.toNat_natCast]
      refine ⟨fun v hv => ?_, h.into, fun v j hv hj hb => ?_⟩
      · show leB (upd s.marks u (clear u) v) (clear v) = true
        unfold upd
        split
        · rename_i e; rw [e]; exact leB_refl _
        · exact h.mark v hv
      · have hb : (upd s.knows u 0#32 v).getLsbD j = true := hb
        show leB (upd s.marks u (clear u) v) (things j) = true
        unfold upd at hb ⊢
        split at hb
        · simp at hb
        · rw [if_neg ‹_›]; exact h.know v j hv hj hb
    · rw [if_neg (by omega), hu, ht, Int.toNat_natCast, Int.toNat_natCast]
      by_cases h2 : d.1 = 2
      · rw [if_pos h2]
        split
        · rename_i hle
          refine ⟨h.mark, fun x j hx hj hb => ?_, h.know⟩
          have hb : (upd s.from_ t (s.from_ t ||| s.knows u) x).getLsbD j = true := hb
          unfold upd at hb
          split at hb
          · rename_i e
            subst e
            rw [BitVec.getLsbD_or, Bool.or_eq_true] at hb
            rcases hb with hb | hb
            · exact h.into x j hx hj hb
            · exact leB_trans hle (h.know u j hun hj hb)
          · exact h.into x j hx hj hb
        · exact h
      · rw [if_neg h2]
        refine ⟨fun v hv => ?_, h.into, fun v j hv hj hb => ?_⟩
        · show leB (upd s.marks u _ v) (clear v) = true
          unfold upd
          split
          · rename_i e; rw [e]; exact leB_trans (leB_meet_left _ _) (h.mark u hun)
          · exact h.mark v hv
        · have hb : (upd s.knows u (s.knows u ||| s.from_ t) v).getLsbD j = true := hb
          show leB (upd s.marks u _ v) (things j) = true
          unfold upd at hb ⊢
          split at hb
          · rw [if_pos ‹_›]
            rw [BitVec.getLsbD_or, Bool.or_eq_true] at hb
            rcases hb with hb | hb
            · exact leB_trans (leB_meet_left _ _) (h.know u j hun hj hb)
            · exact leB_trans (leB_meet_right _ _) (h.into t j htn hj hb)
          · rw [if_neg ‹_›]; exact h.know v j hv hj hb
  · rw [if_pos (by simpa using h0)]; exact h
/-! ### the other way up -/
def turnL (a : Lab) : Lab := (3 - a.1, 31#32 &&& ~~~a.2)
theorem turn_bit {x : BitVec 32} {i : Nat} : (31#32 &&& ~~~x).getLsbD i = (decide (i < 5) && !x.getLsbD i) := by
  have h31 : (31#32).getLsbD i = decide (i < 5) := by
    have := full_bit 5 i (by omega)
    exact this
  rw [BitVec.getLsbD_and, h31, BitVec.getLsbD_not]
  by_cases h : i < 5
  · have : i < 32 := by omega
    simp [h, this]
  · simp [h]
theorem leB_turn {a b : Lab} (ha : fitB 5 a.2 = true) : leB (turnL b) (turnL a) = leB a b := by
  rw [Bool.eq_iff_iff, leB_iff, leB_iff]
  have e : subB (31#32 &&& ~~~b.2) (31#32 &&& ~~~a.2) = true ↔ subB a.2 b.2 = true := by
    rw [subB_iff, subB_iff]
    constructor
    · intro h i hi
      have h5 := fitB_iff.1 ha i hi
      cases hb : b.2.getLsbD i
      · have := h i (by rw [turn_bit, hb]; simpa using h5)
        rw [turn_bit, hi] at this
        simp at this
      · rfl
    · intro h i hi
      rw [turn_bit, Bool.and_eq_true] at hi
      rw [turn_bit, hi.1, Bool.true_and]
      cases ha2 : a.2.getLsbD i
      · rfl
      · rw [h i ha2] at hi; cases hi.2
  show (3 - b.1 ≤ 3 - a.1 ∧ subB (31#32 &&& ~~~b.2) (31#32 &&& ~~~a.2) = true) ↔ _
  rw [e]
  constructor
  · rintro ⟨h1, h2⟩; exact ⟨by omega, h2⟩
  · rintro ⟨h1, h2⟩; exact ⟨by omega, h2⟩
theorem turn_meet (a b : Lab) : turnL (meetL a b) = joinL (turnL a) (turnL b) := by
  unfold turnL meetL joinL
  refine Prod.ext ?_ ?_
  · show 3 - min a.1 b.1 = max (3 - a.1) (3 - b.1)
    omega
  · show 31#32 &&& ~~~(a.2 &&& b.2) = (31#32 &&& ~~~a.2) ||| (31#32 &&& ~~~b.2)
    apply BitVec.eq_of_getLsbD_eq
    intro i _
    rw [BitVec.getLsbD_or, turn_bit, turn_bit, turn_bit, BitVec.getLsbD_and]
    cases decide (i < 5) <;> cases a.2.getLsbD i <;> cases b.2.getLsbD i <;> rfl
theorem turn_ok {a : Lab} (h : labOk a = true) : labOk (turnL a) = true := by
  obtain ⟨l, p⟩ := a
  have := labOk_iff.1 h
  unfold turnL
  refine labOk_iff.2 ⟨by show 0 ≤ 3 - l; omega, by show 3 - l ≤ 3; omega, ?_⟩
  rw [fitB_iff]
  intro i hi
  rw [turn_bit, Bool.and_eq_true, decide_eq_true_eq] at hi
  exact hi.1
theorem turn_turnL {a : Lab} (h : fitB 5 a.2 = true) : turnL (turnL a) = a := by
  unfold turnL
  refine Prod.ext ?_ ?_
  · show 3 - (3 - a.1) = a.1
    omega
  · show 31#32 &&& ~~~(31#32 &&& ~~~a.2) = a.2
    apply BitVec.eq_of_getLsbD_eq
    intro i _
    rw [turn_bit, turn_bit]
    by_cases h5 : i < 5
    · simp [h5]
    · cases hb : a.2.getLsbD i
      · simp [h5]
      · exact absurd (fitB_iff.1 h i hb) h5
/-- the two go side by side -/
structure Twin (nc nt : Nat) (things : Nat → Lab) (s o : MSt) : Prop where
  mark : ∀ u, u < nc → labOk (s.marks u) = true ∧ o.marks u = turnL (s.marks u)
  know : s.knows = o.knows
  into : s.from_ = o.from_
def topL : Lab := (3, 31#32)
theorem turn_top : turnL topL = (0, 0#32) := by decide
theorem meet_ok2 {a b : Lab} (ha : labOk a = true) (hb : labOk b = true) : labOk (meetL a b) = true := by
  obtain ⟨l, p⟩ := a
  obtain ⟨m, q⟩ := b
  have h1 := labOk_iff.1 ha
  have h2 := labOk_iff.1 hb
  refine labOk_iff.2 ⟨by show 0 ≤ min l m; omega, by show min l m ≤ 3; omega, ?_⟩
  rw [fitB_iff]
  intro i hi
  rw [BitVec.getLsbD_and, Bool.and_eq_true] at hi
  exact fitB_iff.1 h1.2.2 i hi.1
theorem le_top {a : Lab} (h : labOk a = true) : leB a topL = true := by
  obtain ⟨l, p⟩ := a
  have h1 := labOk_iff.1 h
  refine leB_iff.2 ⟨h1.2.1, subB_iff.2 fun i hi => ?_⟩
  have := fitB_iff.1 h1.2.2 i hi
  have h31 := full_bit 5 i (by omega)
  show (31#32).getLsbD i = true
  rw [show (31#32 : BitVec 32) = 1#32 <<< 5 - 1#32 by decide, h31]
  simpa using this
theorem Twin.do {o : MSt} (ht : ∀ t, t < nt → labOk (things t) = true) (h : Twin nc nt things s o) (d : Dd) :
    (lowDo nc nt (fun _ => topL) things s d).1 = (markDo nc nt (fun _ => topL) (fun t => turnL (things t)) o d).1 ∧
    Twin nc nt things (lowDo nc nt (fun _ => topL) things s d).2 (markDo nc nt (fun _ => topL) (fun t => turnL (things t)) o d).2 := by
  unfold lowDo markDo
  by_cases h0 : deedF nc nt d = 0
  · have hne : ¬ deedF nc nt d ≠ 0 := by simpa using h0
    simp only [if_neg hne]
    rcases deedF_zero h0 with ⟨h3, u, hu, hun⟩ | ⟨h12, u, t, hu, hun, ht2, htn⟩
    · simp only [if_pos h3, hu, Int.toNat_natCast]
      refine ⟨by simp, fun v hv => ?_, ?_, h.into⟩
      · show labOk (upd s.marks u topL v) = true ∧ upd o.marks u (0, 0#32) v = turnL (upd s.marks u topL v)
        unfold upd
        split
        · exact ⟨by decide, turn_top.symm⟩
        · exact h.mark v hv
      · show upd s.knows u 0#32 = upd o.knows u 0#32
        rw [h.know]
    · have h3 : ¬ d.1 = 3 := by omega
      simp only [if_neg h3, hu, ht2, Int.toNat_natCast]
      obtain ⟨hm1, hm2⟩ := h.mark u hun
      have htt := ht t htn
      by_cases h2 : d.1 = 2
      · simp only [if_pos h2]
        rw [hm2, leB_turn (labOk_iff.1 (show labOk ((things t).1, (things t).2) = true from htt)).2.2]
        split
        · refine ⟨rfl, h.mark, h.know, ?_⟩
          show upd s.from_ t _ = upd o.from_ t _
          rw [h.into, h.know]
        · exact ⟨rfl, h⟩
      · simp only [if_neg h2]
        rw [hm2, ← turn_meet, if_pos (le_top (turn_ok (meet_ok2 hm1 htt)))]
        refine ⟨by simp, fun v hv => ?_, ?_, h.into⟩
        · show labOk (upd s.marks u (meetL (s.marks u) (things t)) v) = true ∧ upd o.marks u (turnL (meetL (s.marks u) (things t))) v = turnL (upd s.marks u (meetL (s.marks u) (things t)) v)
          unfold upd
          split
          · exact ⟨meet_ok2 hm1 htt, rfl⟩
          · exact h.mark v hv
        · show upd s.knows u _ = upd o.knows u _
          rw [h.into, h.know]
  · have hne : deedF nc nt d ≠ 0 := by simpa using h0
    simp only [if_pos hne]
    exact ⟨by simp, h⟩
theorem Twin.all (ht : ∀ t, t < nt → labOk (things t) = true) : ∀ (ds : List Dd) (s o : MSt), Twin nc nt things s o →
    codesOf (lowDo nc nt (fun _ => topL) things) s ds = codesOf (markDo nc nt (fun _ => topL) (fun t => turnL (things t))) o ds ∧
    Twin nc nt things (stOf (lowDo nc nt (fun _ => topL) things) s ds) (stOf (markDo nc nt (fun _ => topL) (fun t => turnL (things t))) o ds) := by
  intro ds
  induction ds with
  | nil => intro s o h; exact ⟨rfl, h⟩
  | cons d ds ih =>
    intro s o h
    obtain ⟨h1, h2⟩ := h.do ht d
    obtain ⟨h3, h4⟩ := ih _ _ h2
    refine ⟨?_, h4⟩
    show (lowDo nc nt _ things s d).1 :: _ = (markDo nc nt _ _ o d).1 :: _
    rw [h1]
    exact congrArg _ h3
end
end Go.Proofs.Ytnnddjanbfamkaa
