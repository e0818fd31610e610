/- Matchings and the greatest sets apart: plain laws (Kuhn, Koenig, Dilworth). -/
import Derived.Test.YtgcpomdlajoifaaLongP
namespace Go.Proofs.Ytgcpomdlajoifaa
open Go Go.RowKit
set_option linter.unusedVariables false

/-- who goes on to whom: below 0: nobody -/
abbrev Ls := Nat → Int
/-- a set of things that a failed search leaves: each has one that goes on to it, and of that one all that come next are within the set -/
def ClosedT (E : Nat → Nat → Bool) (n : Nat) (last : Ls) (T : Nat → Prop) : Prop := ∀ j, j < n → T j → ∃ x : Nat, x < n ∧ last j = (x : Int) ∧ ∀ k, k < n → E x k = true → T k
/-- where only the unseen ones are looked at -/
structure FPre (E : Nat → Nat → Bool) (n : Nat) (last : Ls) (seen : Nat → Bool) (i : Nat) : Prop where
  lt : i < n
  ok : ∀ j, j < n → last j < 0 ∨ ∃ x : Nat, x < n ∧ last j = (x : Int) ∧ E x j = true
  inj : ∀ j k, j < n → k < n → seen j = false → seen k = false → last j = last k → 0 ≤ last j → j = k
  free : ∀ j, j < n → seen j = false → last j ≠ (i : Int)
structure FPost (E : Nat → Nat → Bool) (n : Nat) (last : Ls) (seen : Nat → Bool) (i : Nat) (b : Bool) (last' : Ls) (seen' : Nat → Bool) : Prop where
  more : ∀ j, seen j = true → seen' j = true
  ok : ∀ j, j < n → last' j < 0 ∨ ∃ x : Nat, x < n ∧ last' j = (x : Int) ∧ E x j = true
  keep : ∀ j, seen j = true → last' j = last j
  no : b = false → last' = last ∧ (∀ k, k < n → E i k = true → seen' k = true) ∧ ∀ j, j < n → seen' j = true → seen j = false → ∃ x : Nat, x < n ∧ last j = (x : Int) ∧ ∀ k, k < n → E x k = true → seen' k = true
  inj : b = true → ∀ j k, j < n → k < n → seen j = false → seen k = false → last' j = last' k → 0 ≤ last' j → j = k
  ends : b = true → ∀ x : Nat, (∃ j, j < n ∧ seen j = false ∧ last' j = (x : Int)) ↔ x = i ∨ ∃ j, j < n ∧ seen j = false ∧ last j = (x : Int)
  closed : ∀ T : Nat → Prop, ClosedT E n last T → (∀ j, j < n → T j → last' j = last j) ∧ ((∀ k, k < n → E i k = true → T k) → b = false)
/-- in the midst of a search from i: the first k things are looked at -/
structure FMid (E : Nat → Nat → Bool) (n : Nat) (last : Ls) (seen : Nat → Bool) (i k : Nat) (seen' : Nat → Bool) : Prop where
  more : ∀ j, seen j = true → seen' j = true
  done : ∀ j, j < k → E i j = true → seen' j = true
  shut : ∀ j, j < n → seen' j = true → seen j = false → ∃ x : Nat, x < n ∧ last j = (x : Int) ∧ ∀ k, k < n → E x k = true → seen' k = true
section
variable {E : Nat → Nat → Bool} {n : Nat} {last last' : Ls} {seen seen' seen'' : Nat → Bool} {i k : Nat}
theorem FMid.start : FMid E n last seen i 0 seen := ⟨fun _ h => h, fun j h => by omega, fun j _ h1 h2 => by rw [h1] at h2; cases h2⟩
/-- one that is not to be looked at -/
theorem FMid.skip (h : FMid E n last seen i k seen') (hk : E i k = false ∨ seen' k = true) : FMid E n last seen i (k + 1) seen' := by
  refine ⟨h.more, fun j hj he => ?_, h.shut⟩
  by_cases e : j = k
  · subst e
    rcases hk with hk | hk
    · rw [he] at hk; cases hk
    · exact hk
  · exact h.done j (by omega) he
/-- all are looked at -/
theorem FMid.none (h : FMid E n last seen i n seen') (hp : FPre E n last seen i) : FPost E n last seen i false last seen' :=
  ⟨h.more, hp.ok, fun _ _ => rfl, fun _ => ⟨rfl, fun k hk he => h.done k hk he, h.shut⟩, (fun hb => by cases hb), (fun hb => by cases hb), fun T _ => ⟨fun _ _ _ => rfl, fun _ => rfl⟩⟩
def mark (seen : Nat → Bool) (k : Nat) : Nat → Bool := fun j => j == k || seen j
theorem mark_same (k : Nat) : mark seen k k = true := by unfold mark; simp
theorem mark_other {j : Nat} (h : j ≠ k) : mark seen k j = seen j := by unfold mark; simp [h]
theorem mark_more {j : Nat} (h : seen j = true) : mark seen k j = true := by unfold mark; simp [h]
theorem mark_not {j : Nat} (h : mark seen k j = false) : j ≠ k ∧ seen j = false := by
  unfold mark at h
  simp at h
  exact h
def updL (last : Ls) (k : Nat) (v : Int) : Ls := fun j => if j = k then v else last j
theorem updL_same (k : Nat) (v : Int) : updL last k v k = v := by unfold updL; rw [if_pos rfl]
theorem updL_other {j : Nat} {v : Int} (h : j ≠ k) : updL last k v j = last j := by unfold updL; rw [if_neg h]
theorem FMid.unseen (h : FMid E n last seen i k seen') (hu : seen' k = false) : seen k = false := by
  cases hs : seen k with
  | false => rfl
  | true =>
    have := h.more k hs
    rw [hu] at this
    cases this
/-- it is free -/
theorem FMid.take (h : FMid E n last seen i k seen') (hp : FPre E n last seen i) (hk : k < n) (he : E i k = true) (hu : seen' k = false) (hl : last k < 0) : FPost E n last seen i true (updL last k (i : Int)) (mark seen' k) := by
  have hus := h.unseen hu
  have ne : ∀ j, seen j = true → j ≠ k := fun j hj e => by subst e; rw [hus] at hj; cases hj
  refine ⟨fun j hj => mark_more (h.more j hj), fun j hj => ?_, fun j hj => updL_other (ne j hj), (fun hb => by cases hb), fun _ j l hj hl2 uj ul e hge => ?_, fun _ x => ⟨?_, ?_⟩, fun T hT => ⟨fun j hj hTj => ?_, fun hN => ?_⟩⟩
  · by_cases e : j = k
    · subst e; rw [updL_same]; exact .inr ⟨i, hp.lt, rfl, he⟩
    · rw [updL_other e]; exact hp.ok j hj
  · by_cases e1 : j = k
    · by_cases e2 : l = k
      · omega
      · rw [e1, updL_same, updL_other e2] at e
        exact absurd e.symm (hp.free l hl2 ul)
    · by_cases e2 : l = k
      · rw [e2, updL_same, updL_other e1] at e
        exact absurd e (hp.free j hj uj)
      · rw [updL_other e1, updL_other e2] at e
        rw [updL_other e1] at hge
        exact hp.inj j l hj hl2 uj ul e hge
  · rintro ⟨j, hj, uj, e⟩
    by_cases e1 : j = k
    · rw [e1, updL_same] at e; exact .inl (by omega)
    · rw [updL_other e1] at e; exact .inr ⟨j, hj, uj, e⟩
  · rintro (rfl | ⟨j, hj, uj, e⟩)
    · exact ⟨k, hk, hus, updL_same _ _⟩
    · refine ⟨j, hj, uj, ?_⟩
      rw [updL_other]
      · exact e
      · rintro rfl; omega
  · obtain ⟨x, _, e, _⟩ := hT j hj hTj
    rw [updL_other]
    rintro rfl
    omega
  · obtain ⟨x, _, e, _⟩ := hT k hk (hN k hk he)
    omega
/-- whom it has is looked for another one -/
theorem FMid.sub (h : FMid E n last seen i k seen') (hp : FPre E n last seen i) (hk : k < n) (hu : seen' k = false) {x : Nat} (hx : x < n) (hl : last k = (x : Int)) : FPre E n last (mark seen' k) x := by
  have hus := h.unseen hu
  have un : ∀ j, mark seen' k j = false → seen j = false := fun j hj => by
    cases hs : seen j with
    | false => rfl
    | true =>
      have := h.more j hs
      rw [(mark_not hj).2] at this
      cases this
  refine ⟨hx, hp.ok, fun j l hj hl2 uj ul e hge => hp.inj j l hj hl2 (un j uj) (un l ul) e hge, fun j hj uj e => ?_⟩
  have := hp.inj j k hj hk (un j uj) hus (by rw [e, hl]) (by omega)
  exact (mark_not uj).1 this
theorem FMid.fail (h : FMid E n last seen i k seen') (hk : k < n) (hu : seen' k = false) {x : Nat} (hx : x < n) (hl : last k = (x : Int)) (P : FPost E n last (mark seen' k) x false last' seen'') : last' = last ∧ FMid E n last seen i (k + 1) seen'' := by
  obtain ⟨p1, p2, p3⟩ := P.no rfl
  have m2 : ∀ j, seen' j = true → seen'' j = true := fun j hj => P.more j (mark_more hj)
  refine ⟨p1, fun j hj => m2 j (h.more j hj), fun j hj he => ?_, fun j hj h2 h3 => ?_⟩
  · by_cases e : j = k
    · subst e; exact P.more j (mark_same j)
    · exact m2 j (h.done j (by omega) he)
  · by_cases e : j = k
    · subst e; exact ⟨x, hx, hl, p2⟩
    · cases hm : seen' j with
      | false => exact p3 j hj h2 (by rw [mark_other e]; exact hm)
      | true =>
        obtain ⟨y, hy, e2, hN⟩ := h.shut j hj hm h3
        exact ⟨y, hy, e2, fun q hq hE => m2 q (hN q hq hE)⟩
theorem FMid.found (h : FMid E n last seen i k seen') (hp : FPre E n last seen i) (hk : k < n) (he : E i k = true) (hu : seen' k = false) {x : Nat} (hx : x < n) (hl : last k = (x : Int)) (P : FPost E n last (mark seen' k) x true last' seen'') : FPost E n last seen i true (updL last' k (i : Int)) seen'' := by
  have hus := h.unseen hu
  have ne : ∀ j, seen j = true → j ≠ k := fun j hj e => by subst e; rw [hus] at hj; cases hj
  have un : ∀ j, mark seen' k j = false → seen j = false := fun j hj => by
    cases hs : seen j with
    | false => rfl
    | true =>
      have := h.more j hs
      rw [(mark_not hj).2] at this
      cases this
  have noi : ∀ l, l < n → seen l = false → l ≠ k → last' l ≠ (i : Int) := fun l hl2 ul e2 e => by
    cases hm : mark seen' k l with
    | true => rw [P.keep l hm] at e; exact hp.free l hl2 ul e
    | false =>
      rcases (P.ends rfl i).1 ⟨l, hl2, hm, e⟩ with e3 | ⟨j', h1, h2, h3⟩
      · subst e3; exact hp.free k hk hus hl
      · exact hp.free j' h1 (un j' h2) h3
  have mix : ∀ j l, j < n → l < n → seen j = false → seen l = false → j ≠ k → mark seen' k j = true → mark seen' k l = false → last' j = last' l → 0 ≤ last' j → False := by
    intro j l hj hl2 uj ul ejk mj ml e hge
    have e1 := P.keep j mj
    obtain ⟨y, hy⟩ := Int.eq_ofNat_of_zero_le hge
    rcases (P.ends rfl y).1 ⟨l, hl2, ml, by omega⟩ with e3 | ⟨j', h1, h2, h3⟩
    · exact ejk (hp.inj j k hj hk uj hus (by omega) (by omega))
    · have := hp.inj j' j h1 hj (un j' h2) uj (by omega) (by omega)
      subst this
      rw [mj] at h2
      cases h2
  have notT : ∀ T : Nat → Prop, ClosedT E n last T → ¬ T k := fun T hT hTk => by
    obtain ⟨y, _, e, hN⟩ := hT k hk hTk
    obtain rfl : x = y := by omega
    have := (P.closed T hT).2 hN
    cases this
  refine ⟨fun j hj => P.more j (mark_more (h.more j hj)), fun j hj => ?_, fun j hj => ?_, (fun hb => by cases hb), fun _ j l hj hl2 uj ul e hge => ?_, fun _ y => ⟨?_, ?_⟩, fun T hT => ⟨fun j hj hTj => ?_, fun hN => ?_⟩⟩
  · by_cases e : j = k
    · subst e; rw [updL_same]; exact .inr ⟨i, hp.lt, rfl, he⟩
    · rw [updL_other e]; exact P.ok j hj
  · rw [updL_other (ne j hj)]
    exact P.keep j (mark_more (h.more j hj))
  · by_cases e1 : j = k
    · by_cases e2 : l = k
      · omega
      · rw [e1, updL_same, updL_other e2] at e
        exact absurd e.symm (noi l hl2 ul e2)
    · by_cases e2 : l = k
      · rw [e2, updL_same, updL_other e1] at e
        exact absurd e (noi j hj uj e1)
      · rw [updL_other e1, updL_other e2] at e
        rw [updL_other e1] at hge
        cases mj : mark seen' k j with
        | true =>
          cases ml : mark seen' k l with
          | true => exact hp.inj j l hj hl2 uj ul (by rw [← P.keep j mj, ← P.keep l ml]; exact e) (by rw [← P.keep j mj]; exact hge)
          | false => exact (mix j l hj hl2 uj ul e1 mj ml e hge).elim
        | false =>
          cases ml : mark seen' k l with
          | true => exact (mix l j hl2 hj ul uj e2 ml mj e.symm (by omega)).elim
          | false => exact P.inj rfl j l hj hl2 mj ml e hge
  · rintro ⟨j, hj, uj, e⟩
    by_cases e1 : j = k
    · rw [e1, updL_same] at e; exact .inl (by omega)
    · rw [updL_other e1] at e
      cases mj : mark seen' k j with
      | true => exact .inr ⟨j, hj, uj, by rw [← P.keep j mj]; exact e⟩
      | false =>
        rcases (P.ends rfl y).1 ⟨j, hj, mj, e⟩ with rfl | ⟨j', h1, h2, h3⟩
        · exact .inr ⟨k, hk, hus, hl⟩
        · exact .inr ⟨j', h1, un j' h2, h3⟩
  · rintro (rfl | ⟨j, hj, uj, e⟩)
    · exact ⟨k, hk, hus, updL_same _ _⟩
    · by_cases e1 : j = k
      · subst e1
        obtain rfl : x = y := by omega
        obtain ⟨j', h1, h2, h3⟩ := (P.ends rfl x).2 (.inl rfl)
        exact ⟨j', h1, un j' h2, by rw [updL_other (mark_not h2).1]; exact h3⟩
      · cases mj : mark seen' k j with
        | true => exact ⟨j, hj, uj, by rw [updL_other e1, P.keep j mj]; exact e⟩
        | false =>
          obtain ⟨j', h1, h2, h3⟩ := (P.ends rfl y).2 (.inr ⟨j, hj, mj, e⟩)
          exact ⟨j', h1, un j' h2, by rw [updL_other (mark_not h2).1]; exact h3⟩
  · have hjk : j ≠ k := by rintro rfl; exact notT T hT hTj
    rw [updL_other hjk]
    exact (P.closed T hT).1 j hj hTj
  · exact absurd (hN k hk he) (notT T hT)
end
end Go.Proofs.Ytgcpomdlajoifaa
