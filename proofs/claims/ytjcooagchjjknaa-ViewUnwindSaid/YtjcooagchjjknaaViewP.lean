/- Who sees what: the nearest pair of states that is told apart; plain laws. -/
import Derived.Test.YtjcooagchjjknaaSl
namespace Go.Proofs.Ytjcooagchjjknaa
open Go Go.RowKit
set_option linter.unusedVariables false

/-- an act: whose, and which -/
abbrev Ac := Nat × Nat
abbrev Nx := Nat → Nat → Nat → Nat
def stepP (nx : Nx) (hid : BitVec 32) (p : Nat × Nat) (a : Ac) : Nat × Nat := (nx p.1 a.1 a.2, if hid.getLsbD a.1 = true then p.2 else nx p.2 a.1 a.2)
def runP (nx : Nx) (hid : BitVec 32) (p : Nat × Nat) (w : List Ac) : Nat × Nat := w.foldl (stepP nx hid) p
def leads (nx : Nx) (s : Nat) (w : List Ac) : Nat := w.foldl (fun s a => nx s a.1 a.2) s
def purge (hid : BitVec 32) (w : List Ac) : List Ac := w.filter fun a => !hid.getLsbD a.1
theorem run_leads (nx : Nx) (hid : BitVec 32) : ∀ (w : List Ac) (s t : Nat), runP nx hid (s, t) w = (leads nx s w, leads nx t (purge hid w)) := by
  intro w
  induction w with
  | nil => intro s t; rfl
  | cons a w ih =>
    intro s t
    have e : runP nx hid (s, t) (a :: w) = runP nx hid (stepP nx hid (s, t) a) w := rfl
    rw [e]
    unfold stepP purge
    rw [ih, List.filter_cons]
    cases h : hid.getLsbD a.1
    · rfl
    · rfl
theorem runP_snoc (nx : Nx) (hid : BitVec 32) (p : Nat × Nat) (w : List Ac) (a : Ac) : runP nx hid p (w ++ [a]) = stepP nx hid (runP nx hid p w) a := by
  unfold runP
  rw [List.foldl_append]
  rfl
def WordOk (U A : Nat) (w : List Ac) : Prop := ∀ a ∈ w, a.1 < U ∧ a.2 < A
/-- do all that are not hidden see the same? -/
def sameTo (se : Nat → Nat → Int) (hid : BitVec 32) (s t k : Nat) : Bool := (List.range k).all fun u => hid.getLsbD u || se s u == se t u
theorem sameTo_succ (se : Nat → Nat → Int) (hid : BitVec 32) (s t k : Nat) : sameTo se hid s t (k + 1) = (sameTo se hid s t k && (hid.getLsbD k || se s k == se t k)) := by
  unfold sameTo
  rw [List.range_succ, List.all_append]
  simp
theorem sameTo_iff {se : Nat → Nat → Int} {hid : BitVec 32} {s t k : Nat} : sameTo se hid s t k = true ↔ ∀ u, u < k → hid.getLsbD u = false → se s u = se t u := by
  unfold sameTo
  rw [List.all_eq_true]
  constructor
  · intro h u hu hh
    have := h u (List.mem_range.2 hu)
    rw [hh] at this
    simpa using this
  · intro h u hu
    cases hh : hid.getLsbD u
    · have := h u (List.mem_range.1 hu) hh
      simp [this]
    · rfl
theorem sameTo_refl (se : Nat → Nat → Int) (hid : BitVec 32) (s k : Nat) : sameTo se hid s s k = true := sameTo_iff.2 fun _ _ _ => rfl
theorem sameTo_symm {se : Nat → Nat → Int} {hid : BitVec 32} {s t k : Nat} (h : sameTo se hid s t k = true) : sameTo se hid t s k = true := sameTo_iff.2 fun u hu hh => (sameTo_iff.1 h u hu hh).symm
theorem sameTo_trans {se : Nat → Nat → Int} {hid : BitVec 32} {s t v k : Nat} (h : sameTo se hid s t k = true) (h' : sameTo se hid t v k = true) : sameTo se hid s v k = true := sameTo_iff.2 fun u hu hh => (sameTo_iff.1 h u hu hh).trans (sameTo_iff.1 h' u hu hh)
/-! ### the nearest ones first -/
abbrev Vs := List ((Nat × Nat) × List Ac)
/-- the pairs that were found, each with its word; k of them looked through, and of the next one's acts those of the users below u, and those below a of user u -/
structure LkI (N U A : Nat) (nx : Nx) (se : Nat → Nat → Int) (hid : BitVec 32) (vis : Vs) (k u a : Nat) : Prop where
  hd : vis[0]? = some ((0, 0), [])
  nd : (vis.map Prod.fst).Nodup
  ok : ∀ x ∈ vis, x.1.1 < N ∧ x.1.2 < N ∧ WordOk U A x.2 ∧ runP nx hid (0, 0) x.2 = x.1
  mono : ∀ (s t : Nat) x y, s ≤ t → vis[s]? = some x → vis[t]? = some y → x.2.length ≤ y.2.length
  top : ∀ x y, vis[k]? = some x → y ∈ vis → y.2.length ≤ x.2.length + 1
  idx : ∀ (t : Nat) x, vis[t]? = some x → x.2.length ≤ t
  done : ∀ t : Nat, t < k → ∀ x, vis[t]? = some x → sameTo se hid x.1.1 x.1.2 U = true ∧ ∀ c d, c < U → d < A → ∃ y ∈ vis, y.1 = stepP nx hid x.1 (c, d) ∧ y.2.length ≤ x.2.length + 1
  cur : ∀ x, vis[k]? = some x → ∀ c d, c < U → d < A → (c < u ∨ (c = u ∧ d < a)) → ∃ y ∈ vis, y.1 = stepP nx hid x.1 (c, d) ∧ y.2.length ≤ x.2.length + 1
  le : k ≤ vis.length
theorem nodup_bdV : ∀ (m : Nat) (l : List Nat), l.Nodup → (∀ x ∈ l, x < m) → l.length ≤ m := by
  intro m
  induction m with
  | zero =>
    intro l _ h
    cases l with
    | nil => simp
    | cons a t => exact absurd (h a (by simp)) (by omega)
  | succ m ih =>
    intro l hl h
    have h1 := ih (l.filter fun x => x != m) (List.Pairwise.filter _ hl) (fun x hx => by
      rw [List.mem_filter] at hx
      have h2 := h x hx.1
      have h3 : x ≠ m := by simpa using hx.2
      omega)
    have h2 : l.length ≤ (l.filter fun x => x != m).length + 1 := by
      clear h1 h ih
      induction l with
      | nil => simp
      | cons a t iht =>
        rw [List.nodup_cons] at hl
        rw [List.filter_cons]
        by_cases e : a = m
        · subst e
          have : (t.filter fun x => x != a) = t := by
            rw [List.filter_eq_self]
            intro x hx
            simp
            intro e
            subst e
            exact hl.1 hx
          simp [this]
        · have h3 := iht hl.2
          simp [e]
          omega
    omega
section
variable {N U A : Nat} {nx : Nx} {se : Nat → Nat → Int} {hid : BitVec 32} {vis : Vs} {k u a : Nat}
theorem LkI.start (hN : 0 < N) : LkI N U A nx se hid [((0, 0), [])] 0 0 0 where
  hd := rfl
  nd := by simp
  ok := fun x hx => by
    rw [List.mem_singleton] at hx
    subst hx
    have hw : WordOk U A [] := fun a ha => by cases ha
    exact ⟨hN, hN, hw, rfl⟩
  mono := fun s t x y _ hx hy => by
    have h1 := List.mem_of_getElem? hx
    have h2 := List.mem_of_getElem? hy
    rw [List.mem_singleton] at h1 h2
    subst h1 h2
    exact Nat.le_refl _
  top := fun x y _ hy => by
    rw [List.mem_singleton] at hy
    subst hy
    simp
  idx := fun t x hx => by
    have h1 := List.mem_of_getElem? hx
    rw [List.mem_singleton] at h1
    subst h1
    simp
  done := fun t ht => by omega
  cur := fun x _ c d _ _ h => by omega
  le := by simp
theorem LkI.len (h : LkI N U A nx se hid vis k u a) (hN : N ≤ 6) : vis.length ≤ 36 := by
  have := nodup_bdV 36 (vis.map fun x => x.1.1 * 6 + x.1.2) (by
    have hn := h.nd
    unfold List.Nodup at hn ⊢
    rw [List.pairwise_map] at hn ⊢
    refine List.Pairwise.imp_of_mem ?_ hn
    intro x y hx hy hne e
    have h1 := h.ok x hx
    have h2 := h.ok y hy
    exact hne (Prod.ext (by omega) (by omega))) (fun x hx => by
    obtain ⟨y, hy, rfl⟩ := List.mem_map.1 hx
    have h2 := h.ok y hy
    omega)
  simpa using this
/-- the successor is there already -/
theorem LkI.skip (h : LkI N U A nx se hid vis k u a) {x : (Nat × Nat) × List Ac} (hx : vis[k]? = some x) (hin : stepP nx hid x.1 (u, a) ∈ vis.map Prod.fst) : LkI N U A nx se hid vis k u (a + 1) := by
  refine ⟨h.hd, h.nd, h.ok, h.mono, h.top, h.idx, h.done, fun z hz c d hc hd hlt => ?_, h.le⟩
  rw [hx] at hz
  injection hz with hz
  subst hz
  by_cases e : c = u ∧ d = a
  · obtain ⟨rfl, rfl⟩ := e
    obtain ⟨y, hy, ey⟩ := List.mem_map.1 hin
    exact ⟨y, hy, ey, h.top x y hx hy⟩
  · exact h.cur x hx c d hc hd (by omega)
/-- a new one -/
theorem LkI.add (h : LkI N U A nx se hid vis k u a) {x : (Nat × Nat) × List Ac} (hx : vis[k]? = some x) (hu : u < U) (ha : a < A) (hnx : ∀ s, s < N → nx s u a < N) (hno : stepP nx hid x.1 (u, a) ∉ vis.map Prod.fst) :
    LkI N U A nx se hid (vis ++ [(stepP nx hid x.1 (u, a), x.2 ++ [(u, a)])]) k u (a + 1) := by
  have hkl : k < vis.length := (List.getElem?_eq_some_iff.1 hx).1
  have hxm := List.mem_of_getElem? hx
  obtain ⟨x1, x2, x3, x4⟩ := h.ok x hxm
  have old : ∀ t, t < vis.length → (vis ++ [(stepP nx hid x.1 (u, a), x.2 ++ [(u, a)])])[t]? = vis[t]? := fun t ht => List.getElem?_append_left ht
  have back : ∀ t z, (vis ++ [(stepP nx hid x.1 (u, a), x.2 ++ [(u, a)])])[t]? = some z → (t < vis.length ∧ vis[t]? = some z) ∨ (t = vis.length ∧ z = (stepP nx hid x.1 (u, a), x.2 ++ [(u, a)])) := by
    intro t z hz
    rcases Nat.lt_trichotomy t vis.length with hlt | e | hgt
    · rw [old t hlt] at hz
      exact .inl ⟨hlt, hz⟩
    · subst e
      rw [List.getElem?_append_right (Nat.le_refl _)] at hz
      simp at hz
      exact .inr ⟨rfl, hz.symm⟩
    · rw [List.getElem?_eq_none (by simp; omega)] at hz
      cases hz
  have hlen : (x.2 ++ [(u, a)]).length = x.2.length + 1 := by simp
  refine ⟨?_, ?_, fun z hz => ?_, fun s t y z hst hy hz => ?_, fun y z hy hz => ?_, fun t z hz => ?_, fun t ht z hz => ?_, fun z hz c d hc hd hlt => ?_, by simp; omega⟩
  · rw [old 0 (by omega)]
    exact h.hd
  · rw [List.map_append, List.nodup_append]
    refine ⟨h.nd, by simp, fun p hp q hq e => ?_⟩
    simp at hq
    subst hq e
    exact hno hp
  · rcases List.mem_append.1 hz with hz | hz
    · exact h.ok z hz
    · rw [List.mem_singleton] at hz
      subst hz
      refine ⟨hnx _ x1, ?_, fun b hb => ?_, ?_⟩
      · show (if hid.getLsbD u = true then x.1.2 else nx x.1.2 u a) < N
        split
        · exact x2
        · exact hnx _ x2
      · rcases List.mem_append.1 hb with hb | hb
        · exact x3 b hb
        · rw [List.mem_singleton] at hb
          subst hb
          exact ⟨hu, ha⟩
      · show runP nx hid (0, 0) (x.2 ++ [(u, a)]) = stepP nx hid x.1 (u, a)
        rw [runP_snoc, x4]
  · rcases back s y hy with ⟨hs, hy⟩ | ⟨rfl, rfl⟩
    · rcases back t z hz with ⟨ht, hz⟩ | ⟨rfl, rfl⟩
      · exact h.mono s t y z hst hy hz
      · have := h.top x y hx (List.mem_of_getElem? hy)
        simp only [hlen]
        omega
    · rcases back t z hz with ⟨ht, hz⟩ | ⟨rfl, rfl⟩
      · omega
      · exact Nat.le_refl _
  · rw [old k hkl, hx] at hy
    injection hy with hy
    subst hy
    rcases List.mem_append.1 hz with hz | hz
    · exact h.top x z hx hz
    · rw [List.mem_singleton] at hz
      subst hz
      simp only [hlen]
      omega
  · rcases back t z hz with ⟨ht, hz⟩ | ⟨rfl, rfl⟩
    · exact h.idx t z hz
    · have := h.idx k x hx
      simp only [hlen]
      omega
  · rw [old t (by omega)] at hz
    obtain ⟨p, q⟩ := h.done t ht z hz
    refine ⟨p, fun c d hc hd => ?_⟩
    obtain ⟨y, hy, r⟩ := q c d hc hd
    exact ⟨y, List.mem_append_left _ hy, r⟩
  · rw [old k hkl, hx] at hz
    injection hz with hz
    subst hz
    by_cases e : c = u ∧ d = a
    · obtain ⟨rfl, rfl⟩ := e
      exact ⟨(stepP nx hid x.1 (c, d), x.2 ++ [(c, d)]), by simp, rfl, by simp only [hlen]; omega⟩
    · obtain ⟨y, hy, r⟩ := h.cur x hx c d hc hd (by omega)
      exact ⟨y, List.mem_append_left _ hy, r⟩
theorem LkI.user (h : LkI N U A nx se hid vis k u A) : LkI N U A nx se hid vis k (u + 1) 0 :=
  ⟨h.hd, h.nd, h.ok, h.mono, h.top, h.idx, h.done, fun z hz c d hc hd hlt => h.cur z hz c d hc hd (by omega), h.le⟩
theorem LkI.next (h : LkI N U A nx se hid vis k U 0) {x : (Nat × Nat) × List Ac} (hx : vis[k]? = some x) (hs : sameTo se hid x.1.1 x.1.2 U = true) : LkI N U A nx se hid vis (k + 1) 0 0 := by
  have hkl : k < vis.length := (List.getElem?_eq_some_iff.1 hx).1
  refine ⟨h.hd, h.nd, h.ok, h.mono, fun y z hy hz => ?_, h.idx, fun t ht z hz => ?_, fun z hz c d hc hd hlt => by omega, by omega⟩
  · have h1 := h.top x z hx hz
    have h2 := h.mono k (k + 1) x y (by omega) hx hy
    omega
  · by_cases e : t = k
    · subst e
      rw [hx] at hz
      injection hz with hz
      subst hz
      exact ⟨hs, fun c d hc hd => h.cur x hx c d hc hd (.inl hc)⟩
    · exact h.done t (by omega) z hz
theorem LkI.find (h : LkI N U A nx se hid vis k u a) : ∀ (n : Nat) (w : List Ac), w.length = n → WordOk U A w → (∀ x, vis[k]? = some x → w.length < x.2.length) → ∃ t x, t < k ∧ vis[t]? = some x ∧ runP nx hid (0, 0) w = x.1 ∧ x.2.length ≤ w.length := by
  intro n
  induction n with
  | zero =>
    intro w hw _ hk
    obtain rfl : w = [] := List.eq_nil_of_length_eq_zero hw
    refine ⟨0, _, ?_, h.hd, rfl, Nat.le_refl _⟩
    refine Nat.pos_of_ne_zero fun e => ?_
    subst e
    have := hk _ h.hd
    simp at this
  | succ n ih =>
    intro w hw hok hk
    have hne : w ≠ [] := fun e => by subst e; simp at hw
    obtain ⟨v, b, rfl⟩ : ∃ v b, w = v ++ [b] := ⟨w.dropLast, w.getLast hne, (List.dropLast_concat_getLast hne).symm⟩
    rw [List.length_append, List.length_singleton] at hw
    obtain ⟨t, x, ht, hx, e, hl⟩ := ih v (by omega) (fun c hc => hok c (List.mem_append_left _ hc)) (fun x hx => by
      have := hk x hx
      rw [List.length_append, List.length_singleton] at this
      omega)
    obtain ⟨b1, b2⟩ := hok b (by simp)
    obtain ⟨y, hy, ey, hly⟩ := (h.done t ht x hx).2 b.1 b.2 b1 b2
    obtain ⟨t2, ht2, e2⟩ := List.getElem_of_mem hy
    have hy2 : vis[t2]? = some y := by rw [List.getElem?_eq_getElem ht2, e2]
    refine ⟨t2, y, ?_, hy2, by rw [runP_snoc, e, ey], by rw [List.length_append, List.length_singleton]; omega⟩
    refine Nat.lt_of_not_le fun hge => ?_
    have hkl : k < vis.length := by omega
    have h1 := h.mono k t2 vis[k] y hge (List.getElem?_eq_getElem hkl) hy2
    have h2 := hk vis[k] (List.getElem?_eq_getElem hkl)
    rw [List.length_append, List.length_singleton] at h2
    omega
/-- no word leaks -/
def Tight (U A : Nat) (nx : Nx) (se : Nat → Nat → Int) (hid : BitVec 32) : Prop := ∀ w, WordOk U A w → sameTo se hid (leads nx 0 w) (leads nx 0 (purge hid w)) U = true
/-- a shortest word that leaks -/
def Leaks (U A : Nat) (nx : Nx) (se : Nat → Nat → Int) (hid : BitVec 32) (w : List Ac) : Prop :=
  WordOk U A w ∧ sameTo se hid (leads nx 0 w) (leads nx 0 (purge hid w)) U = false ∧ ∀ v, WordOk U A v → sameTo se hid (leads nx 0 v) (leads nx 0 (purge hid v)) U = false → w.length ≤ v.length
theorem LkI.none (h : LkI N U A nx se hid vis k 0 0) (hk : k = vis.length) : Tight U A nx se hid := by
  intro w hw
  obtain ⟨t, x, ht, hx, e, _⟩ := h.find w.length w rfl hw (fun x hx => by
    subst hk
    rw [List.getElem?_eq_none (Nat.le_refl _)] at hx
    cases hx)
  have h1 := (h.done t ht x hx).1
  rw [← e, run_leads] at h1
  exact h1
theorem LkI.found (h : LkI N U A nx se hid vis k 0 0) {x : (Nat × Nat) × List Ac} (hx : vis[k]? = some x) (hs : sameTo se hid x.1.1 x.1.2 U = false) : Leaks U A nx se hid x.2 := by
  obtain ⟨_, _, x3, x4⟩ := h.ok x (List.mem_of_getElem? hx)
  refine ⟨x3, ?_, fun v hv hvs => ?_⟩
  · rw [← x4, run_leads] at hs
    exact hs
  · refine Nat.le_of_not_lt fun hlt => ?_
    obtain ⟨t, y, ht, hy, e, _⟩ := h.find v.length v rfl hv (fun z hz => by
      rw [hx] at hz
      injection hz with hz
      subst hz
      exact hlt)
    have h1 := (h.done t ht y hy).1
    rw [← e, run_leads, hvs] at h1
    cases h1
end
theorem tight_none (U A : Nat) (nx : Nx) (se : Nat → Nat → Int) : Tight U A nx se 0#32 := by
  intro w _
  have : purge 0#32 w = w := by
    unfold purge
    rw [List.filter_eq_self]
    intro a _
    simp
  rw [this]
  exact sameTo_refl _ _ _ _
theorem tight_all {U A : Nat} {nx : Nx} {se : Nat → Nat → Int} {hid : BitVec 32} (h : ∀ u, u < U → hid.getLsbD u = true) : Tight U A nx se hid := by
  intro w _
  refine sameTo_iff.2 fun u hu hh => ?_
  rw [h u hu] at hh
  cases hh
/-! ### parts -/
/-- alike, as far as parts tell; of the acts those of the users below c, and those below d of user c -/
def alikeTo (A : Nat) (nx : Nx) (hid : BitVec 32) (p : Nat → Nat) (s t c d : Nat) : Bool := (List.range c).all (fun u => (List.range A).all fun a => hid.getLsbD u || p (nx s u a) == p (nx t u a)) && (List.range d).all fun a => hid.getLsbD c || p (nx s c a) == p (nx t c a)
def alike (U A : Nat) (nx : Nx) (se : Nat → Nat → Int) (hid : BitVec 32) (p : Nat → Nat) (s t : Nat) : Bool := (p s == p t && sameTo se hid s t U) && alikeTo A nx hid p s t U 0
theorem alikeTo_act (A : Nat) (nx : Nx) (hid : BitVec 32) (p : Nat → Nat) (s t c d : Nat) : alikeTo A nx hid p s t c (d + 1) = (alikeTo A nx hid p s t c d && (hid.getLsbD c || p (nx s c d) == p (nx t c d))) := by
  unfold alikeTo
  rw [List.range_succ, List.all_append, Bool.and_assoc]
  simp
theorem alikeTo_user (A : Nat) (nx : Nx) (hid : BitVec 32) (p : Nat → Nat) (s t c : Nat) : alikeTo A nx hid p s t (c + 1) 0 = alikeTo A nx hid p s t c A := by
  unfold alikeTo
  rw [List.range_succ, List.all_append]
  simp
theorem alike_iff {U A : Nat} {nx : Nx} {se : Nat → Nat → Int} {hid : BitVec 32} {p : Nat → Nat} {s t : Nat} : alike U A nx se hid p s t = true ↔ p s = p t ∧ sameTo se hid s t U = true ∧ ∀ u a, u < U → a < A → hid.getLsbD u = false → p (nx s u a) = p (nx t u a) := by
  unfold alike alikeTo
  rw [Bool.and_eq_true, Bool.and_eq_true, beq_iff_eq, Bool.and_eq_true, List.all_eq_true]
  constructor
  · rintro ⟨⟨h1, h2⟩, h3, _⟩
    refine ⟨h1, h2, fun u a hu ha hh => ?_⟩
    have := h3 u (List.mem_range.2 hu)
    rw [List.all_eq_true] at this
    have := this a (List.mem_range.2 ha)
    rw [hh] at this
    simpa using this
  · rintro ⟨h1, h2, h3⟩
    refine ⟨⟨h1, h2⟩, fun u hu => ?_, by simp⟩
    rw [List.all_eq_true]
    intro a ha
    cases hh : hid.getLsbD u
    · have := h3 u a (List.mem_range.1 hu) (List.mem_range.1 ha) hh
      simp [this]
    · rfl
/-- the least one below s that is alike, those below t still to be looked at: r so far -/
def leastF (q : Nat → Bool) (s : Nat) : Nat → Nat
  | 0 => s
  | t + 1 => if q (s - (t + 1)) = true then s - (t + 1) else leastF q s t
theorem leastF_succ (q : Nat → Bool) (s t : Nat) : leastF q s (t + 1) = if q (s - (t + 1)) = true then s - (t + 1) else leastF q s t := rfl
/-- the next parts -/
def nextP (U A : Nat) (nx : Nx) (se : Nat → Nat → Int) (hid : BitVec 32) (p : Nat → Nat) (s : Nat) : Nat := leastF (alike U A nx se hid p s) s s
theorem leastF_spec (q : Nat → Bool) (s : Nat) : ∀ t, t ≤ s → leastF q s t ≤ s ∧ (leastF q s t = s ∨ q (leastF q s t) = true) ∧ ∀ j, s - t ≤ j → j < leastF q s t → q j = false := by
  intro t
  induction t with
  | zero =>
    intro _
    exact ⟨Nat.le_refl _, .inl rfl, fun j h1 h2 => by
      have : leastF q s 0 = s := rfl
      omega⟩
  | succ t ih =>
    intro ht
    obtain ⟨h1, h2, h3⟩ := ih (by omega)
    rw [leastF_succ]
    by_cases hq : q (s - (t + 1)) = true
    · rw [if_pos hq]
      exact ⟨by omega, .inr hq, fun j h1 h2 => by omega⟩
    · rw [if_neg hq]
      refine ⟨h1, h2, fun j hj1 hj2 => ?_⟩
      by_cases e : j = s - (t + 1)
      · subst e
        simpa using hq
      · exact h3 j (by omega) hj2
/-- each stands for the least one of its part -/
def CanP (N : Nat) (p : Nat → Nat) : Prop := ∀ s, s < N → p s ≤ s ∧ p (p s) = p s
section
variable {N U A : Nat} {nx : Nx} {se : Nat → Nat → Int} {hid : BitVec 32} {p : Nat → Nat}
theorem nextP_spec (s : Nat) : nextP U A nx se hid p s ≤ s ∧ (nextP U A nx se hid p s = s ∨ alike U A nx se hid p s (nextP U A nx se hid p s) = true) ∧ ∀ j, j < nextP U A nx se hid p s → alike U A nx se hid p s j = false := by
  obtain ⟨h1, h2, h3⟩ := leastF_spec (alike U A nx se hid p s) s s (Nat.le_refl _)
  exact ⟨h1, h2, fun j hj => h3 j (by omega) hj⟩
theorem alike_refl (s : Nat) : alike U A nx se hid p s s = true := alike_iff.2 ⟨rfl, sameTo_refl _ _ _ _, fun _ _ _ _ _ => rfl⟩
theorem alike_symm {s t : Nat} (h : alike U A nx se hid p s t = true) : alike U A nx se hid p t s = true := by
  obtain ⟨h1, h2, h3⟩ := alike_iff.1 h
  exact alike_iff.2 ⟨h1.symm, sameTo_symm h2, fun u a hu ha hh => (h3 u a hu ha hh).symm⟩
theorem alike_trans {s t v : Nat} (h : alike U A nx se hid p s t = true) (k : alike U A nx se hid p t v = true) : alike U A nx se hid p s v = true := by
  obtain ⟨h1, h2, h3⟩ := alike_iff.1 h
  obtain ⟨k1, k2, k3⟩ := alike_iff.1 k
  exact alike_iff.2 ⟨h1.trans k1, sameTo_trans h2 k2, fun u a hu ha hh => (h3 u a hu ha hh).trans (k3 u a hu ha hh)⟩
theorem nextP_alike (s : Nat) : alike U A nx se hid p s (nextP U A nx se hid p s) = true := by
  rcases (nextP_spec (U := U) (A := A) (nx := nx) (se := se) (hid := hid) (p := p) s).2.1 with h | h
  · rw [h]; exact alike_refl s
  · exact h
theorem nextP_can : CanP N (nextP U A nx se hid p) := by
  intro s hs
  obtain ⟨h1, h2, h3⟩ := nextP_spec (U := U) (A := A) (nx := nx) (se := se) (hid := hid) (p := p) s
  refine ⟨h1, ?_⟩
  obtain ⟨k1, k2, k3⟩ := nextP_spec (U := U) (A := A) (nx := nx) (se := se) (hid := hid) (p := p) (nextP U A nx se hid p s)
  rcases Nat.lt_or_ge (nextP U A nx se hid p (nextP U A nx se hid p s)) (nextP U A nx se hid p s) with hlt | hge
  · have := h3 _ hlt
    rw [alike_trans (nextP_alike s) (nextP_alike _)] at this
    cases this
  · omega
theorem nextP_part (s : Nat) : p (nextP U A nx se hid p s) = p s := (alike_iff.1 (nextP_alike s)).1.symm
/-- how many stand for themselves -/
def fixN (N : Nat) (p : Nat → Nat) : Nat := ((List.range N).filter fun s => p s == s).length
theorem fixN_le (N : Nat) (p : Nat → Nat) : fixN N p ≤ N := by
  unfold fixN
  have := List.length_filter_le (fun s => p s == s) (List.range N)
  simpa using this
theorem filter_lessV {α : Type} (q r : α → Bool) : ∀ l : List α, (∀ x ∈ l, q x = true → r x = true) → (l.filter q).length ≤ (l.filter r).length ∧ ((l.filter q).length = (l.filter r).length → ∀ x ∈ l, q x = r x) := by
  intro l
  induction l with
  | nil => intro _; exact ⟨Nat.le_refl _, fun _ x hx => by cases hx⟩
  | cons a l ih =>
    intro h
    obtain ⟨i1, i2⟩ := ih (fun x hx => h x (List.mem_cons_of_mem _ hx))
    have ha := h a (List.mem_cons_self ..)
    rw [List.filter_cons, List.filter_cons]
    cases hq : q a <;> cases hr : r a
    · simp only [Bool.false_eq_true, if_false]
      exact ⟨i1, fun e x hx => by
        rcases List.mem_cons.1 hx with rfl | hx
        · rw [hq, hr]
        · exact i2 e x hx⟩
    · simp only [Bool.false_eq_true, if_false, if_true, List.length_cons]
      exact ⟨by omega, fun e => by omega⟩
    · rw [ha hq] at hr; cases hr
    · simp only [if_true, List.length_cons]
      exact ⟨by omega, fun e x hx => by
        rcases List.mem_cons.1 hx with rfl | hx
        · rw [hq, hr]
        · exact i2 (by omega) x hx⟩
/-- a round that turns something tells more of them apart -/
theorem nextP_more (hc : CanP N p) : fixN N p ≤ fixN N (nextP U A nx se hid p) ∧ (fixN N p = fixN N (nextP U A nx se hid p) → ∀ s, s < N → nextP U A nx se hid p s = p s) := by
  have hsub : ∀ s ∈ List.range N, (p s == s) = true → (nextP U A nx se hid p s == s) = true := by
    intro s hs h
    rw [List.mem_range] at hs
    rw [beq_iff_eq] at h ⊢
    have h1 := (nextP_spec (U := U) (A := A) (nx := nx) (se := se) (hid := hid) (p := p) s).1
    have h2 := nextP_part (U := U) (A := A) (nx := nx) (se := se) (hid := hid) (p := p) s
    have h3 := (hc (nextP U A nx se hid p s) (by omega)).1
    omega
  obtain ⟨h1, h2⟩ := filter_lessV _ _ (List.range N) hsub
  refine ⟨h1, fun e s hs => ?_⟩
  have h3 := (nextP_spec (U := U) (A := A) (nx := nx) (se := se) (hid := hid) (p := p) s).1
  have h4 := h2 e (nextP U A nx se hid p s) (List.mem_range.2 (by omega))
  rw [(nextP_can (N := N) s hs).2] at h4
  simp only [beq_self_eq_true, beq_iff_eq] at h4
  rw [nextP_part (p := p)] at h4
  exact h4.symm
/-- what Parts hands back -/
structure PartI (N U A : Nat) (nx : Nx) (se : Nat → Nat → Int) (hid : BitVec 32) (p : Nat → Nat) : Prop where
  can : CanP N p
  fix : ∀ s, s < N → nextP U A nx se hid p s = p s
theorem PartI.like (h : PartI N U A nx se hid p) {s : Nat} (hs : s < N) : alike U A nx se hid p s (p s) = true := by
  have := nextP_alike (U := U) (A := A) (nx := nx) (se := se) (hid := hid) (p := p) s
  rw [h.fix s hs] at this
  exact this
theorem PartI.both (h : PartI N U A nx se hid p) {s t : Nat} (hs : s < N) (ht : t < N) (e : p s = p t) : alike U A nx se hid p s t = true := by
  have h1 := h.like hs
  have h2 := h.like ht
  rw [e] at h1
  exact alike_trans h1 (alike_symm h2)
/-- hidden acts that do not leave their parts leak nothing -/
theorem PartI.tight (h : PartI N U A nx se hid p) (hN : 0 < N) (hnx : ∀ s u a, s < N → u < U → a < A → nx s u a < N) (hst : ∀ s u a, s < N → u < U → a < A → hid.getLsbD u = true → p (nx s u a) = p s) : Tight U A nx se hid := by
  have key : ∀ (w : List Ac), WordOk U A w → ∀ s t, s < N → t < N → p s = p t → (leads nx s w < N ∧ leads nx t (purge hid w) < N) ∧ p (leads nx s w) = p (leads nx t (purge hid w)) := by
    intro w
    induction w with
    | nil => intro _ s t hs ht e; exact ⟨⟨hs, ht⟩, e⟩
    | cons a w ih =>
      intro hw s t hs ht e
      obtain ⟨a1, a2⟩ := hw a (by simp)
      have hw2 : WordOk U A w := fun b hb => hw b (List.mem_cons_of_mem _ hb)
      unfold purge
      rw [List.filter_cons]
      cases hh : hid.getLsbD a.1
      · simp only [Bool.not_false, if_true]
        exact ih hw2 (nx s a.1 a.2) (nx t a.1 a.2) (hnx _ _ _ hs a1 a2) (hnx _ _ _ ht a1 a2) ((alike_iff.1 (h.both hs ht e)).2.2 _ _ a1 a2 hh)
      · simp only [Bool.not_true, Bool.false_eq_true, if_false]
        exact ih hw2 (nx s a.1 a.2) t (hnx _ _ _ hs a1 a2) ht ((hst _ _ _ hs a1 a2 hh).trans e)
  intro w hw
  obtain ⟨⟨h1, h2⟩, h3⟩ := key w hw 0 0 hN hN rfl
  exact (alike_iff.1 (h.both h1 h2 h3)).2.1
end
end Go.Proofs.Ytjcooagchjjknaa
