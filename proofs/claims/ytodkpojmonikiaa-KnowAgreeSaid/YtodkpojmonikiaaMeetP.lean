/- Who is joined with whom, by rows of numbers: plain facts, with no program in sight. -/
import Derived.Test.YtodkpojmonikiaaKnowP
namespace Go.Proofs.Ytodkpojmonikiaa
open Go Go.RowKit

/-- some row has the same for both -/
def AdjR (n : Nat) (rows : List (List Int)) (w v : Nat) : Prop := w < n ∧ v < n ∧ ∃ r ∈ rows, iat r w = iat r v
def Conn (n : Nat) (rows : List (List Int)) (w v : Nat) : Prop := ∀ S : Nat → Prop, S w → (∀ x y, AdjR n rows x y → S x → S y) → S v
section
variable {n : Nat} {rows : List (List Int)}
theorem AdjR.symm {w v : Nat} (h : AdjR n rows w v) : AdjR n rows v w := ⟨h.2.1, h.1, by obtain ⟨r, hr, e⟩ := h.2.2; exact ⟨r, hr, e.symm⟩⟩
theorem Conn.refl (w : Nat) : Conn n rows w w := fun _ h _ => h
theorem Conn.trans {a b c : Nat} (h : Conn n rows a b) (k : Conn n rows b c) : Conn n rows a c := fun S ha hp => k S (h S ha hp) hp
theorem Conn.adj {a b : Nat} (h : AdjR n rows a b) : Conn n rows a b := fun _ ha hp => hp a b h ha
theorem Conn.symm {a b : Nat} (h : Conn n rows a b) : Conn n rows b a := h (fun x => Conn n rows x a) (Conn.refl a) fun _ _ hxy hx => (Conn.adj hxy.symm).trans hx
theorem Conn.lt {a b : Nat} (ha : a < n) (h : Conn n rows a b) : b < n := h (fun x => x < n) ha fun _ _ hxy _ => hxy.2.1
end
/-- labels that are joined with what they label -/
def Lab (n : Nat) (rows : List (List Int)) (p : Nat → Nat) : Prop := ∀ w, w < n → p w < n ∧ Conn n rows w (p w)
/-- the least of those that are joined with it -/
def Lst (n : Nat) (rows : List (List Int)) (m : Nat) : Prop := m < n ∧ ∀ x, Conn n rows m x → m ≤ x
def Shut (n : Nat) (rows : List (List Int)) (p : Nat → Nat) (m : Nat) : Prop := ∀ x y, AdjR n rows x y → p x = m → p y = m
def cntL (n : Nat) (p : Nat → Nat) (m : Nat) : Nat := (List.range n).countP fun w => p w == m
/-- behind k rounds -/
def Rnd (n : Nat) (rows : List (List Int)) (k : Nat) (p : Nat → Nat) : Prop := Lab n rows p ∧ (∀ w, w < n → p w ≤ w) ∧ ∀ m, Lst n rows m → Shut n rows p m ∨ k + 1 ≤ cntL n p m
theorem countP_le2 {α : Type} {p q : α → Bool} {l : List α} (h : ∀ x ∈ l, p x = true → q x = true) : l.countP p ≤ l.countP q := List.countP_mono_left h
theorem countP_lt2 {α : Type} {p q : α → Bool} : ∀ {l : List α}, (∀ x ∈ l, p x = true → q x = true) → ∀ {a : α}, a ∈ l → q a = true → p a = false → l.countP p < l.countP q := by
  intro l
  induction l with
  | nil => intro _ a ha; simp at ha
  | cons x t ih =>
    intro h a ha hq hp
    have ht : ∀ y ∈ t, p y = true → q y = true := fun y hy => h y (by simp [hy])
    rw [List.countP_cons, List.countP_cons]
    rcases List.mem_cons.1 ha with rfl | ha
    · rw [hp, hq]
      have := countP_le2 ht
      simp
      omega
    · have h1 := ih ht ha hq hp
      by_cases hx : p x = true
      · rw [hx, h x (by simp) hx]
        omega
      · simp only [hx]
        simp
        omega
section
variable {n : Nat} {rows : List (List Int)} {p q : Nat → Nat} {k m : Nat}
theorem Lst.lab (h : Lst n rows m) (hp : Rnd n rows k p) : p m = m := by
  have h1 := hp.2.1 m h.1
  have h2 := h.2 _ ((hp.1 m h.1).2)
  omega
theorem Rnd.start (n : Nat) (rows : List (List Int)) : Rnd n rows 0 fun w => w := by
  refine ⟨fun w hw => ⟨hw, Conn.refl w⟩, fun w _ => Nat.le_refl w, fun m hm => .inr ?_⟩
  have : 0 < cntL n (fun w => w) m := by
    unfold cntL
    rw [List.countP_pos_iff]
    exact ⟨m, List.mem_range.2 hm.1, by simp⟩
  omega
/-- one round: no label rises, and each is no more than its neighbours' were -/
theorem Rnd.step (h : Rnd n rows k p) (hl : Lab n rows q) (ha : ∀ w, w < n → q w ≤ p w) (hb : ∀ x y, AdjR n rows x y → q x ≤ p y) : Rnd n rows (k + 1) q := by
  refine ⟨hl, fun w hw => Nat.le_trans (ha w hw) (h.2.1 w hw), fun m hm => ?_⟩
  have low : ∀ x, x < n → Conn n rows m x → m ≤ q x := fun x hx hc => hm.2 _ (hc.trans (hl x hx).2)
  have conn : ∀ x, x < n → p x = m → Conn n rows m x := fun x hx e => by
    have := (h.1 x hx).2
    rw [e] at this
    exact this.symm
  have keep : ∀ x, x < n → p x = m → q x = m := fun x hx e => by
    have h1 := ha x hx
    have h2 := low x hx (conn x hx e)
    omega
  have grow : ∀ x y, AdjR n rows x y → p x = m → q y = m := fun x y hxy e => by
    have h1 := hb y x hxy.symm
    have h2 := low y hxy.2.1 ((conn x hxy.1 e).trans (Conn.adj hxy))
    omega
  have mono : ∀ x ∈ List.range n, (p x == m) = true → (q x == m) = true := fun x hx e => by
    rw [beq_iff_eq] at e ⊢
    exact keep x (List.mem_range.1 hx) e
  by_cases hs : Shut n rows p m
  · by_cases hs2 : Shut n rows q m
    · exact .inl hs2
    · exfalso
      apply hs2
      have full : ∀ x, Conn n rows m x → p x = m := fun x hc => hc (fun z => p z = m) (hm.lab h) fun a b hab e => hs a b hab e
      intro x y hxy e
      have hx : Conn n rows m x := by
        have := (hl x hxy.1).2
        rw [e] at this
        exact this.symm
      exact keep y hxy.2.1 (full y (hx.trans (Conn.adj hxy)))
  · right
    have hc : k + 1 ≤ cntL n p m := (h.2.2 m hm).resolve_left hs
    have : ∃ x y, AdjR n rows x y ∧ p x = m ∧ p y ≠ m := by
      refine Classical.byContradiction fun hno => hs fun x y hxy e => ?_
      exact Classical.byContradiction fun hne => hno ⟨x, y, hxy, e, hne⟩
    obtain ⟨x, y, hxy, e, hne⟩ := this
    have : cntL n p m < cntL n q m := countP_lt2 mono (List.mem_range.2 hxy.2.1) (by rw [beq_iff_eq]; exact grow x y hxy e) (by simpa using hne)
    omega
theorem Rnd.done (h : Rnd n rows n p) {w v : Nat} (hw : w < n) (hv : v < n) : p w = p v ↔ Conn n rows w v := by
  have least : ∀ d x, x ≤ d → x < n → ∃ m, Lst n rows m ∧ Conn n rows m x := by
    intro d
    induction d with
    | zero =>
      intro x hx hxn
      have : x = 0 := by omega
      subst this
      exact ⟨0, ⟨hxn, fun y _ => Nat.zero_le y⟩, Conn.refl 0⟩
    | succ d ih =>
      intro x hx hxn
      by_cases hl : ∀ y, Conn n rows x y → x ≤ y
      · exact ⟨x, ⟨hxn, hl⟩, Conn.refl x⟩
      · have : ∃ y, Conn n rows x y ∧ y < x := by
          refine Classical.byContradiction fun hno => hl fun y hy => ?_
          rcases Nat.lt_or_ge y x with h1 | h1
          · exact absurd ⟨y, hy, h1⟩ hno
          · exact h1
        obtain ⟨y, hy, hlt⟩ := this
        obtain ⟨m, hm, hc⟩ := ih y (by omega) (by omega)
        exact ⟨m, hm, hc.trans hy.symm⟩
  have lab : ∀ m x, Lst n rows m → Conn n rows m x → p x = m := by
    intro m x hm hc
    have hs : Shut n rows p m := by
      rcases h.2.2 m hm with h1 | h1
      · exact h1
      · exfalso
        have : cntL n p m ≤ n := by
          unfold cntL
          have := List.countP_le_length (p := fun w => p w == m) (l := List.range n)
          simpa using this
        omega
    exact hc (fun z => p z = m) (hm.lab h) fun a b hab e => hs a b hab e
  constructor
  · intro e
    have h1 := (h.1 w hw).2
    have h2 := (h.1 v hv).2
    rw [e] at h1
    exact h1.trans h2.symm
  · intro hc
    obtain ⟨m, hm, hcm⟩ := least w w (Nat.le_refl _) hw
    rw [lab m w hm hcm, lab m v hm (hcm.trans hc)]
end
/-- within a round: those that are done -/
def Mid (n : Nat) (rows : List (List Int)) (p0 p : Nat → Nat) (q i j : Nat) : Prop :=
  Lab n rows p ∧ (∀ w, w < n → p w ≤ p0 w) ∧ ∀ q' i' j', q' < rows.length → i' < n → j' < n → (q' < q ∨ (q' = q ∧ (i' < i ∨ (i' = i ∧ j' < j)))) → iat (rows.getD q' []) i' = iat (rows.getD q' []) j' → p i' ≤ p0 j'
def setN (p : Nat → Nat) (i x : Nat) : Nat → Nat := fun w => if w = i then x else p w
section
variable {n : Nat} {rows : List (List Int)} {p0 p : Nat → Nat} {q i j k : Nat}
theorem Mid.start (h : Rnd n rows k p0) : Mid n rows p0 p0 0 0 0 := ⟨h.1, fun _ _ => Nat.le_refl _, fun q' i' j' _ _ _ h _ => by omega⟩
theorem Mid.skip (h : Mid n rows p0 p q i j) (hne : ¬ iat (rows.getD q []) i = iat (rows.getD q []) j) : Mid n rows p0 p q i (j + 1) := by
  refine ⟨h.1, h.2.1, fun q' i' j' h1 h2 h3 h4 h5 => ?_⟩
  by_cases e : q' = q ∧ i' = i ∧ j' = j
  · obtain ⟨rfl, rfl, rfl⟩ := e
    exact absurd h5 hne
  · exact h.2.2 q' i' j' h1 h2 h3 (by omega) h5
theorem Mid.take (h : Mid n rows p0 p q i j) (hq : q < rows.length) (hi : i < n) (hj : j < n) (heq : iat (rows.getD q []) i = iat (rows.getD q []) j) : Mid n rows p0 (setN p i (min (p i) (p j))) q i (j + 1) := by
  have hadj : AdjR n rows i j := ⟨hi, hj, rows.getD q [], by rw [List.getD_eq_getElem?_getD, List.getElem?_eq_getElem hq]; exact List.getElem_mem hq, heq⟩
  have low : ∀ w, setN p i (min (p i) (p j)) w ≤ p w := fun w => by
    unfold setN
    split
    · rename_i e; subst e; omega
    · exact Nat.le_refl _
  refine ⟨fun w hw => ?_, fun w hw => Nat.le_trans (low w) (h.2.1 w hw), fun q' i' j' h1 h2 h3 h4 h5 => ?_⟩
  · unfold setN
    split
    · rename_i e
      subst e
      rcases Nat.le_total (p w) (p j) with hle | hle
      · rw [Nat.min_eq_left hle]; exact h.1 w hw
      · rw [Nat.min_eq_right hle]; exact ⟨(h.1 j hj).1, (Conn.adj hadj).trans (h.1 j hj).2⟩
    · exact h.1 w hw
  · by_cases e : q' = q ∧ i' = i ∧ j' = j
    · obtain ⟨rfl, rfl, rfl⟩ := e
      unfold setN
      rw [if_pos rfl]
      have := h.2.1 j' hj
      omega
    · exact Nat.le_trans (low i') (h.2.2 q' i' j' h1 h2 h3 (by omega) h5)
theorem Mid.nextI (h : Mid n rows p0 p q i n) : Mid n rows p0 p q (i + 1) 0 := ⟨h.1, h.2.1, fun q' i' j' h1 h2 h3 h4 h5 => h.2.2 q' i' j' h1 h2 h3 (by omega) h5⟩
theorem Mid.nextQ (h : Mid n rows p0 p q n 0) : Mid n rows p0 p (q + 1) 0 0 := ⟨h.1, h.2.1, fun q' i' j' h1 h2 h3 h4 h5 => h.2.2 q' i' j' h1 h2 h3 (by omega) h5⟩
theorem Mid.round (h : Mid n rows p0 p rows.length 0 0) (hr : Rnd n rows k p0) : Rnd n rows (k + 1) p := by
  refine hr.step h.1 h.2.1 fun x y hxy => ?_
  obtain ⟨hx, hy, r, hm, e⟩ := hxy
  obtain ⟨q', hq', rfl⟩ := List.getElem_of_mem hm
  have hg : rows.getD q' [] = rows[q'] := by rw [List.getD_eq_getElem?_getD, List.getElem?_eq_getElem hq']; rfl
  exact h.2.2 q' x y hq' hx hy (by omega) (by rw [hg]; exact e)
end
end Go.Proofs.Ytodkpojmonikiaa
