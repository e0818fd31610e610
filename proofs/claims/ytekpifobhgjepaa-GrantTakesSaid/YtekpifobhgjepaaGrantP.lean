/- Take and grant: plain laws. -/
import Derived.Test.YtekpifobhgjepaaRightsP
namespace Go.Proofs.Ytekpifobhgjepaa
open Go Go.RowKit
set_option linter.unusedVariables false

abbrev Ed := Int × Int × BitVec 32
/-- the rights of one over another one -/
def overF (es : List Ed) (a b : Int) : BitVec 32 := es.foldl (fun r e => if e.1 = a ∧ e.2.1 = b then r ||| e.2.2 else r) 0#32
theorem overF_snoc (es : List Ed) (e : Ed) (a b : Int) : overF (es ++ [e]) a b = if e.1 = a ∧ e.2.1 = b then overF es a b ||| e.2.2 else overF es a b := by
  unfold overF
  rw [List.foldl_append]
  rfl
theorem overF_from (a b : Int) (i : Nat) : ∀ (es : List Ed) (r : BitVec 32), (es.foldl (fun r e => if e.1 = a ∧ e.2.1 = b then r ||| e.2.2 else r) r).getLsbD i = true ↔ r.getLsbD i = true ∨ ∃ e ∈ es, e.1 = a ∧ e.2.1 = b ∧ e.2.2.getLsbD i = true := by
  intro es
  induction es with
  | nil => intro r; simp
  | cons e es ih =>
    intro r
    rw [List.foldl_cons, ih]
    by_cases h : e.1 = a ∧ e.2.1 = b
    · rw [if_pos h, BitVec.getLsbD_or, Bool.or_eq_true]
      constructor
      · rintro ((h1 | h1) | ⟨x, hx, r⟩)
        · exact .inl h1
        · exact .inr ⟨e, by simp, h.1, h.2, h1⟩
        · exact .inr ⟨x, by simp [hx], r⟩
      · rintro (h1 | ⟨x, hx, h1, h2, h3⟩)
        · exact .inl (.inl h1)
        · rcases List.mem_cons.1 hx with rfl | hx
          · exact .inl (.inr h3)
          · exact .inr ⟨x, hx, h1, h2, h3⟩
    · rw [if_neg h]
      constructor
      · rintro (h1 | ⟨x, hx, r⟩)
        · exact .inl h1
        · exact .inr ⟨x, by simp [hx], r⟩
      · rintro (h1 | ⟨x, hx, h1, h2, h3⟩)
        · exact .inl h1
        · rcases List.mem_cons.1 hx with rfl | hx
          · exact absurd ⟨h1, h2⟩ h
          · exact .inr ⟨x, hx, h1, h2, h3⟩
theorem overF_bit (es : List Ed) (a b : Int) (i : Nat) : (overF es a b).getLsbD i = true ↔ ∃ e ∈ es, e.1 = a ∧ e.2.1 = b ∧ e.2.2.getLsbD i = true := by
  unfold overF
  rw [overF_from]
  simp
/-- the graph of edges -/
def gE (es : List Ed) : Mx := fun i j => overF es i j
def edOk (n : Int) (e : Ed) : Bool := decide (0 ≤ e.1) && decide (e.1 < n) && decide (0 ≤ e.2.1) && decide (e.2.1 < n) && decide (e.1 ≠ e.2.1)
theorem edOk_iff {n : Int} {e : Ed} : edOk n e = true ↔ 0 ≤ e.1 ∧ e.1 < n ∧ 0 ≤ e.2.1 ∧ e.2.1 < n ∧ e.1 ≠ e.2.1 := by
  unfold edOk
  simp only [Bool.and_eq_true, decide_eq_true_eq, and_assoc]
def edgeF (n : Int) (es : List Ed) : Int := if n < 1 ∨ 6 < n ∨ 20 < es.length then 1 else if es.all (edOk n) = false then 2 else 0
theorem edgeF_zero {n : Int} {es : List Ed} (h : edgeF n es = 0) : 1 ≤ n ∧ n ≤ 6 ∧ es.length ≤ 20 ∧ ∀ e ∈ es, 0 ≤ e.1 ∧ e.1 < n ∧ 0 ≤ e.2.1 ∧ e.2.1 < n ∧ e.1 ≠ e.2.1 := by
  unfold edgeF at h
  split at h
  · omega
  · split at h
    · omega
    · rename_i h1 h2
      rw [Bool.not_eq_false, List.all_eq_true] at h2
      exact ⟨by omega, by omega, by omega, fun e he => edOk_iff.1 (h2 e he)⟩
theorem gE_snoc (es : List Ed) (e : Ed) (h1 : 0 ≤ e.1) (h2 : 0 ≤ e.2.1) : gE (es ++ [e]) = setM (gE es) e.1.toNat e.2.1.toNat (gE es e.1.toNat e.2.1.toNat ||| e.2.2) := by
  funext i j
  unfold gE setM
  rw [overF_snoc]
  by_cases h : e.1 = (i : Int) ∧ e.2.1 = (j : Int)
  · rw [if_pos h, if_pos (by omega)]
    have e1 : (e.1.toNat : Int) = i := by omega
    have e2 : (e.2.1.toNat : Int) = j := by omega
    rw [e1, e2]
  · rw [if_neg h, if_neg (by omega)]
/-! ### who is joined with whom -/
def joinB (g : Mx) (i j : Nat) : Bool := (g i j ||| g j i) &&& 3#32 != 0#32
theorem joinB_symm (g : Mx) (i j : Nat) : joinB g i j = joinB g j i := by
  unfold joinB
  rw [BitVec.or_comm]
def hitB (g : Mx) (y : Nat) (rt : BitVec 32) (i : Nat) : Bool := decide (i ≠ y) && (g i y &&& rt != 0#32)
def Conn (n : Nat) (g : Mx) (x z : Nat) : Prop := ∀ S : Nat → Prop, S x → (∀ i j, i < n → j < n → S i → joinB g i j = true → S j) → S z
theorem Conn.refl (n : Nat) (g : Mx) (x : Nat) : Conn n g x x := fun _ h _ => h
theorem Conn.trans {n : Nat} {g : Mx} {x y z : Nat} (h : Conn n g x y) (k : Conn n g y z) : Conn n g x z := fun S hx hs => k S (h S hx hs) hs
theorem Conn.edge {n : Nat} {g : Mx} {i j : Nat} (hi : i < n) (hj : j < n) (h : joinB g i j = true) : Conn n g i j := fun S hx hs => hs i j hi hj hx h
theorem Conn.symm {n : Nat} {g : Mx} {x z : Nat} (h : Conn n g x z) : Conn n g z x :=
  h (fun v => Conn n g v x) (Conn.refl n g x) fun i j hi hj hS hij => (Conn.edge hj hi (by rw [joinB_symm]; exact hij)).trans hS
def CanP (n : Nat) (g : Mx) (x y : Nat) (rt : BitVec 32) : Prop := ∃ z, z < n ∧ Conn n g x z ∧ hitB g y rt z = true
open Classical in
noncomputable def canB (n : Nat) (g : Mx) (x y : Nat) (rt : BitVec 32) : Bool := decide (CanP n g x y rt)
theorem canB_iff {n : Nat} {g : Mx} {x y : Nat} {rt : BitVec 32} : canB n g x y rt = true ↔ CanP n g x y rt := by
  unfold canB
  exact @decide_eq_true_iff _ (Classical.propDecidable _)
theorem canB_join {n : Nat} {g : Mx} {a c y : Nat} {rt : BitVec 32} (ha : a < n) (hc : c < n) (h : joinB g a c = true) : canB n g a y rt = canB n g c y rt := by
  rw [Bool.eq_iff_iff, canB_iff, canB_iff]
  have h1 := Conn.edge ha hc h
  exact ⟨fun ⟨z, hz, hc, hh⟩ => ⟨z, hz, h1.symm.trans hc, hh⟩, fun ⟨z, hz, hc, hh⟩ => ⟨z, hz, h1.trans hc, hh⟩⟩
theorem canB_own {n : Nat} {g : Mx} {x y : Nat} {rt : BitVec 32} (hx : x < n) (h : hitB g y rt x = true) : canB n g x y rt = true := canB_iff.2 ⟨x, hx, Conn.refl _ _ _, h⟩
/-! ### the nearest ones first -/
/-- those that were found, k of them looked through; of the next one's neighbours those below m -/
structure BfsI (n : Nat) (g : Mx) (x y : Nat) (rt : BitVec 32) (vis : List Nat) (k m : Nat) (nx : Nat → Int) : Prop where
  hd : vis[0]? = some x
  nd : vis.Nodup
  ok : ∀ v ∈ vis, v < n ∧ Conn n g x v
  free : ∀ j, j < n → (nx j < 0 ↔ j ∉ vis)
  par : ∀ t v : Nat, vis[t]? = some v → v = x ∨ ∃ s u : Nat, s < t ∧ vis[s]? = some u ∧ nx v = (u : Int)
  done : ∀ t : Nat, t < k → ∀ v : Nat, vis[t]? = some v → hitB g y rt v = false ∧ ∀ j, j < n → joinB g v j = true → j ∈ vis
  cur : ∀ v : Nat, vis[k]? = some v → ∀ j, j < m → j < n → joinB g v j = true → j ∈ vis
  le : k ≤ vis.length
def nx0 (x : Nat) : Nat → Int := fun j => if j = x then (x : Int) else -1
def updI (f : Nat → Int) (i : Nat) (v : Int) : Nat → Int := fun j => if j = i then v else f j
theorem nodup_bnd : ∀ (m : Nat) (l : List Nat), l.Nodup → (∀ x ∈ l, x < m) → l.length ≤ m := by
  intro m
  induction m with
  | zero =>
    intro l _ h
    cases l with
    | nil => simp
    | cons a t => exact absurd (h a (by simp)) (by omega)
  | succ m ih =>
    intro l hl h
    have h1 := ih (l.filter fun x => x != m) (List.Pairwise.filter _ hl) (fun x hx => by
      rw [List.mem_filter] at hx
      have h2 := h x hx.1
      have h3 : x ≠ m := by simpa using hx.2
      omega)
    have h2 : l.length ≤ (l.filter fun x => x != m).length + 1 := by
      clear h1 h ih
      induction l with
      | nil => simp
      | cons a t iht =>
        rw [List.nodup_cons] at hl
        rw [List.filter_cons]
        by_cases e : a = m
        · subst e
          have : (t.filter fun x => x != a) = t := by
            rw [List.filter_eq_self]
            intro x hx
            simp
            intro e
            subst e
            exact hl.1 hx
          simp [this]
        · have h3 := iht hl.2
          simp [e]
          omega
    omega
section
variable {n : Nat} {g : Mx} {x y : Nat} {rt : BitVec 32} {vis : List Nat} {k m : Nat} {nx : Nat → Int}
theorem BfsI.start (hx : x < n) : BfsI n g x y rt [x] 0 0 (nx0 x) := by
  refine ⟨rfl, by simp, fun v hv => ?_, fun j hj => ?_, fun t v hv => ?_, fun t h => by omega, fun v _ j h => by omega, by simp⟩
  · rw [List.mem_singleton] at hv
    subst hv
    exact ⟨hx, Conn.refl _ _ _⟩
  · unfold nx0
    rw [List.mem_singleton]
    split
    · rename_i e
      constructor
      · intro h; omega
      · intro h; exact absurd e h
    · rename_i e
      exact ⟨fun _ => e, fun _ => by omega⟩
  · left
    cases t with
    | zero => simpa using hv.symm
    | succ t => simp at hv
theorem BfsI.len (h : BfsI n g x y rt vis k m nx) : vis.length ≤ n := nodup_bnd n vis h.nd fun v hv => (h.ok v hv).1
theorem BfsI.skip (h : BfsI n g x y rt vis k m nx) {v : Nat} (hv : vis[k]? = some v) (hno : m < n → joinB g v m = true → m ∈ vis) : BfsI n g x y rt vis k (m + 1) nx := by
  refine ⟨h.hd, h.nd, h.ok, h.free, h.par, h.done, fun u hu j hj hjn hjo => ?_, h.le⟩
  rw [hv] at hu
  injection hu with hu
  subst hu
  by_cases e : j = m
  · subst e
    exact hno hjn hjo
  · exact h.cur v hv j (by omega) hjn hjo
theorem BfsI.add (h : BfsI n g x y rt vis k m nx) {v : Nat} (hv : vis[k]? = some v) (hm : m < n) (hf : nx m < 0) (hj : joinB g v m = true) : BfsI n g x y rt (vis ++ [m]) k (m + 1) (updI nx m (v : Int)) := by
  have hkl : k < vis.length := (List.getElem?_eq_some_iff.1 hv).1
  have hmv : m ∉ vis := (h.free m hm).1 hf
  have hvn := h.ok v (List.mem_of_getElem? hv)
  have old : ∀ t, t < vis.length → (vis ++ [m])[t]? = vis[t]? := fun t ht => List.getElem?_append_left ht
  have back : ∀ t u, (vis ++ [m])[t]? = some u → (t < vis.length ∧ vis[t]? = some u) ∨ (t = vis.length ∧ u = m) := by
    intro t u hu
    rcases Nat.lt_trichotomy t vis.length with hlt | e | hgt
    · rw [old t hlt] at hu
      exact .inl ⟨hlt, hu⟩
    · subst e
      rw [List.getElem?_append_right (Nat.le_refl _)] at hu
      simp at hu
      exact .inr ⟨rfl, hu.symm⟩
    · rw [List.getElem?_eq_none (by simp; omega)] at hu
      cases hu
  refine ⟨?_, ?_, fun u hu => ?_, fun j hjn => ?_, fun t u hu => ?_, fun t ht u hu => ?_, fun u hu j hjm hjn hjo => ?_, by simp; omega⟩
  · rw [old 0 (by omega)]
    exact h.hd
  · rw [List.nodup_append]
    refine ⟨h.nd, by simp, fun a ha b hb e => ?_⟩
    rw [List.mem_singleton] at hb
    subst hb e
    exact hmv ha
  · rcases List.mem_append.1 hu with hu | hu
    · exact h.ok u hu
    · rw [List.mem_singleton] at hu
      subst hu
      exact ⟨hm, hvn.2.trans (Conn.edge hvn.1 hm hj)⟩
  · unfold updI
    rw [List.mem_append, List.mem_singleton]
    by_cases e : j = m
    · subst e
      rw [if_pos rfl]
      constructor
      · intro hh; omega
      · intro hh; exact absurd (.inr rfl) hh
    · rw [if_neg e, h.free j hjn]
      constructor
      · rintro a (b | b)
        · exact a b
        · exact e b
      · exact fun a b => a (.inl b)
  · rcases back t u hu with ⟨hlt, hu⟩ | ⟨rfl, rfl⟩
    · rcases h.par t u hu with e | ⟨s, p, hs, hp, e⟩
      · exact .inl e
      · refine .inr ⟨s, p, hs, by rw [old s (by omega)]; exact hp, ?_⟩
        unfold updI
        rw [if_neg (fun e2 => hmv (by rw [← e2]; exact List.mem_of_getElem? hu))]
        exact e
    · refine .inr ⟨k, v, hkl, by rw [old k hkl]; exact hv, ?_⟩
      unfold updI
      rw [if_pos rfl]
  · rw [old t (by omega)] at hu
    obtain ⟨a, b⟩ := h.done t ht u hu
    exact ⟨a, fun j hjn hjo => List.mem_append_left _ (b j hjn hjo)⟩
  · rw [old k hkl] at hu
    rw [hv] at hu
    injection hu with hu
    subst hu
    by_cases e : j = m
    · subst e
      simp
    · exact List.mem_append_left _ (h.cur v hv j (by omega) hjn hjo)
theorem BfsI.next (h : BfsI n g x y rt vis k n nx) {v : Nat} (hv : vis[k]? = some v) (hh : hitB g y rt v = false) : BfsI n g x y rt vis (k + 1) 0 nx := by
  have hkl : k < vis.length := (List.getElem?_eq_some_iff.1 hv).1
  refine ⟨h.hd, h.nd, h.ok, h.free, h.par, fun t ht u hu => ?_, fun _ _ j hj => by omega, by omega⟩
  by_cases e : t = k
  · subst e
    rw [hv] at hu
    injection hu with hu
    subst hu
    exact ⟨hh, fun j hjn hjo => h.cur v hv j hjn hjn hjo⟩
  · exact h.done t (by omega) u hu
theorem BfsI.none (h : BfsI n g x y rt vis k 0 nx) (hk : k = vis.length) : canB n g x y rt = false := by
  cases hc : canB n g x y rt
  · rfl
  · obtain ⟨z, hz, hconn, hh⟩ := canB_iff.1 hc
    have hmem : z ∈ vis := hconn (· ∈ vis) (List.mem_of_getElem? h.hd) fun i j hi hj hS hij => by
      obtain ⟨t, ht, e⟩ := List.getElem_of_mem hS
      exact (h.done t (by omega) i (by rw [List.getElem?_eq_getElem ht, e])).2 j hj hij
    obtain ⟨t, ht, e⟩ := List.getElem_of_mem hmem
    have := (h.done t (by omega) z (by rw [List.getElem?_eq_getElem ht, e])).1
    rw [this] at hh
    cases hh
theorem BfsI.found (h : BfsI n g x y rt vis k m nx) {v : Nat} (hv : vis[k]? = some v) (hh : hitB g y rt v = true) : canB n g x y rt = true := by
  obtain ⟨a, b⟩ := h.ok v (List.mem_of_getElem? hv)
  exact canB_iff.2 ⟨v, a, b, hh⟩
theorem idx_at (hn : vis.Nodup) {t v : Nat} (h : vis[t]? = some v) : vis.idxOf v = t := by
  obtain ⟨ht, e⟩ := List.getElem?_eq_some_iff.1 h
  have hm : v ∈ vis := List.mem_of_getElem? h
  have hi := List.idxOf_lt_length_of_mem hm
  have e2 : vis[vis.idxOf v] = v := List.getElem_idxOf hi
  exact (List.getElem_inj hn).1 (e2.trans e.symm)
/-- on the way back -/
theorem BfsI.back (h : BfsI n g x y rt vis k m nx) {t v : Nat} (hv : vis[t]? = some v) (hx : v ≠ x) : ∃ s u : Nat, s < t ∧ vis[s]? = some u ∧ nx v = (u : Int) ∧ u < n := by
  rcases h.par t v hv with e | ⟨s, u, hs, hu, e⟩
  · exact absurd e hx
  · exact ⟨s, u, hs, hu, e, (h.ok u (List.mem_of_getElem? hu)).1⟩
end
end Go.Proofs.Ytekpifobhgjepaa
