/- Trees of choices that share: plain laws. -/
import Derived.Test.YtjliabifaohfjaaSl
namespace Go.Proofs.Ytjliabifaohfjaa
open Go
set_option linter.unusedVariables false

/-- a branch: its variable, and where it goes -/
abbrev Bn := Nat × Nat × Nat
def bnAt (l : List Bn) (i : Nat) : Bn := l.getD i (0, 0, 0)
theorem bnAt_eq (l : List Bn) (i : Nat) (h : i < l.length) : bnAt l i = l[i] := by
  unfold bnAt
  rw [List.getD_eq_getElem?_getD, List.getElem?_eq_getElem h]
  rfl
theorem bnAt_app (l m : List Bn) (i : Nat) (h : i < l.length) : bnAt (l ++ m) i = bnAt l i := by
  unfold bnAt
  rw [List.getD_eq_getElem?_getD, List.getD_eq_getElem?_getD, List.getElem?_append_left h]
/-- a branch, or what it comes to -/
def putF (l : List Bn) (b : Bn) : List Bn × Nat :=
  if b.2.1 = b.2.2 then (l, b.2.1) else if b ∈ l then (l, l.idxOf b + 2) else (l ++ [b], l.length + 2)
def evF (f : List Bool) : List Bool := (List.range (f.length / 2)).map fun j => bat f (2 * j)
def odF (f : List Bool) : List Bool := (List.range (f.length / 2)).map fun j => bat f (2 * j + 1)
/-- a table's tree: d variables from v on -/
def tabF : Nat → Nat → List Bool → List Bn → List Bn × Nat
  | 0, _, f, l => (l, if bat f 0 then 1 else 0)
  | d + 1, v, f, l => putF (tabF d (v + 1) (odF f) (tabF d (v + 1) (evF f) l).1).1 (v, (tabF d (v + 1) (evF f) l).2, (tabF d (v + 1) (odF f) (tabF d (v + 1) (evF f) l).1).2)
theorem tabF_succ (d v : Nat) (f : List Bool) (l : List Bn) : tabF (d + 1) v f l = putF (tabF d (v + 1) (odF f) (tabF d (v + 1) (evF f) l).1).1 (v, (tabF d (v + 1) (evF f) l).2, (tabF d (v + 1) (odF f) (tabF d (v + 1) (evF f) l).1).2) := rfl
theorem evF_length (f : List Bool) : (evF f).length = f.length / 2 := by simp [evF]
theorem odF_length (f : List Bool) : (odF f).length = f.length / 2 := by simp [odF]
theorem evF_at (f : List Bool) {j : Nat} (h : j < f.length / 2) : bat (evF f) j = bat f (2 * j) := bat_map_range _ _ _ h
theorem odF_at (f : List Bool) {j : Nat} (h : j < f.length / 2) : bat (odF f) j = bat f (2 * j + 1) := bat_map_range _ _ _ h
/-! ### trees as they may be -/
/-- where may one go from the i-th branch b? -/
def goOk (l : List Bn) (i v k : Nat) : Prop := k ≤ i + 1 ∧ (1 < k → v < (bnAt l (k - 2)).1)
def TreeOk (n : Nat) (l : List Bn) : Prop := ∀ i, i < l.length → (bnAt l i).1 < n ∧ goOk l i (bnAt l i).1 (bnAt l i).2.1 ∧ goOk l i (bnAt l i).1 (bnAt l i).2.2
/-- a number that is there, of variables from v on -/
def numOk (l : List Bn) (v k : Nat) : Prop := k ≤ l.length + 1 ∧ (1 < k → v ≤ (bnAt l (k - 2)).1)
theorem goOk.app {l : List Bn} {i v k : Nat} (h : goOk l i v k) (hi : i < l.length) (m : List Bn) : goOk (l ++ m) i v k := by
  refine ⟨h.1, fun hk => ?_⟩
  rw [bnAt_app l m _ (by have := h.1; omega)]
  exact h.2 hk
theorem numOk.app {l : List Bn} {v k : Nat} (h : numOk l v k) (m : List Bn) : numOk (l ++ m) v k := by
  refine ⟨by have := h.1; rw [List.length_append]; omega, fun hk => ?_⟩
  rw [bnAt_app l m _ (by have := h.1; omega)]
  exact h.2 hk
theorem TreeOk.nil (n : Nat) : TreeOk n [] := fun i hi => by simp at hi
theorem TreeOk.push {n : Nat} {l : List Bn} (h : TreeOk n l) {b : Bn} (hv : b.1 < n) (h1 : numOk l (b.1 + 1) b.2.1) (h2 : numOk l (b.1 + 1) b.2.2) : TreeOk n (l ++ [b]) := by
  intro i hi
  by_cases hlt : i < l.length
  · rw [bnAt_app l [b] i hlt]
    obtain ⟨a1, a2, a3⟩ := h i hlt
    exact ⟨a1, a2.app hlt _, a3.app hlt _⟩
  · have e : i = l.length := by simp at hi; omega
    subst e
    have eb : bnAt (l ++ [b]) l.length = b := by
      unfold bnAt
      rw [List.getD_eq_getElem?_getD, List.getElem?_append_right (Nat.le_refl _)]
      simp
    rw [eb]
    have key : ∀ k, numOk l (b.1 + 1) k → goOk (l ++ [b]) l.length b.1 k := by
      intro k hk
      refine ⟨hk.1, fun h1 => ?_⟩
      rw [bnAt_app l [b] _ (by have := hk.1; omega)]
      have := hk.2 h1
      omega
    exact ⟨hv, key _ h1, key _ h2⟩
/-! ### what a tree says -/
/-- of the set s, by k steps at the most -/
def tellF (l : List Bn) (s : Nat) : Nat → Nat → Bool
  | 0, k => k == 1
  | q + 1, k => if k ≤ 1 then k == 1 else tellF l s q (if s.testBit (bnAt l (k - 2)).1 then (bnAt l (k - 2)).2.2 else (bnAt l (k - 2)).2.1)
theorem tellF_le (l : List Bn) (s q : Nat) {k : Nat} (h : k ≤ 1) : tellF l s q k = (k == 1) := by
  cases q with
  | zero => rfl
  | succ q => unfold tellF; rw [if_pos h]
theorem tellF_more {n : Nat} {l : List Bn} (hl : TreeOk n l) (s : Nat) : ∀ q k, k ≤ q → k ≤ l.length + 1 → ∀ q', k ≤ q' → tellF l s q k = tellF l s q' k := by
  intro q
  induction q with
  | zero => intro k hk _ q' _; rw [tellF_le l s 0 (by omega), tellF_le l s q' (by omega)]
  | succ q ih =>
    intro k hk hkl q' hq'
    by_cases h : k ≤ 1
    · rw [tellF_le l s _ h, tellF_le l s _ h]
    · obtain ⟨p, rfl⟩ : ∃ p, q' = p + 1 := ⟨q' - 1, by omega⟩
      unfold tellF
      rw [if_neg h, if_neg h]
      obtain ⟨_, a2, a3⟩ := hl (k - 2) (by omega)
      have b2 := a2.1
      have b3 := a3.1
      cases s.testBit (bnAt l (k - 2)).1
      · exact ih _ (by simp; omega) (by simp; omega) p (by simp; omega)
      · exact ih _ (by simp; omega) (by simp; omega) p (by simp; omega)
theorem tellF_app {n : Nat} {l : List Bn} (hl : TreeOk n l) (m : List Bn) (s : Nat) : ∀ q k, k ≤ l.length + 1 → tellF (l ++ m) s q k = tellF l s q k := by
  intro q
  induction q with
  | zero => intro k _; rfl
  | succ q ih =>
    intro k hkl
    by_cases h : k ≤ 1
    · rw [tellF_le _ s _ h, tellF_le _ s _ h]
    · unfold tellF
      rw [if_neg h, if_neg h, bnAt_app l m _ (by omega)]
      obtain ⟨_, a2, a3⟩ := hl (k - 2) (by omega)
      have b2 := a2.1
      have b3 := a3.1
      cases s.testBit (bnAt l (k - 2)).1
      · exact ih _ (by simp; omega)
      · exact ih _ (by simp; omega)
/-- what a number says -/
def saysF (l : List Bn) (k s : Nat) : Bool := tellF l s k k
theorem saysF_le (l : List Bn) (s : Nat) {k : Nat} (h : k ≤ 1) : saysF l k s = (k == 1) := tellF_le l s k h
theorem saysF_app {n : Nat} {l : List Bn} (hl : TreeOk n l) (m : List Bn) {k : Nat} (hk : k ≤ l.length + 1) (s : Nat) : saysF (l ++ m) k s = saysF l k s := tellF_app hl m s k k hk
theorem saysF_go {n : Nat} {l : List Bn} (hl : TreeOk n l) {k : Nat} (h1 : ¬ k ≤ 1) (hk : k ≤ l.length + 1) (s : Nat) :
    saysF l k s = saysF l (if s.testBit (bnAt l (k - 2)).1 then (bnAt l (k - 2)).2.2 else (bnAt l (k - 2)).2.1) s := by
  unfold saysF
  obtain ⟨p, rfl⟩ : ∃ p, k = p + 1 := ⟨k - 1, by omega⟩
  conv => lhs; unfold tellF
  rw [if_neg h1]
  obtain ⟨_, a2, a3⟩ := hl (p + 1 - 2) (by omega)
  have b2 := a2.1
  have b3 := a3.1
  cases s.testBit (bnAt l (p + 1 - 2)).1
  · simp only [Bool.false_eq_true, if_false]
    exact tellF_more hl s _ _ (by omega) (by omega) _ (Nat.le_refl _)
  · simp only [if_true]
    exact tellF_more hl s _ _ (by omega) (by omega) _ (Nat.le_refl _)
/-! ### what put does -/
structure PutOk (n : Nat) (l : List Bn) (v : Nat) (r : List Bn × Nat) (t : Nat → Bool) (more : Nat) : Prop where
  ext : ∃ m, r.1 = l ++ m ∧ m.length ≤ more
  tree : TreeOk n r.1
  num : numOk r.1 v r.2
  says : ∀ s, saysF r.1 r.2 s = t s
theorem put_ok {n : Nat} {l : List Bn} (hl : TreeOk n l) {b : Bn} (hv : b.1 < n) (h1 : numOk l (b.1 + 1) b.2.1) (h2 : numOk l (b.1 + 1) b.2.2) :
    PutOk n l b.1 (putF l b) (fun s => if s.testBit b.1 then saysF l b.2.2 s else saysF l b.2.1 s) 1 := by
  unfold putF
  by_cases e : b.2.1 = b.2.2
  · rw [if_pos e]
    refine ⟨⟨[], by simp, by simp⟩, hl, ⟨h1.1, fun h => by have := h1.2 h; show b.1 ≤ (bnAt l (b.2.1 - 2)).1; omega⟩, fun s => ?_⟩
    rw [e]
    cases s.testBit b.1 <;> rfl
  · rw [if_neg e]
    by_cases hm : b ∈ l
    · rw [if_pos hm]
      have hi : l.idxOf b < l.length := List.idxOf_lt_length_iff.2 hm
      have hb : bnAt l (l.idxOf b) = b := by rw [bnAt_eq _ _ hi]; exact List.getElem_idxOf hi
      refine ⟨⟨[], by simp, by simp⟩, hl, ⟨by show l.idxOf b + 2 ≤ l.length + 1; omega, fun _ => ?_⟩, fun s => ?_⟩
      · show b.1 ≤ (bnAt l (l.idxOf b + 2 - 2)).1
        rw [Nat.add_sub_cancel, hb]
        exact Nat.le_refl _
      · show saysF l (l.idxOf b + 2) s = _
        rw [saysF_go hl (by omega) (by omega), Nat.add_sub_cancel, hb]
        cases s.testBit b.1 <;> rfl
    · rw [if_neg hm]
      have ht := hl.push hv h1 h2
      have eb : bnAt (l ++ [b]) l.length = b := by
        unfold bnAt
        rw [List.getD_eq_getElem?_getD, List.getElem?_append_right (Nat.le_refl _)]
        simp
      refine ⟨⟨[b], rfl, by simp⟩, ht, ⟨by simp, fun _ => ?_⟩, fun s => ?_⟩
      · show b.1 ≤ (bnAt (l ++ [b]) (l.length + 2 - 2)).1
        rw [Nat.add_sub_cancel, eb]
        exact Nat.le_refl _
      · show saysF (l ++ [b]) (l.length + 2) s = _
        rw [saysF_go ht (by omega) (by simp), Nat.add_sub_cancel, eb]
        cases s.testBit b.1
        · exact saysF_app hl [b] h1.1 s
        · exact saysF_app hl [b] h2.1 s
theorem tab_ok {n : Nat} : ∀ (d v : Nat) (f : List Bool) (l : List Bn), d + v = n → f.length = 2 ^ d → TreeOk n l →
    PutOk n l v (tabF d v f l) (fun s => bat f ((s >>> v) % 2 ^ d)) (2 ^ d - 1) := by
  intro d
  induction d with
  | zero =>
    intro v f l hd hf hl
    refine ⟨⟨[], by simp [tabF], by simp⟩, hl, ⟨by show (if bat f 0 = true then 1 else 0) ≤ l.length + 1; split <;> omega, fun h => ?_⟩, fun s => ?_⟩
    · have : (if bat f 0 = true then 1 else 0) ≤ 1 := by split <;> omega
      exact absurd h (by show ¬ 1 < (if bat f 0 = true then 1 else 0); omega)
    · show saysF l (if bat f 0 = true then 1 else 0) s = _
      rw [saysF_le _ _ (by split <;> omega)]
      simp only [Nat.pow_zero, Nat.mod_one]
      cases bat f 0 <;> rfl
  | succ d ih =>
    intro v f l hd hf hl
    rw [tabF_succ]
    have hp : f.length / 2 = 2 ^ d := by rw [hf, Nat.pow_succ]; omega
    have A := ih (v + 1) (evF f) l (by omega) (by rw [evF_length, hp]) hl
    generalize tabF d (v + 1) (evF f) l = ra at A ⊢
    obtain ⟨la, ka⟩ := ra
    have B := ih (v + 1) (odF f) la (by omega) (by rw [odF_length, hp]) A.tree
    generalize tabF d (v + 1) (odF f) (la, ka).1 = rb at B ⊢
    obtain ⟨lb, kb⟩ := rb
    obtain ⟨ma, ea, hma⟩ := A.ext
    obtain ⟨mb, eb, hmb⟩ := B.ext
    have ea : la = l ++ ma := ea
    have eb : lb = la ++ mb := eb
    have na : numOk lb (v + 1) ka := by rw [eb]; exact A.num.app mb
    have C := put_ok (b := (v, ka, kb)) B.tree (by show v < n; omega) na B.num
    refine ⟨?_, C.tree, C.num, fun s => ?_⟩
    · obtain ⟨mc, ec, hmc⟩ := C.ext
      refine ⟨ma ++ mb ++ mc, by rw [ec]; show lb ++ mc = _; rw [eb, ea]; simp, ?_⟩
      rw [List.length_append, List.length_append, Nat.pow_succ]
      have : 1 ≤ 2 ^ d := Nat.one_le_two_pow
      omega
    · rw [C.says s]
      show (if s.testBit v = true then saysF lb kb s else saysF lb ka s) = _
      have hka : saysF lb ka s = bat (evF f) ((s >>> (v + 1)) % 2 ^ d) := by
        rw [eb, saysF_app A.tree mb A.num.1]
        exact A.says s
      have hkb : saysF lb kb s = bat (odF f) ((s >>> (v + 1)) % 2 ^ d) := B.says s
      have hlt : (s >>> (v + 1)) % 2 ^ d < 2 ^ d := Nat.mod_lt _ (Nat.two_pow_pos d)
      rw [hka, hkb, evF_at f (by rw [hp]; exact hlt), odF_at f (by rw [hp]; exact hlt)]
      have e1 : s >>> (v + 1) = (s >>> v) / 2 := by rw [Nat.shiftRight_succ]
      have e2 : s.testBit v = decide ((s >>> v) % 2 = 1) := by
        rw [Nat.testBit, Nat.and_comm, Nat.and_one_is_mod]
        cases Nat.mod_two_eq_zero_or_one (s >>> v) with
        | inl h => rw [h]; rfl
        | inr h => rw [h]; rfl
      rw [e1, e2]
      generalize s >>> v = x
      have e3 : x % 2 ^ (d + 1) = 2 * (x / 2 % 2 ^ d) + x % 2 := by
        rw [Nat.pow_succ, Nat.mul_comm (2 ^ d) 2, Nat.mod_mul]
        omega
      rw [e3]
      cases Nat.mod_two_eq_zero_or_one x with
      | inl h => rw [h]; simp
      | inr h => rw [h]; simp
/-- a whole table's tree -/
def buildF (n : Nat) (f : List Bool) : List Bn × Nat := tabF n 0 f []
theorem build_ok {n : Nat} {f : List Bool} (hf : f.length = 2 ^ n) : TreeOk n (buildF n f).1 ∧ (buildF n f).2 ≤ (buildF n f).1.length + 1 ∧ (buildF n f).1.length ≤ 2 ^ n - 1 ∧ ∀ s, s < 2 ^ n → saysF (buildF n f).1 (buildF n f).2 s = bat f s := by
  have h := tab_ok n 0 f [] (by omega) hf (TreeOk.nil n)
  refine ⟨h.tree, h.num.1, ?_, fun s hs => ?_⟩
  · obtain ⟨m, e, hm⟩ := h.ext
    rw [List.nil_append] at e
    unfold buildF
    rw [e]
    exact hm
  · have := h.says s
    rw [show s >>> 0 = s from rfl, Nat.mod_eq_of_lt hs] at this
    exact this
/-- all of it, read -/
def readF (n : Nat) (l : List Bn) (k : Nat) : List Bool := (List.range (2 ^ n)).map (saysF l k)
theorem read_build {n : Nat} {f : List Bool} (hf : f.length = 2 ^ n) : readF n (buildF n f).1 (buildF n f).2 = f := by
  obtain ⟨_, _, _, h⟩ := build_ok hf
  apply bat_ext (by simp [readF, hf])
  intro k hk
  have hk : k < 2 ^ n := by simpa [readF] using hk
  unfold readF
  rw [bat_map_range _ _ _ hk]
  exact h k hk
theorem build_inj {n : Nat} {f g : List Bool} (hf : f.length = 2 ^ n) (hg : g.length = 2 ^ n) (h1 : (buildF n f).1 = (buildF n g).1) (h2 : (buildF n f).2 = (buildF n g).2) : f = g := by
  rw [← read_build hf, ← read_build hg, h1, h2]
end Go.Proofs.Ytjliabifaohfjaa
