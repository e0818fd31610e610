/- Trees of choices: the least of a tree is its table's; both of two. Plain laws. -/
import Derived.Test.YtjliabifaohfjaaChoiceP
namespace Go.Proofs.Ytjliabifaohfjaa
open Go
set_option linter.unusedVariables false

theorem putF_ext (l : List Bn) (b : Bn) : ∃ m, (putF l b).1 = l ++ m := by
  unfold putF
  split
  · exact ⟨[], by simp⟩
  · split
    · exact ⟨[], by simp⟩
    · exact ⟨[b], rfl⟩
theorem tabF_ext : ∀ (d v : Nat) (f : List Bool) (l : List Bn), ∃ m, (tabF d v f l).1 = l ++ m := by
  intro d
  induction d with
  | zero => intro v f l; exact ⟨[], by simp [tabF]⟩
  | succ d ih =>
    intro v f l
    rw [tabF_succ]
    obtain ⟨m1, e1⟩ := ih (v + 1) (evF f) l
    obtain ⟨m2, e2⟩ := ih (v + 1) (odF f) (tabF d (v + 1) (evF f) l).1
    obtain ⟨m3, e3⟩ := putF_ext (tabF d (v + 1) (odF f) (tabF d (v + 1) (evF f) l).1).1 (v, (tabF d (v + 1) (evF f) l).2, (tabF d (v + 1) (odF f) (tabF d (v + 1) (evF f) l).1).2)
    refine ⟨m1 ++ m2 ++ m3, ?_⟩
    rw [e3, e2, e1]
    simp
theorem putF_again (l : List Bn) (b : Bn) (m : List Bn) : putF ((putF l b).1 ++ m) b = ((putF l b).1 ++ m, (putF l b).2) := by
  by_cases e : b.2.1 = b.2.2
  · have h : ∀ l, putF l b = (l, b.2.1) := fun l => by unfold putF; rw [if_pos e]
    rw [h, h]
  · by_cases hm : b ∈ l
    · have h : putF l b = (l, l.idxOf b + 2) := by unfold putF; rw [if_neg e, if_pos hm]
      rw [h]
      unfold putF
      rw [if_neg e, if_pos (List.mem_append_left _ hm), List.idxOf_append, if_pos hm]
    · have h : putF l b = (l ++ [b], l.length + 2) := by unfold putF; rw [if_neg e, if_neg hm]
      rw [h]
      have h2 : b ∈ l ++ [b] := by simp
      have h3 : (l ++ [b] ++ m).idxOf b = l.length := by
        rw [List.idxOf_append, if_pos h2, List.idxOf_append, if_neg hm]
        simp
      unfold putF
      rw [if_neg e, if_pos (List.mem_append_left _ h2), h3]
/-- once more gives the same -/
theorem tabF_again : ∀ (d v : Nat) (f : List Bool) (l m : List Bn), tabF d v f ((tabF d v f l).1 ++ m) = ((tabF d v f l).1 ++ m, (tabF d v f l).2) := by
  intro d
  induction d with
  | zero => intro v f l m; rfl
  | succ d ih =>
    intro v f l m
    rw [tabF_succ d v f l]
    have A := fun m => ih (v + 1) (evF f) l m
    obtain ⟨⟨a1, k1⟩, h1⟩ : ∃ r, tabF d (v + 1) (evF f) l = r := ⟨_, rfl⟩
    rw [h1] at A ⊢
    have B := fun m => ih (v + 1) (odF f) a1 m
    obtain ⟨m1, e1⟩ := tabF_ext d (v + 1) (odF f) a1
    obtain ⟨⟨a2, k2⟩, h2⟩ : ∃ r, tabF d (v + 1) (odF f) a1 = r := ⟨_, rfl⟩
    simp only at h2 ⊢
    rw [h2] at B e1 ⊢
    simp only at A B e1 ⊢
    obtain ⟨m2, e2⟩ := putF_ext a2 (v, k1, k2)
    have C := fun m => putF_again a2 (v, k1, k2) m
    obtain ⟨⟨a3, k3⟩, h3⟩ : ∃ r, putF a2 (v, k1, k2) = r := ⟨_, rfl⟩
    rw [h3] at C e2 ⊢
    simp only at C e2 ⊢
    have A' := A (m1 ++ m2 ++ m)
    have B' := B (m2 ++ m)
    have f1 : a3 ++ m = a1 ++ (m1 ++ m2 ++ m) := by rw [e2, e1]; simp
    have f2 : a3 ++ m = a2 ++ (m2 ++ m) := by rw [e2]; simp
    rw [← f1] at A'
    rw [← f2] at B'
    rw [tabF_succ, A']
    simp only
    rw [B']
    simp only
    exact C m
/-- the same tree, made anew -/
def smF (l : List Bn) : Nat → Nat → List Bn → List Bn × Nat
  | 0, k, a => (a, k)
  | q + 1, k, a => if k < 2 then (a, k) else
      putF (smF l q (bnAt l (k - 2)).2.2 (smF l q (bnAt l (k - 2)).2.1 a).1).1 ((bnAt l (k - 2)).1, (smF l q (bnAt l (k - 2)).2.1 a).2, (smF l q (bnAt l (k - 2)).2.2 (smF l q (bnAt l (k - 2)).2.1 a).1).2)
theorem smF_le (l : List Bn) (q : Nat) {k : Nat} (h : k < 2) (a : List Bn) : smF l q k a = (a, k) := by
  cases q with
  | zero => rfl
  | succ q => unfold smF; rw [if_pos h]
theorem tellF_indep {n v : Nat} {l : List Bn} (hl : TreeOk n l) {s s' : Nat} (hs : ∀ i, v ≤ i → s.testBit i = s'.testBit i) : ∀ q k, numOk l v k → tellF l s q k = tellF l s' q k := by
  intro q
  induction q with
  | zero => intro k _; rfl
  | succ q ih =>
    intro k hk
    by_cases h : k ≤ 1
    · rw [tellF_le _ _ _ h, tellF_le _ _ _ h]
    · unfold tellF
      rw [if_neg h, if_neg h]
      have h1 := hk.1
      have h2 := hk.2 (by omega)
      obtain ⟨_, a2, a3⟩ := hl (k - 2) (by omega)
      rw [hs _ h2]
      have key : ∀ j, goOk l (k - 2) (bnAt l (k - 2)).1 j → numOk l v j := fun j hj => ⟨by have := hj.1; omega, fun hj1 => by have := hj.2 hj1; omega⟩
      cases s'.testBit (bnAt l (k - 2)).1
      · exact ih _ (key _ a2)
      · exact ih _ (key _ a3)
theorem saysF_indep {n v : Nat} {l : List Bn} (hl : TreeOk n l) {s s' : Nat} (hs : ∀ i, v ≤ i → s.testBit i = s'.testBit i) {k : Nat} (hk : numOk l v k) : saysF l k s = saysF l k s' := tellF_indep hl hs k k hk
/-- the table of a number, of d variables from v on -/
def tblF (l : List Bn) (k v d : Nat) : List Bool := (List.range (2 ^ d)).map fun j => saysF l k (j <<< v)
theorem tblF_len (l : List Bn) (k v d : Nat) : (tblF l k v d).length = 2 ^ d := by simp [tblF]
theorem tblF_at (l : List Bn) (k v d j : Nat) (h : j < 2 ^ d) : bat (tblF l k v d) j = saysF l k (j <<< v) := bat_map_range _ _ _ h
theorem shl_even (j v : Nat) : (2 * j) <<< v = j <<< (v + 1) := by
  rw [Nat.shiftLeft_eq, Nat.shiftLeft_eq, Nat.pow_succ, Nat.mul_comm 2 j, Nat.mul_assoc, Nat.mul_comm 2]
theorem shl_bit (j v i : Nat) : ((2 * j + 1) <<< v).testBit i = if i = v then true else (j <<< (v + 1)).testBit i := by
  by_cases h : i = v
  · subst h
    rw [if_pos rfl, Nat.testBit_shiftLeft]
    simp
  · rw [if_neg h, Nat.testBit_shiftLeft, Nat.testBit_shiftLeft]
    by_cases h2 : v ≤ i
    · have h3 : v + 1 ≤ i := by omega
      obtain ⟨p, rfl⟩ : ∃ p, i = v + 1 + p := ⟨i - (v + 1), by omega⟩
      have e1 : v + 1 + p - v = p + 1 := by omega
      have e2 : v + 1 + p - (v + 1) = p := by omega
      rw [e1, e2, Nat.testBit_succ]
      have e3 : (2 * j + 1) / 2 = j := by omega
      rw [e3]
      simp
      omega
    · have h3 : ¬ v + 1 ≤ i := by omega
      simp [h2, h3]
theorem shl_bit0 (j v : Nat) : (j <<< (v + 1)).testBit v = false := by
  rw [Nat.testBit_shiftLeft, decide_eq_false (by omega)]
  rfl
theorem evF_tbl {l : List Bn} {k v d : Nat} (g : Nat) (hg : ∀ j, saysF l k (j <<< (v + 1)) = saysF l g (j <<< (v + 1))) : evF (tblF l k v (d + 1)) = tblF l g (v + 1) d := by
  have hp : (tblF l k v (d + 1)).length / 2 = 2 ^ d := by rw [tblF_len, Nat.pow_succ]; omega
  apply bat_ext (by rw [evF_length, hp, tblF_len])
  intro j hj
  rw [evF_length, hp] at hj
  rw [evF_at _ (by rw [hp]; exact hj), tblF_at _ _ _ _ _ hj, tblF_at _ _ _ _ _ (by rw [Nat.pow_succ]; omega), shl_even, hg]
theorem odF_tbl {l : List Bn} {k v d : Nat} (g : Nat) (hg : ∀ j, saysF l k ((2 * j + 1) <<< v) = saysF l g (j <<< (v + 1))) : odF (tblF l k v (d + 1)) = tblF l g (v + 1) d := by
  have hp : (tblF l k v (d + 1)).length / 2 = 2 ^ d := by rw [tblF_len, Nat.pow_succ]; omega
  apply bat_ext (by rw [odF_length, hp, tblF_len])
  intro j hj
  rw [odF_length, hp] at hj
  rw [odF_at _ (by rw [hp]; exact hj), tblF_at _ _ _ _ _ hj, tblF_at _ _ _ _ _ (by rw [Nat.pow_succ]; omega), hg]
/-- the tree made anew is its table's -/
theorem sm_tab {n : Nat} {l : List Bn} (hl : TreeOk n l) : ∀ (d v k q : Nat) (a : List Bn), d + v = n → numOk l v k → k ≤ q → smF l q k a = tabF d v (tblF l k v d) a := by
  intro d
  induction d with
  | zero =>
    intro v k q a hd hk hq
    have h1 : k ≤ 1 := by
      by_cases h : 1 < k
      · have := hk.2 h
        have h2 := hk.1
        have := (hl (k - 2) (by omega)).1
        omega
      · omega
    rw [smF_le l q (by omega)]
    unfold tabF
    rw [tblF_at _ _ _ _ _ (by simp), saysF_le _ _ h1]
    rcases (by omega : k = 0 ∨ k = 1) with rfl | rfl <;> rfl
  | succ d ih =>
    intro v k q a hd hk hq
    have hsame : (1 < k → v < (bnAt l (k - 2)).1) → smF l q k a = tabF (d + 1) v (tblF l k v (d + 1)) a := by
      intro hv
      have hk1 : numOk l (v + 1) k := ⟨hk.1, fun h => hv h⟩
      have eo : odF (tblF l k v (d + 1)) = tblF l k (v + 1) d := odF_tbl k (fun j => saysF_indep hl (fun i hi => by rw [shl_bit, if_neg (by omega)]) hk1)
      have ee : evF (tblF l k v (d + 1)) = tblF l k (v + 1) d := evF_tbl k (fun j => rfl)
      rw [tabF_succ, eo, ee, ← ih (v + 1) k q a (by omega) hk1 hq]
      have hag := tabF_again d (v + 1) (tblF l k (v + 1) d) a []
      rw [← ih (v + 1) k q a (by omega) hk1 hq, List.append_nil] at hag
      rw [hag]
      unfold putF
      rw [if_pos rfl]
    by_cases h : k < 2
    · exact hsame (fun h1 => by omega)
    · by_cases hv : v < (bnAt l (k - 2)).1
      · exact hsame (fun _ => hv)
      · have h1 := hk.1
        have h2 := hk.2 (by omega)
        have hve : (bnAt l (k - 2)).1 = v := by omega
        obtain ⟨_, a2, a3⟩ := hl (k - 2) (by omega)
        rw [hve] at a2 a3
        have k2 : numOk l (v + 1) (bnAt l (k - 2)).2.1 := ⟨by have := a2.1; omega, fun h => a2.2 h⟩
        have k3 : numOk l (v + 1) (bnAt l (k - 2)).2.2 := ⟨by have := a3.1; omega, fun h => a3.2 h⟩
        have eo : odF (tblF l k v (d + 1)) = tblF l (bnAt l (k - 2)).2.2 (v + 1) d := odF_tbl _ (fun j => by
          rw [saysF_go hl (by omega) h1, hve, shl_bit, if_pos rfl]
          exact saysF_indep hl (fun i hi => by rw [shl_bit, if_neg (by omega)]) k3)
        have ee : evF (tblF l k v (d + 1)) = tblF l (bnAt l (k - 2)).2.1 (v + 1) d := evF_tbl _ (fun j => by
          rw [saysF_go hl (by omega) h1, hve, shl_bit0]
          rfl)
        obtain ⟨p, rfl⟩ : ∃ p, q = p + 1 := ⟨q - 1, by omega⟩
        unfold smF
        have g2 := a2.1
        have g3 := a3.1
        rw [if_neg h, tabF_succ, eo, ee, hve, ← ih (v + 1) _ p a (by omega) k2 (by omega), ← ih (v + 1) _ p _ (by omega) k3 (by omega)]
theorem sm_build {n : Nat} {l : List Bn} (hl : TreeOk n l) {k : Nat} (hk : k ≤ l.length + 1) : smF l k k [] = buildF n (readF n l k) := by
  rw [sm_tab hl n 0 k k [] (by omega) ⟨hk, fun _ => Nat.zero_le _⟩ (Nat.le_refl _)]
  unfold buildF
  congr 1
/-! ### both of two -/
def topF (l : List Bn) (k n : Nat) : Nat := if k < 2 then n else (bnAt l (k - 2)).1
def downF (l : List Bn) (k v : Nat) : Nat × Nat := if k < 2 ∨ (bnAt l (k - 2)).1 ≠ v then (k, k) else ((bnAt l (k - 2)).2.1, (bnAt l (k - 2)).2.2)
theorem topF_num {n : Nat} {l : List Bn} (hl : TreeOk n l) {k v : Nat} (hk : k ≤ l.length + 1) (hv : v ≤ topF l k n) : numOk l v k := by
  refine ⟨hk, fun h => ?_⟩
  unfold topF at hv
  rw [if_neg (by omega)] at hv
  exact hv
theorem topF_le {n : Nat} {l : List Bn} (hl : TreeOk n l) {k : Nat} (hk : k ≤ l.length + 1) : topF l k n ≤ n := by
  unfold topF
  split
  · exact Nat.le_refl _
  · have := (hl (k - 2) (by omega)).1
    omega
theorem down_ok {n : Nat} {l : List Bn} (hl : TreeOk n l) {k v : Nat} (hk : k ≤ l.length + 1) (hv : v ≤ topF l k n) (hvn : v < n) :
    (downF l k v).1 ≤ l.length + 1 ∧ (downF l k v).2 ≤ l.length + 1 ∧ v < topF l (downF l k v).1 n ∧ v < topF l (downF l k v).2 n ∧ ∀ s, saysF l k s = if s.testBit v then saysF l (downF l k v).2 s else saysF l (downF l k v).1 s := by
  unfold downF
  by_cases h : k < 2 ∨ (bnAt l (k - 2)).1 ≠ v
  · rw [if_pos h]
    have ht : v < topF l k n := by
      unfold topF at hv ⊢
      by_cases h2 : k < 2
      · rw [if_pos h2]; exact hvn
      · rw [if_neg h2] at hv ⊢
        have := h.resolve_left h2
        omega
    exact ⟨hk, hk, ht, ht, fun s => by split <;> rfl⟩
  · rw [if_neg h]
    have h2 : ¬ k < 2 := fun e => h (.inl e)
    have h3 : (bnAt l (k - 2)).1 = v := by
      by_cases e : (bnAt l (k - 2)).1 = v
      · exact e
      · exact absurd (.inr e) h
    obtain ⟨_, a2, a3⟩ := hl (k - 2) (by omega)
    rw [h3] at a2 a3
    have key : ∀ j, goOk l (k - 2) v j → v < topF l j n := fun j hj => by
      unfold topF
      by_cases e : j < 2
      · rw [if_pos e]; exact hvn
      · rw [if_neg e]; exact hj.2 (by omega)
    refine ⟨by have := a2.1; omega, by have := a3.1; omega, key _ a2, key _ a3, fun s => ?_⟩
    rw [saysF_go hl (by omega) hk, h3]
    cases s.testBit v <;> rfl
/-- the number k of a says what x of l and y of r say both -/
def AndK (n : Nat) (l r a : List Bn) (x y k : Nat) : Prop := numOk a (min (topF l x n) (topF r y n)) k ∧ ∀ s, saysF a k s = (saysF l x s && saysF r y s)
theorem AndK.app {n : Nat} {l r a : List Bn} {x y k : Nat} (h : AndK n l r a x y k) (ha : TreeOk n a) (m : List Bn) : AndK n l r (a ++ m) x y k := by
  refine ⟨h.1.app m, fun s => ?_⟩
  rw [saysF_app ha m h.1.1]
  exact h.2 s
theorem AndK.zero {n : Nat} {l r a : List Bn} {x y : Nat} (h : x = 0 ∨ y = 0) : AndK n l r a x y 0 := by
  refine ⟨⟨Nat.zero_le _, fun h => absurd h (by omega)⟩, fun s => ?_⟩
  rw [saysF_le a s (by omega)]
  rcases h with rfl | rfl
  · rw [saysF_le l s (by omega)]; rfl
  · rw [saysF_le r s (by omega)]; simp
theorem AndK.one {n : Nat} {l r a : List Bn} (hl : TreeOk n l) (hr : TreeOk n r) {x y : Nat} (hx : x ≤ l.length + 1) (hy : y ≤ r.length + 1) (h1 : x ≠ 0) (h2 : y ≠ 0) (h : n ≤ min (topF l x n) (topF r y n)) : AndK n l r a x y 1 := by
  have ex : x = 1 := by
    by_cases e : x < 2
    · omega
    · have : n ≤ topF l x n := by omega
      unfold topF at this
      rw [if_neg e] at this
      have := (hl (x - 2) (by omega)).1
      omega
  have ey : y = 1 := by
    by_cases e : y < 2
    · omega
    · have : n ≤ topF r y n := by omega
      unfold topF at this
      rw [if_neg e] at this
      have := (hr (y - 2) (by omega)).1
      omega
  subst ex ey
  refine ⟨⟨by omega, fun h => absurd h (by omega)⟩, fun s => ?_⟩
  rw [saysF_le a s (by omega), saysF_le l s (by omega), saysF_le r s (by omega)]
  rfl
/-- two steps and a put -/
theorem AndK.put {n : Nat} {l r a a1 a2 : List Bn} (hl : TreeOk n l) (hr : TreeOk n r) {x y k1 k2 v : Nat} (hx : x ≤ l.length + 1) (hy : y ≤ r.length + 1) (hv : v = min (topF l x n) (topF r y n)) (hvn : v < n)
    (t1 : TreeOk n a1) (h1 : AndK n l r a1 (downF l x v).1 (downF r y v).1 k1) (e2 : ∃ m, a2 = a1 ++ m) (t2 : TreeOk n a2) (h2 : AndK n l r a2 (downF l x v).2 (downF r y v).2 k2) :
    TreeOk n (putF a2 (v, k1, k2)).1 ∧ AndK n l r (putF a2 (v, k1, k2)).1 x y (putF a2 (v, k1, k2)).2 ∧ ∃ m, (putF a2 (v, k1, k2)).1 = a2 ++ m ∧ m.length ≤ 1 := by
  obtain ⟨m, rfl⟩ := e2
  have h1' := h1.app t1 m
  obtain ⟨x1, x2, x3, x4, x5⟩ := down_ok hl hx (v := v) (by omega) hvn
  obtain ⟨y1, y2, y3, y4, y5⟩ := down_ok hr hy (v := v) (by omega) hvn
  have nn : ∀ {p q k : Nat}, v < topF l p n → v < topF r q n → AndK n l r (a1 ++ m) p q k → numOk (a1 ++ m) (v + 1) k := fun hp hq h => ⟨h.1.1, fun e => by have := h.1.2 e; omega⟩
  have P := put_ok (b := (v, k1, k2)) t2 hvn (nn x3 y3 h1') (nn x4 y4 h2)
  refine ⟨P.tree, ⟨by rw [← hv]; exact P.num, fun s => ?_⟩, P.ext⟩
  rw [P.says s, x5 s, y5 s]
  show (if s.testBit v = true then saysF (a1 ++ m) k2 s else saysF (a1 ++ m) k1 s) = _
  rw [h2.2 s, h1'.2 s]
  cases s.testBit v <;> rfl
end Go.Proofs.Ytjliabifaohfjaa
