/- What is right under what: plain facts, with no program in sight. -/
import Derived.Test.YtgcpomdlajoifaaOrderP
namespace Go.Proofs.Ytgcpomdlajoifaa
open Go Go.RowKit

theorem under_refl (ps : List Pr) (a : Int) : under ps a a = true := under_iff.2 (Reach.refl a)
theorem under_trans {ps : List Pr} {a b c : Int} (h : under ps a b = true) (k : under ps b c = true) : under ps a c = true := under_iff.2 ((under_iff.1 h).trans (under_iff.1 k))
/-- no two things below n are under each other -/
def Anti2 (n : Nat) (ps : List Pr) : Prop := ∀ i j : Nat, (i : Int) < (n : Int) → (j : Int) < (n : Int) → under ps i j = true → under ps j i = true → i = j
/-- is k between i and j? -/
noncomputable def betw (ps : List Pr) (i j k : Nat) : Bool := k != j && (under ps i k && k != i) && under ps k j
noncomputable def betwTo (ps : List Pr) (i j m : Nat) : Bool := (List.range m).any (betw ps i j)
noncomputable def covB (ps : List Pr) (n i j : Nat) : Bool := (under ps i j && j != i) && !betwTo ps i j n
noncomputable def covRow (ps : List Pr) (n i m : Nat) : List Pr := ((List.range m).filter (covB ps n i)).map fun j : Nat => ((i : Int), (j : Int))
noncomputable def covTo (ps : List Pr) (n i : Nat) : List Pr := (List.range i).flatMap fun x => covRow ps n x n
noncomputable def covL (ps : List Pr) (n : Nat) : List Pr := covTo ps n n
theorem betwTo_succ (ps : List Pr) (i j m : Nat) : betwTo ps i j (m + 1) = (betwTo ps i j m || betw ps i j m) := by
  unfold betwTo
  rw [List.range_succ, List.any_append]
  simp
theorem covRow_succ (ps : List Pr) (n i m : Nat) : covRow ps n i (m + 1) = covRow ps n i m ++ (if covB ps n i m then [((i : Int), (m : Int))] else []) := by
  unfold covRow
  rw [List.range_succ, List.filter_append, List.map_append]
  congr 1
  by_cases h : covB ps n i m = true
  · simp [h]
  · simp [h]
theorem covTo_succ (ps : List Pr) (n i : Nat) : covTo ps n (i + 1) = covTo ps n i ++ covRow ps n i n := by
  unfold covTo
  rw [List.range_succ, List.flatMap_append]
  simp
theorem covRow_len (ps : List Pr) (n i m : Nat) : (covRow ps n i m).length ≤ m := by
  unfold covRow
  rw [List.length_map]
  exact Nat.le_trans (List.length_filter_le _ _) (by simp)
theorem covTo_len (ps : List Pr) (n i : Nat) : (covTo ps n i).length ≤ i * n := by
  induction i with
  | zero => simp [covTo]
  | succ i ih =>
    rw [covTo_succ, List.length_append, Nat.add_mul, Nat.one_mul]
    have := covRow_len ps n i n
    omega
theorem mem_covL {ps : List Pr} {n : Nat} {p : Pr} : p ∈ covL ps n ↔ ∃ i j : Nat, i < n ∧ j < n ∧ p = ((i : Int), (j : Int)) ∧ covB ps n i j = true := by
  unfold covL covTo covRow
  simp only [List.mem_flatMap, List.mem_map, List.mem_filter, List.mem_range]
  constructor
  · rintro ⟨i, hi, j, ⟨hj, hc⟩, rfl⟩
    exact ⟨i, j, hi, hj, rfl, hc⟩
  · rintro ⟨i, j, hi, hj, rfl, hc⟩
    exact ⟨i, hi, j, ⟨hj, hc⟩, rfl⟩
theorem covB_iff {ps : List Pr} {n i j : Nat} : covB ps n i j = true ↔ under ps i j = true ∧ j ≠ i ∧ ∀ k, k < n → k ≠ j → under ps i k = true → k ≠ i → under ps k j = true → False := by
  unfold covB betwTo
  rw [Bool.and_eq_true, Bool.and_eq_true, bne_iff_ne, Bool.not_eq_true', List.any_eq_false]
  constructor
  · rintro ⟨⟨h1, h2⟩, h3⟩
    refine ⟨h1, h2, fun k hk a b c d => h3 k (List.mem_range.2 hk) ?_⟩
    unfold betw
    rw [b, d]
    simp [a, c]
  · rintro ⟨h1, h2, h3⟩
    refine ⟨⟨h1, h2⟩, fun k hk hb => ?_⟩
    unfold betw at hb
    rw [Bool.and_eq_true, Bool.and_eq_true, Bool.and_eq_true, bne_iff_ne, bne_iff_ne] at hb
    exact h3 k (List.mem_range.1 hk) hb.1.1 hb.1.2.1 hb.1.2.2 hb.2
theorem countP_lt {α : Type} {p q : α → Bool} (h : ∀ x, p x = true → q x = true) {a : α} (hq : q a = true) (hp : p a = false) : ∀ {l : List α}, a ∈ l → l.countP p < l.countP q := by
  intro l
  induction l with
  | nil => intro ha; simp at ha
  | cons x t ih =>
    intro ha
    have hle : ∀ t : List α, t.countP p ≤ t.countP q := fun t => List.countP_mono_left (fun x _ hx => h x hx)
    rw [List.countP_cons, List.countP_cons]
    rcases List.mem_cons.1 ha with rfl | ha
    · rw [hp, hq]
      have := hle t
      simp
      omega
    · have h1 := ih ha
      by_cases hx : p x = true
      · rw [hx, h x hx]
        omega
      · simp only [hx]
        simp
        omega
theorem cov_reach {ps : List Pr} {n : Nat} (ha : Anti2 n ps) : ∀ m i j : Nat, i < n → j < n → under ps i j = true → (List.range n).countP (fun x : Nat => under ps i x && under ps x j) ≤ m → Reach (covL ps n) i j := by
  intro m
  induction m with
  | zero =>
    intro i j hi hj hu hm
    exfalso
    have : 0 < (List.range n).countP (fun x : Nat => under ps i x && under ps x j) := by
      rw [List.countP_pos_iff]
      exact ⟨i, List.mem_range.2 hi, by rw [under_refl, hu]; rfl⟩
    omega
  | succ m ih =>
    intro i j hi hj hu hm
    by_cases hij : j = i
    · subst hij
      exact Reach.refl _
    · by_cases hc : covB ps n i j = true
      · exact Reach.pair (p := ((i : Int), (j : Int))) (mem_covL.2 ⟨i, j, hi, hj, rfl, hc⟩)
      · have : ∃ k, k < n ∧ k ≠ j ∧ under ps i k = true ∧ k ≠ i ∧ under ps k j = true := by
          refine Classical.byContradiction fun hno => hc (covB_iff.2 ⟨hu, hij, fun k a b c d e => hno ⟨k, a, b, c, d, e⟩⟩)
        obtain ⟨k, hk, h1, h2, h3, h4⟩ := this
        have l1 : (List.range n).countP (fun x : Nat => under ps i x && under ps x k) < (List.range n).countP (fun x : Nat => under ps i x && under ps x j) := by
          refine countP_lt (a := j) ?_ (by simp only [hu, under_refl]; rfl) ?_ (List.mem_range.2 hj)
          · intro x hx
            rw [Bool.and_eq_true] at hx ⊢
            exact ⟨hx.1, under_trans hx.2 h4⟩
          · cases hjk : under ps j k
            · simp
            · exact absurd (ha k j (by omega) (by omega) h4 hjk) h1
        have l2 : (List.range n).countP (fun x : Nat => under ps k x && under ps x j) < (List.range n).countP (fun x : Nat => under ps i x && under ps x j) := by
          refine countP_lt (a := i) ?_ (by simp only [hu, under_refl]; rfl) ?_ (List.mem_range.2 hi)
          · intro x hx
            rw [Bool.and_eq_true] at hx ⊢
            exact ⟨under_trans h2 hx.1, hx.2⟩
          · cases hki : under ps k i
            · simp
            · exact absurd (ha k i (by omega) (by omega) hki h2) h3
        exact (ih i k hi hk h2 (by omega)).trans (ih k j hk hj h4 (by omega))
theorem cov_under {ps : List Pr} {n : Nat} (ha : Anti2 n ps) {i j : Nat} (hi : i < n) (hj : j < n) : under (covL ps n) i j = under ps i j := by
  rw [Bool.eq_iff_iff]
  constructor
  · intro h
    refine under_iff.2 fun S hs hp => under_iff.1 h S hs fun p hm hx => ?_
    obtain ⟨a, b, _, _, rfl, hc⟩ := mem_covL.1 hm
    exact under_iff.1 (covB_iff.1 hc).1 S hx hp
  · exact fun h => under_iff.2 (cov_reach ha _ i j hi hj h (Nat.le_refl _))
theorem nodup_len2 {α : Type} [BEq α] [LawfulBEq α] : ∀ (l m : List α), l.Nodup → (∀ x ∈ l, x ∈ m) → l.length ≤ m.length := by
  intro l
  induction l with
  | nil => intro m _ _; simp
  | cons x t ih =>
    intro m hn hs
    rw [List.nodup_cons] at hn
    have hx : x ∈ m := hs x (by simp)
    have h1 := ih (m.erase x) hn.2 (fun y hy => by
      have hne : y ≠ x := fun e => hn.1 (e ▸ hy)
      exact (List.mem_erase_of_ne hne).2 (hs y (by simp [hy])))
    rw [List.length_erase_of_mem hx] at h1
    have : 0 < m.length := List.length_pos_of_mem hx
    rw [List.length_cons]
    omega
theorem nodup_map_on {α β : Type} {f : α → β} {l : List α} (h : ∀ a ∈ l, ∀ b ∈ l, f a = f b → a = b) (hn : l.Nodup) : (l.map f).Nodup := by
  unfold List.Nodup at hn ⊢
  rw [List.pairwise_map]
  exact List.Pairwise.imp_of_mem (fun ha hb hab e => hab (h _ ha _ hb e)) hn
theorem covL_nodup (ps : List Pr) (n : Nat) : (covL ps n).Nodup := by
  unfold covL covTo List.Nodup
  rw [List.pairwise_flatMap]
  constructor
  · intro x _
    unfold covRow
    refine nodup_map_on ?_ (List.Pairwise.filter _ List.nodup_range)
    intro a _ b _ h
    have := congrArg Prod.snd h
    simp at this
    omega
  · refine List.Pairwise.imp ?_ (List.nodup_range (n := n))
    intro a b hab p h1 q h2 e
    subst e
    unfold covRow at h1 h2
    obtain ⟨x, _, rfl⟩ := List.mem_map.1 h1
    obtain ⟨y, _, e⟩ := List.mem_map.1 h2
    have := congrArg Prod.fst e
    simp at this
    exact hab (by omega)
def offD (n : Nat) : List (Nat × Nat) := (List.range n).flatMap fun i => ((List.range n).filter (· != i)).map fun j => (i, j)
theorem offD_len (n : Nat) (hn : n ≤ 6) : (offD n).length ≤ 30 := by
  rcases (by omega : n = 0 ∨ n = 1 ∨ n = 2 ∨ n = 3 ∨ n = 4 ∨ n = 5 ∨ n = 6) with rfl | rfl | rfl | rfl | rfl | rfl | rfl <;> decide
theorem mem_offD {n i j : Nat} (hi : i < n) (hj : j < n) (h : j ≠ i) : (i, j) ∈ offD n := by
  unfold offD
  rw [List.mem_flatMap]
  refine ⟨i, List.mem_range.2 hi, List.mem_map.2 ⟨j, ?_, rfl⟩⟩
  rw [List.mem_filter, bne_iff_ne]
  exact ⟨List.mem_range.2 hj, h⟩
theorem covL_len {ps : List Pr} {n : Nat} (hn : n ≤ 6) (ha : Anti2 n ps) : (covL ps n).length ≤ 20 := by
  have hnat : ∀ p ∈ covL ps n, p.1 = ((p.1.toNat : Nat) : Int) ∧ p.2 = ((p.2.toNat : Nat) : Int) := by
    intro p hp
    obtain ⟨i, j, _, _, rfl, _⟩ := mem_covL.1 hp
    simp
  have key := nodup_len2 ((covL ps n).map (fun p => (p.1.toNat, p.2.toNat)) ++ (covL ps n).map (fun p => (p.2.toNat, p.1.toNat))) (offD n) ?_ ?_
  · have := offD_len n hn
    rw [List.length_append, List.length_map, List.length_map] at key
    omega
  · rw [List.nodup_append]
    refine ⟨?_, ?_, ?_⟩
    · refine nodup_map_on ?_ (covL_nodup ps n)
      intro p hp q hq e
      have h1 := congrArg Prod.fst e
      have h2 := congrArg Prod.snd e
      obtain ⟨a1, a2⟩ := hnat p hp
      obtain ⟨b1, b2⟩ := hnat q hq
      simp only at h1 h2
      exact Prod.ext (by rw [a1, b1, h1]) (by rw [a2, b2, h2])
    · refine nodup_map_on ?_ (covL_nodup ps n)
      intro p hp q hq e
      have h1 := congrArg Prod.fst e
      have h2 := congrArg Prod.snd e
      obtain ⟨a1, a2⟩ := hnat p hp
      obtain ⟨b1, b2⟩ := hnat q hq
      simp only at h1 h2
      exact Prod.ext (by rw [a1, b1, h2]) (by rw [a2, b2, h1])
    · intro x hx y hy e
      obtain ⟨p, hp, rfl⟩ := List.mem_map.1 hx
      obtain ⟨q, hq, rfl⟩ := List.mem_map.1 hy
      obtain ⟨i, j, hi, hj, rfl, hc⟩ := mem_covL.1 hp
      obtain ⟨i', j', hi', hj', rfl, hc'⟩ := mem_covL.1 hq
      have h1 := congrArg Prod.fst e
      have h2 := congrArg Prod.snd e
      simp at h1 h2
      subst h1 h2
      obtain ⟨u1, u2, _⟩ := covB_iff.1 hc
      obtain ⟨v1, _, _⟩ := covB_iff.1 hc'
      exact u2 (ha j i (by omega) (by omega) v1 u1)
  · intro x hx
    rw [List.mem_append] at hx
    rcases hx with hx | hx
    · obtain ⟨p, hp, rfl⟩ := List.mem_map.1 hx
      obtain ⟨i, j, hi, hj, rfl, hc⟩ := mem_covL.1 hp
      have := (covB_iff.1 hc).2.1
      simpa using mem_offD hi hj this
    · obtain ⟨p, hp, rfl⟩ := List.mem_map.1 hx
      obtain ⟨i, j, hi, hj, rfl, hc⟩ := mem_covL.1 hp
      have := (covB_iff.1 hc).2.1
      simpa using mem_offD hj hi (fun e => this e.symm)
theorem ordF_of {n : Nat} {ps : List Pr} (h1 : 1 ≤ n) (h6 : n ≤ 6) (hl : ps.length ≤ 20) (hr : ∀ p ∈ ps, (0 ≤ p.1 ∧ p.1 < (n : Int)) ∧ 0 ≤ p.2 ∧ p.2 < (n : Int)) (ha : Anti2 n ps) : ordF n ps = 0 := by
  unfold ordF
  rw [if_neg (by omega), if_neg, if_neg]
  · intro h
    rw [Int.toNat_natCast, List.any_eq_true] at h
    obtain ⟨i, hi, h⟩ := h
    rw [List.any_eq_true] at h
    obtain ⟨j, hj, h⟩ := h
    rw [List.mem_range] at hi hj
    unfold twin at h
    rw [Bool.and_eq_true] at h
    have := ha i j (by omega) (by omega) h.1 h.2
    omega
  · rw [Bool.not_eq_false, List.all_eq_true]
    exact fun p hp => prOk_iff.2 (hr p hp)
theorem cov_ord {n : Nat} {ps : List Pr} (h1 : 1 ≤ n) (h6 : n ≤ 6) (ha : Anti2 n ps) : ordF n (covL ps n) = 0 := by
  refine ordF_of h1 h6 (covL_len h6 ha) ?_ ?_
  · intro p hp
    obtain ⟨i, j, hi, hj, rfl, _⟩ := mem_covL.1 hp
    simp
    omega
  · intro i j hi hj u v
    rw [cov_under ha (by omega) (by omega)] at u v
    exact ha i j hi hj u v
theorem cov_upL {n : Nat} {ps : List Pr} (ha : Anti2 n ps) : upL n (covL ps n) = upL n ps := by
  unfold upL
  apply List.map_congr_left
  intro i hi
  rw [List.mem_range] at hi
  unfold wordN
  have : ∀ (l : List Nat) (b : BitVec 32), (∀ x ∈ l, x < n) → l.foldl (fun (a : BitVec 32) (j : Nat) => if under (covL ps n) i j then a ||| 1#32 <<< j else a) b = l.foldl (fun (a : BitVec 32) (j : Nat) => if under ps i j then a ||| 1#32 <<< j else a) b := by
    intro l
    induction l with
    | nil => intro b _; rfl
    | cons x t ih =>
      intro b hx
      rw [List.foldl_cons, List.foldl_cons, cov_under ha hi (hx x (by simp))]
      exact ih _ fun y hy => hx y (by simp [hy])
  exact this _ _ fun x hx => List.mem_range.1 hx
end Go.Proofs.Ytgcpomdlajoifaa
