/- Sets that have with each thing all that is under it: plain facts, with no program in sight. -/
import Derived.Test.YtgcpomdlajoifaaCoverP
import Derived.Test.YtgcpomdlajoifaaOwn
namespace Go.Proofs.Ytgcpomdlajoifaa
open Go Go.RowKit

theorem upL_at' {n i j : Nat} (ps : List Pr) (hn : n ≤ 32) (hi : i < n) (hj : j < n) : (nth (upL n ps) i).getLsbD j = under ps i j := by
  rw [upL_bit ps hn hi]
  simp [hj]
theorem upL_fit {n i : Nat} (ps : List Pr) (hn : n ≤ 32) (hi : i < n) : fitB n (nth (upL n ps) i) = true := by
  rw [nth_upL ps hi]
  exact wordN_fit n _ hn
/-- has a row anything of a set? -/
def hitB (up : List (BitVec 32)) (s : BitVec 32) (i : Nat) : Bool := nth up i &&& s != 0#32
def belowF (up : List (BitVec 32)) (s : BitVec 32) : BitVec 32 := wordN up.length (hitB up s)
def fillTo2 (up : List (BitVec 32)) (s : BitVec 32) (k : Nat) : BitVec 32 := s ||| wordN k (hitB up s)
def fillF (up : List (BitVec 32)) (s : BitVec 32) : BitVec 32 := fillTo2 up s up.length
theorem fillTo2_succ (up : List (BitVec 32)) (s : BitVec 32) (k : Nat) : fillTo2 up s (k + 1) = if hitB up s k then fillTo2 up s k ||| 1#32 <<< k else fillTo2 up s k := by
  unfold fillTo2
  rw [wordN_succ]
  split
  · rw [BitVec.or_assoc]
  · rfl
theorem and_nz {x y : BitVec 32} : (x &&& y != 0#32) = true ↔ ∃ j, j < 32 ∧ x.getLsbD j = true ∧ y.getLsbD j = true := by
  rw [bne_iff_ne]
  constructor
  · intro h
    refine Classical.byContradiction fun hno => h ?_
    apply BitVec.eq_of_getLsbD_eq
    intro i hi
    rw [BitVec.getLsbD_and]
    cases hx : x.getLsbD i
    · simp
    · cases hy : y.getLsbD i
      · simp
      · exact absurd ⟨i, hi, hx, hy⟩ hno
  · rintro ⟨j, _, hx, hy⟩ e
    have : (x &&& y).getLsbD j = true := by rw [BitVec.getLsbD_and, hx, hy]; rfl
    rw [e] at this
    simp at this
/-- is i under one of a set? -/
noncomputable def dnB (n : Nat) (ps : List Pr) (s : BitVec 32) (i : Nat) : Bool := (List.range n).any fun j => s.getLsbD j && under ps i j
theorem dnB_iff {n : Nat} {ps : List Pr} {s : BitVec 32} {i : Nat} : dnB n ps s i = true ↔ ∃ j, j < n ∧ s.getLsbD j = true ∧ under ps i j = true := by
  unfold dnB
  rw [List.any_eq_true]
  constructor
  · rintro ⟨j, hj, h⟩
    rw [Bool.and_eq_true] at h
    exact ⟨j, List.mem_range.1 hj, h⟩
  · rintro ⟨j, hj, h1, h2⟩
    exact ⟨j, List.mem_range.2 hj, by rw [h1, h2]; rfl⟩
theorem hit_upL {n : Nat} {ps : List Pr} (hn : n ≤ 32) (s : BitVec 32) {i : Nat} (hi : i < n) : hitB (upL n ps) s i = dnB n ps s i := by
  rw [Bool.eq_iff_iff, dnB_iff]
  unfold hitB
  rw [and_nz]
  constructor
  · rintro ⟨j, _, h1, h2⟩
    have hj := fitB_iff.1 (upL_fit ps hn hi) j h1
    rw [upL_at' ps hn hi hj] at h1
    exact ⟨j, hj, h2, h1⟩
  · rintro ⟨j, hj, h1, h2⟩
    exact ⟨j, by omega, by rw [upL_at' ps hn hi hj]; exact h2, h1⟩
theorem wordN_congr {n : Nat} {p q : Nat → Bool} (h : ∀ i, i < n → p i = q i) (hn : n ≤ 32) : wordN n p = wordN n q := by
  apply BitVec.eq_of_getLsbD_eq
  intro i _
  rw [wordN_bit p n hn, wordN_bit q n hn]
  by_cases hi : i < n
  · rw [h i hi]
  · simp [hi]
/-- all that is under a set -/
noncomputable def dnW (n : Nat) (ps : List Pr) (s : BitVec 32) : BitVec 32 := wordN n (dnB n ps s)
theorem belowF_upL {n : Nat} {ps : List Pr} (hn : n ≤ 32) (s : BitVec 32) : belowF (upL n ps) s = dnW n ps s := by
  unfold belowF dnW
  rw [upL_length]
  exact wordN_congr (fun i hi => hit_upL hn s hi) hn
theorem dnW_bit {n : Nat} {ps : List Pr} {s : BitVec 32} (hn : n ≤ 32) {i : Nat} : (dnW n ps s).getLsbD i = true ↔ i < n ∧ ∃ j, j < n ∧ s.getLsbD j = true ∧ under ps i j = true := by
  unfold dnW
  rw [wordN_bit _ n hn, Bool.and_eq_true, decide_eq_true_eq, dnB_iff]
theorem dnW_fit {n : Nat} {ps : List Pr} {s : BitVec 32} (hn : n ≤ 32) : fitB n (dnW n ps s) = true := wordN_fit n _ hn
theorem dnW_sub {n : Nat} {ps : List Pr} {s : BitVec 32} (hn : n ≤ 32) (hs : fitB n s = true) : subB s (dnW n ps s) = true := by
  refine subB_iff.2 fun i hi => ?_
  have h := fitB_iff.1 hs i hi
  exact (dnW_bit hn).2 ⟨h, i, h, hi, under_refl _ _⟩
theorem fillF_upL {n : Nat} {ps : List Pr} (hn : n ≤ 32) (s : BitVec 32) (hs : fitB n s = true) : fillF (upL n ps) s = dnW n ps s := by
  have e : fillF (upL n ps) s = s ||| dnW n ps s := by
    have := belowF_upL (ps := ps) hn s
    unfold fillF fillTo2
    unfold belowF at this
    rw [this]
  rw [e]
  exact by simpa [subB] using dnW_sub (ps := ps) hn hs
theorem dnW_idem {n : Nat} {ps : List Pr} {s : BitVec 32} (hn : n ≤ 32) : dnW n ps (dnW n ps s) = dnW n ps s := by
  apply subB_antisymm
  · refine subB_iff.2 fun i hi => ?_
    obtain ⟨h1, j, hj, h2, h3⟩ := (dnW_bit hn).1 hi
    obtain ⟨_, k, hk, h4, h5⟩ := (dnW_bit hn).1 h2
    exact (dnW_bit hn).2 ⟨h1, k, hk, h4, under_trans h3 h5⟩
  · exact dnW_sub hn (dnW_fit hn)
/-- those of a set that are under no other one of it -/
def edgeB (up : List (BitVec 32)) (s : BitVec 32) (i : Nat) : Bool := s.getLsbD i && (nth up i &&& s == 1#32 <<< i)
def edgeF (up : List (BitVec 32)) (s : BitVec 32) : BitVec 32 := wordN up.length (edgeB up s)
noncomputable def edB (n : Nat) (ps : List Pr) (s : BitVec 32) (i : Nat) : Bool := s.getLsbD i && !(List.range n).any fun j => j != i && (s.getLsbD j && under ps i j)
noncomputable def edW (n : Nat) (ps : List Pr) (s : BitVec 32) : BitVec 32 := wordN n (edB n ps s)
theorem edB_iff {n : Nat} {ps : List Pr} {s : BitVec 32} {i : Nat} : edB n ps s i = true ↔ s.getLsbD i = true ∧ ∀ j, j < n → s.getLsbD j = true → under ps i j = true → j = i := by
  unfold edB
  rw [Bool.and_eq_true, Bool.not_eq_true', List.any_eq_false]
  constructor
  · rintro ⟨h1, h2⟩
    refine ⟨h1, fun j hj a b => Classical.byContradiction fun hne => h2 j (List.mem_range.2 hj) ?_⟩
    rw [a, b]
    simpa using hne
  · rintro ⟨h1, h2⟩
    refine ⟨h1, fun j hj hb => ?_⟩
    rw [Bool.and_eq_true, Bool.and_eq_true, bne_iff_ne] at hb
    exact hb.1 (h2 j (List.mem_range.1 hj) hb.2.1 hb.2.2)
theorem edge_upL {n : Nat} {ps : List Pr} (hn : n ≤ 32) (s : BitVec 32) {i : Nat} (hi : i < n) : edgeB (upL n ps) s i = edB n ps s i := by
  rw [Bool.eq_iff_iff, edB_iff]
  unfold edgeB
  rw [Bool.and_eq_true, beq_iff_eq]
  constructor
  · rintro ⟨h1, h2⟩
    refine ⟨h1, fun j hj a b => ?_⟩
    have : (nth (upL n ps) i &&& s).getLsbD j = true := by rw [BitVec.getLsbD_and, upL_at' ps hn hi hj, a, b]; rfl
    rw [h2, getLsbD_bit, Bool.and_eq_true, decide_eq_true_eq] at this
    exact this.1.symm
  · rintro ⟨h1, h2⟩
    refine ⟨h1, ?_⟩
    apply BitVec.eq_of_getLsbD_eq
    intro j hj
    rw [BitVec.getLsbD_and, getLsbD_bit]
    by_cases hij : i = j
    · subst hij
      rw [h1, upL_at' ps hn hi hi, under_refl]
      simp [hj]
    · have hd : decide (i = j) = false := by simpa using hij
      rw [hd, Bool.false_and]
      cases hx : (nth (upL n ps) i).getLsbD j
      · rfl
      · cases hs : s.getLsbD j
        · rfl
        · have hjn := fitB_iff.1 (upL_fit ps hn hi) j hx
          rw [upL_at' ps hn hi hjn] at hx
          exact absurd (h2 j hjn hs hx).symm hij
theorem edgeF_upL {n : Nat} {ps : List Pr} (hn : n ≤ 32) (s : BitVec 32) : edgeF (upL n ps) s = edW n ps s := by
  unfold edgeF edW
  rw [upL_length]
  exact wordN_congr (fun i hi => edge_upL hn s hi) hn
theorem edW_bit {n : Nat} {ps : List Pr} {s : BitVec 32} (hn : n ≤ 32) {i : Nat} : (edW n ps s).getLsbD i = true ↔ i < n ∧ s.getLsbD i = true ∧ ∀ j, j < n → s.getLsbD j = true → under ps i j = true → j = i := by
  unfold edW
  rw [wordN_bit _ n hn, Bool.and_eq_true, decide_eq_true_eq, edB_iff]
theorem edW_fit {n : Nat} {ps : List Pr} {s : BitVec 32} (hn : n ≤ 32) : fitB n (edW n ps s) = true := wordN_fit n _ hn
theorem edW_sub {n : Nat} {ps : List Pr} {s : BitVec 32} (hn : n ≤ 32) : subB (edW n ps s) s = true := subB_iff.2 fun _i hi => ((edW_bit hn).1 hi).2.1
theorem max_above {n : Nat} {ps : List Pr} {d : BitVec 32} (hn : n ≤ 32) (ha : Anti2 n ps) : ∀ m i : Nat, i < n → d.getLsbD i = true → (List.range n).countP (fun x : Nat => under ps i x && d.getLsbD x) ≤ m → ∃ j, j < n ∧ (edW n ps d).getLsbD j = true ∧ under ps i j = true := by
  intro m
  induction m with
  | zero =>
    intro i hi hd hm
    exfalso
    have : 0 < (List.range n).countP (fun x : Nat => under ps i x && d.getLsbD x) := by
      rw [List.countP_pos_iff]
      exact ⟨i, List.mem_range.2 hi, by rw [under_refl, hd]; rfl⟩
    omega
  | succ m ih =>
    intro i hi hd hm
    by_cases he : (edW n ps d).getLsbD i = true
    · exact ⟨i, hi, he, under_refl _ _⟩
    · have : ∃ j, j < n ∧ d.getLsbD j = true ∧ under ps i j = true ∧ j ≠ i := by
        refine Classical.byContradiction fun hno => he ((edW_bit hn).2 ⟨hi, hd, fun j hj a b => Classical.byContradiction fun c => hno ⟨j, hj, a, b, c⟩⟩)
      obtain ⟨j, hj, h1, h2, h3⟩ := this
      have l1 : (List.range n).countP (fun x : Nat => under ps j x && d.getLsbD x) < (List.range n).countP (fun x : Nat => under ps i x && d.getLsbD x) := by
        refine countP_lt (a := i) ?_ (by simp only [hd, under_refl]; rfl) ?_ (List.mem_range.2 hi)
        · intro x hx
          rw [Bool.and_eq_true] at hx ⊢
          exact ⟨under_trans h2 hx.1, hx.2⟩
        · cases hji : under ps j i
          · simp
          · exact absurd (ha j i (by omega) (by omega) hji h2) h3
      obtain ⟨k, hk, h4, h5⟩ := ih j hj h1 (by omega)
      exact ⟨k, hk, h4, under_trans h2 h5⟩
theorem dn_ed {n : Nat} {ps : List Pr} {d : BitVec 32} (hn : n ≤ 32) (ha : Anti2 n ps) (hd : dnW n ps d = d) : dnW n ps (edW n ps d) = d := by
  apply subB_antisymm
  · refine subB_iff.2 fun i hi => ?_
    obtain ⟨h1, j, hj, h2, h3⟩ := (dnW_bit hn).1 hi
    rw [← hd]
    exact (dnW_bit hn).2 ⟨h1, j, hj, ((edW_bit hn).1 h2).2.1, h3⟩
  · refine subB_iff.2 fun i hi => ?_
    have hi' := hi
    rw [← hd] at hi'
    have hin := ((dnW_bit hn).1 hi').1
    obtain ⟨j, hj, h1, h2⟩ := max_above hn ha _ i hin hi (Nat.le_refl _)
    exact (dnW_bit hn).2 ⟨hin, j, hj, h1, h2⟩
/-- is none of a set under another one of it? -/
noncomputable def freeAt (ps : List Pr) (s : BitVec 32) (i j : Nat) : Bool := i != j && s.getLsbD i && s.getLsbD j && under ps i j
noncomputable def freeF (n : Nat) (ps : List Pr) (s : BitVec 32) : Bool := !(List.range n).any fun i => (List.range n).any (freeAt ps s i)
theorem freeF_iff {n : Nat} {ps : List Pr} {s : BitVec 32} : freeF n ps s = true ↔ ∀ i j, i < n → j < n → s.getLsbD i = true → s.getLsbD j = true → under ps i j = true → i = j := by
  unfold freeF
  rw [Bool.not_eq_true', List.any_eq_false]
  constructor
  · intro h i j hi hj a b c
    refine Classical.byContradiction fun hne => h i (List.mem_range.2 hi) ?_
    rw [List.any_eq_true]
    refine ⟨j, List.mem_range.2 hj, ?_⟩
    unfold freeAt
    rw [a, b, c]
    simpa using hne
  · intro h i hi hb
    rw [List.any_eq_true] at hb
    obtain ⟨j, hj, hb⟩ := hb
    unfold freeAt at hb
    rw [Bool.and_eq_true, Bool.and_eq_true, Bool.and_eq_true, bne_iff_ne] at hb
    exact hb.1.1.1 (h i j (List.mem_range.1 hi) (List.mem_range.1 hj) hb.1.1.2 hb.1.2 hb.2)
theorem ed_free {n : Nat} {ps : List Pr} {d : BitVec 32} (hn : n ≤ 32) : freeF n ps (edW n ps d) = true := by
  rw [freeF_iff]
  intro i j _ hj a b c
  exact (((edW_bit hn).1 a).2.2 j hj ((edW_bit hn).1 b).2.1 c).symm
theorem ed_dn {n : Nat} {ps : List Pr} {s : BitVec 32} (hn : n ≤ 32) (ha : Anti2 n ps) (hs : fitB n s = true) (hf : freeF n ps s = true) : edW n ps (dnW n ps s) = s := by
  rw [freeF_iff] at hf
  apply subB_antisymm
  · refine subB_iff.2 fun i hi => ?_
    obtain ⟨h1, h2, h3⟩ := (edW_bit hn).1 hi
    obtain ⟨_, j, hj, h4, h5⟩ := (dnW_bit hn).1 h2
    have : j = i := h3 j hj (subB_iff.1 (dnW_sub hn hs) j h4) h5
    rw [← this]
    exact h4
  · refine subB_iff.2 fun i hi => ?_
    have hin := fitB_iff.1 hs i hi
    refine (edW_bit hn).2 ⟨hin, subB_iff.1 (dnW_sub hn hs) i hi, fun j hj a b => ?_⟩
    obtain ⟨_, k, hk, h1, h2⟩ := (dnW_bit hn).1 a
    have : i = k := hf i k hin hk hi h1 (under_trans b h2)
    subst this
    exact ha j i (by omega) (by omega) h2 b
theorem ed_in {n : Nat} {ps : List Pr} {s : BitVec 32} (hn : n ≤ 32) (hs : fitB n s = true) : subB (edW n ps (dnW n ps s)) s = true := by
  refine subB_iff.2 fun i hi => ?_
  obtain ⟨h1, h2, h3⟩ := (edW_bit hn).1 hi
  obtain ⟨_, j, hj, h4, h5⟩ := (dnW_bit hn).1 h2
  have : j = i := h3 j hj (subB_iff.1 (dnW_sub hn hs) j h4) h5
  rw [← this]
  exact h4

/-! ### turned round -/
def turnP (ps : List Pr) : List Pr := ps.map fun p => (p.2, p.1)
theorem turn_reach {ps : List Pr} {a b : Int} (h : Reach ps a b) : Reach (turnP ps) b a := by
  refine h (fun x => Reach (turnP ps) x a) (Reach.refl a) fun p hp hx => ?_
  exact (Reach.pair (p := (p.2, p.1)) (List.mem_map.2 ⟨p, hp, rfl⟩)).trans hx
theorem turn_turn (ps : List Pr) : turnP (turnP ps) = ps := by
  unfold turnP
  rw [List.map_map]
  exact List.map_id ps
theorem turn_under (ps : List Pr) (a b : Int) : under (turnP ps) a b = under ps b a := by
  rw [Bool.eq_iff_iff, under_iff, under_iff]
  constructor
  · intro h
    have := turn_reach h
    rwa [turn_turn] at this
  · exact turn_reach
theorem turn_anti {n : Nat} {ps : List Pr} (h : Anti2 n ps) : Anti2 n (turnP ps) := by
  intro i j hi hj a b
  rw [turn_under] at a b
  exact h i j hi hj b a
theorem turn_ord {n : Nat} {ps : List Pr} (h : ordF n ps = 0) : ordF n (turnP ps) = 0 := by
  obtain ⟨⟨h1, h6, hl⟩, hr, ha⟩ := ordF_zero h
  refine ordF_of (by omega) (by omega) (by unfold turnP; rw [List.length_map]; exact hl) ?_ (turn_anti ha)
  intro p hp
  unfold turnP at hp
  obtain ⟨q, hq, rfl⟩ := List.mem_map.1 hp
  have := hr q hq
  exact ⟨this.2, this.1⟩

/-! ### how many -/
noncomputable def downsL (n : Nat) (ps : List Pr) : List (BitVec 32) := (words n).filter fun s => fillF (upL n ps) s == s
noncomputable def freesL (n : Nat) (ps : List Pr) : List (BitVec 32) := (words n).filter (freeF n ps)
theorem words_nodup (n : Nat) (hn : n < 32) : (words n).Nodup := by
  unfold words
  refine nodup_map_on ?_ List.nodup_range
  intro a ha b hb e
  rw [List.mem_range] at ha hb
  have := congrArg BitVec.toNat e
  rw [ofNat_toNat a n hn (by omega), ofNat_toNat b n hn (by omega)] at this
  exact this
theorem mem_downsL {n : Nat} {ps : List Pr} (hn : n < 32) {s : BitVec 32} : s ∈ downsL n ps ↔ fitB n s = true ∧ dnW n ps s = s := by
  unfold downsL
  rw [List.mem_filter, mem_words hn, beq_iff_eq]
  constructor
  · rintro ⟨h1, h2⟩
    rw [fillF_upL (by omega) s h1] at h2
    exact ⟨h1, h2⟩
  · rintro ⟨h1, h2⟩
    exact ⟨h1, by rw [fillF_upL (by omega) s h1]; exact h2⟩
theorem mem_freesL {n : Nat} {ps : List Pr} (hn : n < 32) {s : BitVec 32} : s ∈ freesL n ps ↔ fitB n s = true ∧ freeF n ps s = true := by
  unfold freesL
  rw [List.mem_filter, mem_words hn]
theorem le_of_inj {α : Type} [BEq α] [LawfulBEq α] {l m : List α} (f : α → α) (hn : l.Nodup) (hm : ∀ a ∈ l, f a ∈ m) (hi : ∀ a ∈ l, ∀ b ∈ l, f a = f b → a = b) : l.length ≤ m.length := by
  have := nodup_len2 (l.map f) m (nodup_map_on hi hn) (fun x hx => by
    obtain ⟨a, ha, rfl⟩ := List.mem_map.1 hx
    exact hm a ha)
  rwa [List.length_map] at this
theorem downs_frees {n : Nat} {ps : List Pr} (hn : n < 32) (ha : Anti2 n ps) : (downsL n ps).length = (freesL n ps).length := by
  apply Nat.le_antisymm
  · refine le_of_inj (edW n ps) (List.Pairwise.filter _ (words_nodup n hn)) ?_ ?_
    · intro a _
      exact (mem_freesL hn).2 ⟨edW_fit (by omega), ed_free (by omega)⟩
    · intro a h1 b h2 e
      have e1 := dn_ed (by omega) ha ((mem_downsL hn).1 h1).2
      have e2 := dn_ed (by omega) ha ((mem_downsL hn).1 h2).2
      rw [← e1, ← e2, e]
  · refine le_of_inj (dnW n ps) (List.Pairwise.filter _ (words_nodup n hn)) ?_ ?_
    · intro a _
      exact (mem_downsL hn).2 ⟨dnW_fit (by omega), dnW_idem (by omega)⟩
    · intro a h1 b h2 e
      have f1 := (mem_freesL hn).1 h1
      have f2 := (mem_freesL hn).1 h2
      rw [← ed_dn (by omega) ha f1.1 f1.2, ← ed_dn (by omega) ha f2.1 f2.2, e]
theorem not_bit {n : Nat} (s : BitVec 32) {i : Nat} (hi : i < n) (hn : n < 32) : ((1#32 <<< n - 1#32) &&& ~~~s).getLsbD i = !s.getLsbD i := by
  rw [BitVec.getLsbD_and, full_bit n i hn, BitVec.getLsbD_not]
  have : i < 32 := by omega
  simp [hi, this]
theorem not_fit {n : Nat} (s : BitVec 32) (hn : n < 32) : fitB n ((1#32 <<< n - 1#32) &&& ~~~s) = true := by
  rw [fitB_iff]
  intro i hi
  rw [BitVec.getLsbD_and, full_bit n i hn, Bool.and_eq_true, decide_eq_true_eq] at hi
  exact hi.1
theorem downs_turn_le {n : Nat} {ps : List Pr} (hn : n < 32) : (downsL n ps).length ≤ (downsL n (turnP ps)).length := by
  refine le_of_inj (fun s => (1#32 <<< n - 1#32) &&& ~~~s) (List.Pairwise.filter _ (words_nodup n hn)) ?_ ?_
  · intro s hs
    obtain ⟨h1, h2⟩ := (mem_downsL hn).1 hs
    refine (mem_downsL hn).2 ⟨not_fit s hn, subB_antisymm (subB_iff.2 fun i hi => ?_) (dnW_sub (by omega) (not_fit s hn))⟩
    obtain ⟨hin, j, hj, a, b⟩ := (dnW_bit (by omega)).1 hi
    rw [not_bit s hj hn] at a
    rw [turn_under] at b
    rw [not_bit s hin hn]
    cases hsi : s.getLsbD i
    · rfl
    · exfalso
      have : (dnW n ps s).getLsbD j = true := (dnW_bit (by omega)).2 ⟨hj, i, hin, hsi, b⟩
      rw [h2] at this
      rw [this] at a
      cases a
  · intro a h1 b h2 e
    have f1 := ((mem_downsL hn).1 h1).1
    have f2 := ((mem_downsL hn).1 h2).1
    apply BitVec.eq_of_getLsbD_eq
    intro i _
    by_cases hi : i < n
    · have := congrArg (fun x => BitVec.getLsbD x i) e
      rw [not_bit a hi hn, not_bit b hi hn] at this
      simpa using this
    · have e1 : a.getLsbD i = false := by
        cases h : a.getLsbD i
        · rfl
        · exact absurd (fitB_iff.1 f1 i h) hi
      have e2 : b.getLsbD i = false := by
        cases h : b.getLsbD i
        · rfl
        · exact absurd (fitB_iff.1 f2 i h) hi
      rw [e1, e2]
theorem downs_turn {n : Nat} {ps : List Pr} (hn : n < 32) : (downsL n (turnP ps)).length = (downsL n ps).length := by
  apply Nat.le_antisymm
  · have := downs_turn_le (n := n) (ps := turnP ps) hn
    rwa [turn_turn] at this
  · exact downs_turn_le hn
theorem downs_most {n : Nat} {ps : List Pr} (hn : n < 32) (ha : Anti2 n ps) : n + 1 ≤ (downsL n ps).length := by
  have key := nodup_len2 (0#32 :: (List.range n).map fun i => dnW n ps (1#32 <<< i)) (downsL n ps) ?_ ?_
  · simpa using key
  · rw [List.nodup_cons]
    have self : ∀ i, i < n → (dnW n ps (1#32 <<< i)).getLsbD i = true := fun i hi => (dnW_bit (by omega)).2 ⟨hi, i, hi, by rw [getLsbD_bit]; simp; omega, under_refl _ _⟩
    constructor
    · intro h
      obtain ⟨i, hi, e⟩ := List.mem_map.1 h
      have := self i (List.mem_range.1 hi)
      rw [e] at this
      exact absurd this (by simp)
    · refine nodup_map_on ?_ List.nodup_range
      intro a h1 b h2 e
      rw [List.mem_range] at h1 h2
      have q1 := self a h1
      have q2 := self b h2
      rw [e] at q1
      rw [← e] at q2
      obtain ⟨_, j, _, u1, u2⟩ := (dnW_bit (by omega)).1 q1
      obtain ⟨_, k, _, v1, v2⟩ := (dnW_bit (by omega)).1 q2
      rw [getLsbD_bit, Bool.and_eq_true, decide_eq_true_eq] at u1 v1
      rw [← u1.1] at u2
      rw [← v1.1] at v2
      exact ha a b (by omega) (by omega) u2 v2
  · intro x hx
    rcases List.mem_cons.1 hx with rfl | hx
    · refine (mem_downsL hn).2 ⟨fitB_zero n, subB_antisymm (subB_iff.2 fun i hi => ?_) (subB_zero _)⟩
      obtain ⟨_, j, _, a, _⟩ := (dnW_bit (by omega)).1 hi
      simp at a
    · obtain ⟨i, hi, rfl⟩ := List.mem_map.1 hx
      exact (mem_downsL hn).2 ⟨dnW_fit (by omega), dnW_idem (by omega)⟩
end Go.Proofs.Ytgcpomdlajoifaa
