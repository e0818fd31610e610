/- A round of Primes: plain laws, and what lies beside each other in memory. -/
import Derived.Test.YtjliabifaohfjaaPrime4
import Derived.Test.YtjliabifaohfjaaQuiet
namespace Go.Proofs.Ytjliabifaohfjaa
open Go Go.RowKit
set_option linter.unusedVariables false

theorem MapK.neP {w0 w : World} {P : Program} {k : TypeId} {b : Nat} {ks : List Value} {g : Value → Value} {B : Nat} {e : TypeId} {xs : List Value} (h : MapK w P k b ks g) (r : Row w0 w B e xs) : b ≠ B := by
  obtain ⟨es, clock, hb, _⟩ := h
  obtain ⟨cur, h1, _⟩ := r.1
  intro e
  subst e
  rw [hb] at h1
  cases h1
theorem MapK.farP {w0 w : World} {P : Program} {k : TypeId} {b : Nat} {ks : List Value} {g : Value → Value} {E : TypeId} {s n : Nat} {v : Value} {xs : List Value} (h : MapK w P k b ks g) (o : Own w0 w E s v n xs) : some b ≠ v.ownBlock := by
  obtain ⟨es, clock, hb, _⟩ := h
  intro he
  rcases o.1.2 with ⟨rfl, _⟩ | ⟨gg, cap, cur, rfl, _, hg, _⟩
  · cases he
  · injection he with he
    have he : b = gg := he
    subst he
    rw [hb] at hg
    cases hg
theorem RanK.heap {w : World} {P : Program} {k : TypeId} {b r : Nat} {ks : List Value} {g : Value → Value} {L : List Value} {cnt : Nat} (h : RanK w P k b r ks g L cnt) : ∃ m since seen c0, w.heap[r]? = some (.mapIter m since seen c0) := by
  obtain ⟨D, n, left, ⟨es, clock, since, seen, c0, _, _, _, _, hr, _⟩, _⟩ := h
  exact ⟨_, _, _, _, hr⟩
theorem RanK.neP {w0 w : World} {P : Program} {k : TypeId} {b r : Nat} {ks : List Value} {g : Value → Value} {L : List Value} {cnt : Nat} {B : Nat} {e : TypeId} {xs : List Value} (h : RanK w P k b r ks g L cnt) (q : Row w0 w B e xs) : r ≠ B := by
  obtain ⟨m, since, seen, c0, hr⟩ := h.heap
  obtain ⟨cur, h1, _⟩ := q.1
  intro e
  subst e
  rw [hr] at h1
  cases h1
theorem RanK.farP {w0 w : World} {P : Program} {k : TypeId} {b r : Nat} {ks : List Value} {g : Value → Value} {L : List Value} {cnt : Nat} {E : TypeId} {s n : Nat} {v : Value} {xs : List Value} (h : RanK w P k b r ks g L cnt) (o : Own w0 w E s v n xs) : some r ≠ v.ownBlock := by
  obtain ⟨m, since, seen, c0, hr⟩ := h.heap
  intro he
  rcases o.1.2 with ⟨rfl, _⟩ | ⟨gg, cap, cur, rfl, _, hg, _⟩
  · cases he
  · injection he with he
    have he : r = gg := he
    subst he
    rw [hr] at hg
    cases hg
theorem LevK.nodup {w : World} {b : Nat} {lev : List Cb} (h : LevK w b lev) : lev.Nodup := by
  have := MapK.nodup h
  unfold List.Nodup at this ⊢
  rw [List.pairwise_map] at this
  exact this.imp fun hne e => hne (by rw [e])
/-- a measure for what is told by a number that is not seen -/
theorem measure_of {α β : Type} (R : Nat → α → β → Prop) : ∃ M : α → β → Nat, ∀ t w k, R k t w → R (M t w) t w ∧ M t w ≤ k := by
  have least : ∀ (t : α) (w : β) (k : Nat), R k t w → ∃ k0, R k0 t w ∧ ∀ j, R j t w → k0 ≤ j := by
    intro t w k
    induction k using Nat.strongRecOn with
    | ind k ih =>
      intro hk
      by_cases h : ∃ j, j < k ∧ R j t w
      · obtain ⟨j, hj, hr⟩ := h
        exact ih j hj hr
      · exact ⟨k, hk, fun j hj => Nat.le_of_not_lt fun hl => h ⟨j, hl, hj⟩⟩
  have : ∀ x : α × β, ∃ k0, ∀ k, R k x.1 x.2 → R k0 x.1 x.2 ∧ k0 ≤ k := by
    intro x
    by_cases h : ∃ k, R k x.1 x.2
    · obtain ⟨k, hk⟩ := h
      obtain ⟨k0, h0, h1⟩ := least x.1 x.2 k hk
      exact ⟨k0, fun j hj => ⟨h0, h1 j hj⟩⟩
    · exact ⟨0, fun k hk => absurd ⟨k, hk⟩ h⟩
  obtain ⟨f, hf⟩ := Classical.axiomOfChoice this
  exact ⟨fun t w => f (t, w), fun t w k hk => hf (t, w) k hk⟩
/-! ### how many -/
theorem nodup_few : ∀ (m : Nat) (l : List Nat), l.Nodup → (∀ x ∈ l, x < m) → l.length ≤ m := by
  intro m
  induction m with
  | zero =>
    intro l _ h
    cases l with
    | nil => simp
    | cons a t => exact absurd (h a (by simp)) (by omega)
  | succ m ih =>
    intro l hl h
    have h1 := ih (l.filter fun x => x != m) (List.Pairwise.filter _ hl) (fun x hx => by
      rw [List.mem_filter] at hx
      have h2 := h x hx.1
      have h3 : x ≠ m := by simpa using hx.2
      omega)
    have h2 : l.length ≤ (l.filter fun x => x != m).length + 1 := by
      clear h1 h ih
      induction l with
      | nil => simp
      | cons a t iht =>
        rw [List.nodup_cons] at hl
        rw [List.filter_cons]
        by_cases e : a = m
        · subst e
          have : (t.filter fun x => x != a) = t := by
            rw [List.filter_eq_self]
            intro x hx
            simp
            intro e
            subst e
            exact hl.1 hx
          simp [this]
        · have h3 := iht hl.2
          simp [e]
          omega
    omega
theorem word_small {x : BitVec 32} {n : Nat} (hn : n ≤ 4) (h : ∀ i, x.getLsbD i = true → i < n) : x.toNat < 16 := by
  have h4 : x.toNat < 2 ^ 4 := by
    refine Nat.lt_of_not_le fun hge => ?_
    obtain ⟨i, hi, hb⟩ := Nat.exists_ge_and_testBit_of_ge_two_pow hge
    have : x.getLsbD i = true := hb
    have := h i this
    omega
  exact h4
theorem lev_few {n d : Nat} {lev : List Cb} (hn : n ≤ 4) (hd : lev.Nodup) (hs : ∀ c ∈ lev, ShC n d c) : lev.length ≤ 256 := by
  have hsm : ∀ c ∈ lev, c.1.toNat < 16 ∧ c.2.toNat < 16 := by
    intro c hc
    have h := (hs c hc).2.1
    refine ⟨word_small hn fun i hi => h i ?_, word_small hn fun i hi => h i ?_⟩
    · unfold fixB
      rw [BitVec.getLsbD_or, hi]
      rfl
    · unfold fixB
      rw [BitVec.getLsbD_or, hi]
      simp
  have := nodup_few 256 (lev.map fun c => c.1.toNat * 16 + c.2.toNat) (by
    unfold List.Nodup at hd ⊢
    rw [List.pairwise_map]
    refine List.Pairwise.imp_of_mem ?_ hd
    intro a b ha hb hne e
    obtain ⟨a1, a2⟩ := hsm a ha
    obtain ⟨b1, b2⟩ := hsm b hb
    exact hne (Prod.ext (BitVec.eq_of_toNat_eq (by omega)) (BitVec.eq_of_toNat_eq (by omega)))) (fun x hx => by
    obtain ⟨c, hc, rfl⟩ := List.mem_map.1 hx
    obtain ⟨a1, a2⟩ := hsm c hc
    omega)
  simpa using this
open Classical in
/-- how many are still to come -/
noncomputable def remC (L : List Value) (lev : List Cb) : Nat := (lev.filter fun c => decide (cbV c ∈ L)).length
open Classical in
theorem remC_all (lev : List Cb) : remC (lev.map cbV) lev = lev.length := by
  unfold remC
  congr 1
  rw [List.filter_eq_self]
  intro c hc
  exact decide_eq_true (mem_cbV.2 hc)
theorem filter_fewer {α : Type} (p q : α → Bool) (x : α) : ∀ l : List α, (∀ y ∈ l, q y = true → p y = true) → x ∈ l → p x = true → q x = false → (l.filter q).length + 1 ≤ (l.filter p).length := by
  intro l
  induction l with
  | nil => intro _ h; cases h
  | cons a l ih =>
    intro h hx hp hq
    have hl := filter_less p q l (fun y hy => h y (List.mem_cons_of_mem _ hy))
    rw [List.filter_cons, List.filter_cons]
    rcases List.mem_cons.1 hx with e | hx
    · subst e
      rw [hp, hq]
      simp
      omega
    · have := ih (fun y hy => h y (List.mem_cons_of_mem _ hy)) hx hp hq
      have ha := h a (List.mem_cons_self ..)
      cases hqa : q a
      · cases hpa : p a <;> simp <;> omega
      · rw [ha hqa]
        simp
        omega
open Classical in
theorem remC_less {L L' : List Value} {lev : List Cb} {c : Cb} (hL : ∀ y, y ∈ L' ↔ y ∈ L ∧ y ≠ cbV c) (hc : c ∈ lev) (hcL : cbV c ∈ L) : remC L' lev + 1 ≤ remC L lev := by
  unfold remC
  refine filter_fewer _ _ c lev (fun y _ hy => ?_) hc (decide_eq_true hcL) (decide_eq_false fun h => ((hL _).1 h).2 rfl)
  exact decide_eq_true ((hL _).1 (of_decide_eq_true hy)).1
/-! ### the beginning -/
structure IniI (n : Nat) (f : Nat → Bool) (k : Nat) (lev : List Cb) : Prop where
  sound : ∀ c ∈ lev, ∃ j, j < k ∧ f j = true ∧ c = iniC n j
  full : ∀ j, j < k → f j = true → iniC n j ∈ lev
  len : lev.length ≤ k
theorem IniI.start (n : Nat) (f : Nat → Bool) : IniI n f 0 [] := ⟨by simp, fun j h => by omega, by simp⟩
theorem IniI.skip {n : Nat} {f : Nat → Bool} {k : Nat} {lev : List Cb} (h : IniI n f k lev) (hf : f k = false) : IniI n f (k + 1) lev := by
  refine ⟨fun c hc => ?_, fun j hj hfj => ?_, by have := h.len; omega⟩
  · obtain ⟨j, a, b, e⟩ := h.sound c hc
    exact ⟨j, by omega, b, e⟩
  · by_cases e : j = k
    · subst e
      rw [hf] at hfj
      cases hfj
    · exact h.full j (by omega) hfj
theorem IniI.put {n : Nat} {f : Nat → Bool} {k : Nat} {lev lev' : List Cb} (h : IniI n f k lev) (hf : f k = true) (hm : ∀ x, x ∈ lev' ↔ x ∈ lev ∨ x = iniC n k) (hl : lev'.length ≤ lev.length + 1) : IniI n f (k + 1) lev' := by
  refine ⟨fun c hc => ?_, fun j hj hfj => ?_, by have := h.len; omega⟩
  · rcases (hm c).1 hc with hc | rfl
    · obtain ⟨j, a, b, e⟩ := h.sound c hc
      exact ⟨j, by omega, b, e⟩
    · exact ⟨k, by omega, hf, rfl⟩
  · by_cases e : j = k
    · subst e
      exact (hm _).2 (.inr rfl)
    · exact (hm _).2 (.inl (h.full j (by omega) hfj))
/-! ### rounds -/
/-- the level of the round r, and the primes so far -/
structure RndI (n : Nat) (f : Nat → Bool) (r : Nat) (lev P : List Cb) : Prop where
  shape : ∀ c ∈ lev, r ≤ n ∧ ShC n (n - r) c
  few : P.length ≤ 256 * r
  round : r ≤ n + 1
  sound : SndC (2 ^ n) f (P ++ lev)
  full : CmpC (2 ^ n) f (P ++ lev)
theorem IniI.rnd {n : Nat} {f : Nat → Bool} {lev : List Cb} (hn : n ≤ 4) (h : IniI n f (2 ^ n) lev) : RndI n f 0 lev [] := by
  refine ⟨fun c hc => ?_, by simp, by omega, fun c hc s hs hcov => ?_, fun s hs hf => ?_⟩
  · obtain ⟨j, hj, _, rfl⟩ := h.sound c hc
    exact ⟨by omega, ini_sh hn hj⟩
  · rw [List.nil_append] at hc
    obtain ⟨j, hj, hf, rfl⟩ := h.sound c hc
    obtain rfl := (ini_cov hn hj hs).1 hcov
    exact hf
  · exact ⟨iniC n s, by rw [List.nil_append]; exact h.full s hs hf, (ini_cov hn hs hs).2 rfl⟩
/-- in the round r: the keys L of the level are still to come -/
structure MidI (n : Nat) (f : Nat → Bool) (r : Nat) (lev : List Cb) (p0 : Nat) (L : List Value) (P next : List Cb) : Prop where
  nxt : ∀ c ∈ next, r + 1 ≤ n ∧ ShC n (n - (r + 1)) c
  sP : SndC (2 ^ n) f P
  sN : SndC (2 ^ n) f next
  full : ∀ s, s < 2 ^ n → f s = true → (∃ c ∈ P, covB c (BitVec.ofNat 32 s) = true) ∨ (∃ c ∈ lev, cbV c ∈ L ∧ covB c (BitVec.ofNat 32 s) = true) ∨ ∃ c ∈ next, covB c (BitVec.ofNat 32 s) = true
  few : P.length + remC L lev ≤ p0 + lev.length
theorem SndC.left {N : Nat} {f : Nat → Bool} {a b : List Cb} (h : SndC N f (a ++ b)) : SndC N f a := fun c hc => h c (List.mem_append_left _ hc)
theorem SndC.right {N : Nat} {f : Nat → Bool} {a b : List Cb} (h : SndC N f (a ++ b)) : SndC N f b := fun c hc => h c (List.mem_append_right _ hc)
theorem RndI.mid {n : Nat} {f : Nat → Bool} {r : Nat} {lev P : List Cb} (h : RndI n f r lev P) : MidI n f r lev P.length (lev.map cbV) P [] := by
  refine ⟨by simp, h.sound.left, SndC.nil _ _, fun s hs hf => ?_, by rw [remC_all]; omega⟩
  obtain ⟨c, hc, hcov⟩ := h.full s hs hf
  rcases List.mem_append.1 hc with hc | hc
  · exact .inl ⟨c, hc, hcov⟩
  · exact .inr (.inl ⟨c, hc, mem_cbV.2 hc, hcov⟩)
/-- one cube of the round, the variables below i looked at -/
structure InI (n : Nat) (f : Nat → Bool) (r : Nat) (c : Cb) (next0 : List Cb) (pr : Bool) (next : List Cb) : Prop where
  nxt : ∀ c ∈ next, r + 1 ≤ n ∧ ShC n (n - (r + 1)) c
  sN : SndC (2 ^ n) f next
  more : ∀ x ∈ next0, x ∈ next
  cover : pr = false → ∃ y ∈ next, ∀ s, covB c s = true → covB y s = true
theorem MidI.in_ {n : Nat} {f : Nat → Bool} {r p0 : Nat} {lev P next : List Cb} {L : List Value} (h : MidI n f r lev p0 L P next) (c : Cb) : InI n f r c next true next :=
  ⟨h.nxt, h.sN, fun _ hx => hx, fun e => by cases e⟩
theorem InI.put {n : Nat} {f : Nat → Bool} {r : Nat} {lev : List Cb} {c : Cb} {next0 next next' : List Cb} {pr : Bool} (h : InI n f r c next0 pr next) {P : List Cb} (hr : RndI n f r lev P) (hn : n ≤ 4) (hc : c ∈ lev) {v : Nat} (hv : v < n) (hf : fixB c v = true) (hnb : nbC c v ∈ lev) (hm : ∀ x, x ∈ next' ↔ x ∈ next ∨ x = mgC c v) : InI n f r c next0 false next' := by
  obtain ⟨hrn, hsh⟩ := hr.shape c hc
  obtain ⟨h1, h2⟩ := hsh.mg hv hf
  refine ⟨fun x hx => ?_, fun x hx => ?_, fun x hx => (hm x).2 (.inl (h.more x hx)), fun _ => ⟨mgC c v, (hm _).2 (.inr rfl), fun s hs => cov_mg v hs⟩⟩
  · rcases (hm x).1 hx with hx | rfl
    · exact h.nxt x hx
    · refine ⟨by omega, ?_⟩
      rw [show n - (r + 1) = n - r - 1 by omega]
      exact h2
  · rcases (hm x).1 hx with hx | rfl
    · exact h.sN x hx
    · exact hr.sound.right.mg (by omega) hsh hc hf hnb _ (by simp)
/-- the cube is through -/
theorem MidI.done {n : Nat} {f : Nat → Bool} {r p0 : Nat} {lev P next next' : List Cb} {L L' : List Value} {c : Cb} {pr : Bool} (h : MidI n f r lev p0 L P next) (hs : SndC (2 ^ n) f lev) (hc : c ∈ lev) (hcL : cbV c ∈ L) (hL : ∀ y, y ∈ L' ↔ y ∈ L ∧ y ≠ cbV c) (hi : InI n f r c next pr next') :
    MidI n f r lev p0 L' (if pr = true then P ++ [c] else P) next' := by
  have hmem : ∀ x ∈ P, x ∈ (if pr = true then P ++ [c] else P) := fun x hx => by
    split
    · exact List.mem_append_left _ hx
    · exact hx
  refine ⟨hi.nxt, ?_, hi.sN, fun s hs hf => ?_, ?_⟩
  · split
    · exact h.sP.app (hs.one hc)
    · exact h.sP
  · rcases h.full s hs hf with ⟨x, hx, hcov⟩ | ⟨x, hx, hxL, hcov⟩ | ⟨x, hx, hcov⟩
    · exact .inl ⟨x, hmem x hx, hcov⟩
    · by_cases e : x = c
      · subst e
        cases hpr : pr
        · obtain ⟨y, hy, hyc⟩ := hi.cover hpr
          exact .inr (.inr ⟨y, hy, hyc _ hcov⟩)
        · exact .inl ⟨x, by simp, hcov⟩
      · exact .inr (.inl ⟨x, hx, (hL _).2 ⟨hxL, fun e2 => e (cbV_inj e2)⟩, hcov⟩)
    · exact .inr (.inr ⟨x, hi.more x hx, hcov⟩)
  · have h1 := remC_less hL hc hcL
    have h2 := h.few
    split
    · rw [List.length_append, List.length_singleton]
      omega
    · omega
/-- the round is through -/
theorem MidI.rnd {n : Nat} {f : Nat → Bool} {r p0 : Nat} {lev P next : List Cb} {L : List Value} (h : MidI n f r lev p0 L P next) (hL : ∀ x, x ∉ L) (hl : lev.length ≤ 256) (hp : p0 ≤ 256 * r) (hr : r ≤ n) : RndI n f (r + 1) next P := by
  refine ⟨h.nxt, by have := h.few; omega, by omega, h.sP.app h.sN, fun s hs hf => ?_⟩
  rcases h.full s hs hf with ⟨x, hx, hcov⟩ | ⟨x, hx, hxL, _⟩ | ⟨x, hx, hcov⟩
  · exact ⟨x, List.mem_append_left _ hx, hcov⟩
  · exact absurd hxL (hL _)
  · exact ⟨x, List.mem_append_right _ hx, hcov⟩
theorem RndI.pos {n : Nat} {f : Nat → Bool} {r : Nat} {lev P : List Cb} (h : RndI n f r lev P) (hl : 0 < lev.length) : r ≤ n := by
  cases lev with
  | nil => simp at hl
  | cons a l => exact (h.shape a (by simp)).1
end Go.Proofs.Ytjliabifaohfjaa
