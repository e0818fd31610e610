/- FixAll: the walk of the statement. -/
import Derived.Test.YtmdlfngdmlhpmaaFix4
namespace Go.Proofs.Ytmdlfngdmlhpmaa.fixAllDone
open Go Go.RowKit
set_option linter.unusedVariables false

/-- on the way up from a set -/
def Up (n : Nat) (f : List (BitVec 32)) (base t : BitVec 32) : Prop :=
  fitB n t = true ∧ subB t (go1 f t) = true ∧ subB base t = true ∧ ∀ u, fitB n u = true → subB base u = true → subB (go1 f u) u = true → subB t u = true
theorem Up.step {n : Nat} {f : List (BitVec 32)} {base t : BitVec 32} (hm : MapOk n f) (h : Up n f base t) : Up n f base (go1 f t) :=
  ⟨hm.fit h.1, hm.2.2.2 _ _ h.1 (hm.fit h.1) h.2.1, subB_trans h.2.2.1 h.2.1, fun u hu hb hp => subB_trans (hm.2.2.2 _ _ h.1 hu (h.2.2.2 u hu hb hp)) hp⟩
theorem Up.stop {n : Nat} {f : List (BitVec 32)} {base : BitVec 32} (hm : MapOk n f) : ∀ (k : Nat) (t : BitVec 32), 4294967296 - t.toNat ≤ k → Up n f base t → ∃ a, Up n f base a ∧ go1 f a = a := by
  intro k
  induction k with
  | zero => intro t hk _; have := t.isLt; omega
  | succ k ih =>
    intro t hk h
    by_cases he : go1 f t = t
    · exact ⟨t, h, he⟩
    · have := subB_lt h.2.1 (fun e => he e.symm)
      exact ih _ (by omega) (h.step hm)
theorem mem_fixedTo {f : List (BitVec 32)} {x : BitVec 32} : ∀ {k : Nat}, x ∈ fixedTo f k ↔ wn x < k ∧ nth f (wn x) = x := by
  intro k
  induction k with
  | zero => simp [fixedTo]
  | succ k ih =>
    unfold fixedTo
    rw [List.mem_append, ih]
    constructor
    · rintro (⟨h1, h2⟩ | h)
      · exact ⟨by omega, h2⟩
      · by_cases hb : ((nth f k).toNat == k) = true
        · rw [if_pos hb] at h
          simp only [List.mem_singleton] at h
          have e : (nth f k).toNat = k := by simpa using hb
          have e2 : wn x = k := by rw [h]; exact e
          exact ⟨by omega, by rw [e2]; exact h.symm⟩
        · rw [if_neg hb] at h
          simp at h
    · rintro ⟨h1, h2⟩
      by_cases e : wn x = k
      · refine .inr ?_
        rw [e] at h2
        have hb : ((nth f k).toNat == k) = true := by rw [h2, beq_iff_eq]; exact e
        rw [if_pos hb, h2]
        simp
      · exact .inl ⟨by omega, h2⟩

def leastF (full both : BitVec 32) (xs : List (BitVec 32)) : BitVec 32 := xs.foldl (fun l c => if subB both c then l &&& c else l) full
theorem leastF_snoc (full both : BitVec 32) (xs : List (BitVec 32)) (k : Nat) (h : k < xs.length) : leastF full both (xs.take (k + 1)) = if subB both xs[k] then leastF full both (xs.take k) &&& xs[k] else leastF full both (xs.take k) := foldl_snoc _ _ _ _ h
theorem leastF_sub (both : BitVec 32) : ∀ (xs : List (BitVec 32)) (full : BitVec 32), subB (leastF full both xs) full = true ∧ ∀ c ∈ xs, subB both c = true → subB (leastF full both xs) c = true := by
  intro xs
  induction xs with
  | nil => intro full; exact ⟨subB_refl _, by simp⟩
  | cons a t ih =>
    intro full
    have hr : ∀ x y : BitVec 32, subB (x &&& y) x = true ∧ subB (x &&& y) y = true := fun x y =>
      ⟨subB_iff.2 fun i hi => by rw [BitVec.getLsbD_and, Bool.and_eq_true] at hi; exact hi.1, subB_iff.2 fun i hi => by rw [BitVec.getLsbD_and, Bool.and_eq_true] at hi; exact hi.2⟩
    have e : leastF full both (a :: t) = leastF (if subB both a then full &&& a else full) both t := rfl
    rw [e]
    obtain ⟨h1, h2⟩ := ih (if subB both a then full &&& a else full)
    refine ⟨?_, fun c hc hb => ?_⟩
    · refine subB_trans h1 ?_
      split
      · exact (hr _ _).1
      · exact subB_refl _
    · rw [List.mem_cons] at hc
      rcases hc with rfl | hc
      · refine subB_trans h1 ?_
        rw [if_pos hb]
        exact (hr _ _).2
      · exact h2 c hc hb
theorem leastF_great (both m : BitVec 32) : ∀ (xs : List (BitVec 32)) (full : BitVec 32), subB m full = true → (∀ c ∈ xs, subB both c = true → subB m c = true) → subB m (leastF full both xs) = true := by
  intro xs
  induction xs with
  | nil => intro full h _; exact h
  | cons a t ih =>
    intro full h hc
    have e : leastF full both (a :: t) = leastF (if subB both a then full &&& a else full) both t := rfl
    rw [e]
    refine ih _ ?_ fun c hct => hc c (by simp [hct])
    split
    · rename_i hb
      rw [subB_and, h, hc a (by simp) hb]
      rfl
    · exact h

/-- what the walk is told of the list -/
def Good (n : Nat) (xs : List (BitVec 32)) : Prop := 0 < xs.length ∧ ∀ x ∈ xs, ∀ y ∈ xs, leastF (1#32 <<< n - 1#32) (x ||| y) xs ∈ xs ∧ subB (x ||| y) (leastF (1#32 <<< n - 1#32) (x ||| y) xs) = true
theorem good {n : Nat} {f : List (BitVec 32)} (hm : MapOk n f) : Good n (fixedTo f f.length) := by
  have hmem : ∀ x, x ∈ fixedTo f f.length ↔ fitB n x = true ∧ go1 f x = x := fun x => by
    rw [mem_fixedTo, hm.2.1, fit_toNat hm.1]
    rfl
  refine ⟨?_, fun x hx y hy => ?_⟩
  · obtain ⟨a, h1, h2⟩ := Up.stop (base := 0#32) hm 4294967296 0#32 (by omega) ⟨fitB_zero n, subB_zero _, subB_refl _, fun _ _ _ _ => subB_zero _⟩
    exact List.length_pos_of_mem ((hmem a).2 ⟨h1.1, h2⟩)
  · obtain ⟨fx, ex⟩ := (hmem x).1 hx
    obtain ⟨fy, ey⟩ := (hmem y).1 hy
    have fxy : fitB n (x ||| y) = true := by rw [fitB_or, fx, fy]; rfl
    have hup : Up n f (x ||| y) (x ||| y) := by
      refine ⟨fxy, ?_, subB_refl _, fun _ _ hb _ => hb⟩
      have h1 := hm.2.2.2 _ _ fx fxy (subB_or_left x y)
      have h2 := hm.2.2.2 _ _ fy fxy (subB_or_right x y)
      rw [ex] at h1
      rw [ey] at h2
      rw [subB_or, h1, h2]
      rfl
    obtain ⟨m, h1, h2⟩ := Up.stop hm 4294967296 _ (by omega) hup
    have hmm : m ∈ fixedTo f f.length := (hmem m).2 ⟨h1.1, h2⟩
    have e : leastF (1#32 <<< n - 1#32) (x ||| y) (fixedTo f f.length) = m := by
      refine subB_antisymm ((leastF_sub _ _ _).2 m hmm h1.2.2.1) (leastF_great _ _ _ _ (sub_full hm.1 h1.1) fun c hc hb => ?_)
      obtain ⟨fc, ec⟩ := (hmem c).1 hc
      exact h1.2.2.2 c fc hb (by rw [ec]; exact subB_refl c)
    rw [e]
    exact ⟨hmm, h1.2.2.1⟩
def NotYet (xs : List (BitVec 32)) (s : BitVec 32) (k : Nat) : Prop := ∀ m, m < k → xs[m]? ≠ some s
theorem NotYet.step {xs : List (BitVec 32)} {s : BitVec 32} {k : Nat} (h : NotYet xs s k) (hk : k < xs.length) (hne : (xs[k] == s) = false) : NotYet xs s (k + 1) := by
  intro m hm
  by_cases e : m = k
  · subst e
    rw [List.getElem?_eq_getElem hk]
    simpa using hne
  · exact h m (by omega)
theorem NotYet.stop {xs : List (BitVec 32)} {s : BitVec 32} {k : Nat} (h : NotYet xs s k) (hk : xs.length ≤ k) (hs : s ∈ xs) : False := by
  obtain ⟨m, hm⟩ := List.mem_iff_getElem?.1 hs
  have : m < xs.length := (List.getElem?_eq_some_iff.1 hm).1
  exact h m (by omega) hm

set_option maxRecDepth 100000 in
set_option maxHeartbeats 1000000 in
theorem yes (n : Nat) (A : Option Addr) (len cp : Nat) (f : List (BitVec 32)) (i j : Nat) (hi : i ≤ 255) (hj : j ≤ 255) (w : World) (hl : len ≤ maxLen) (hf : SlW w A len f) (hc : mapF n f = 0) (hr : risesB f = true) :
    Calls Try.prog 7 #[.int .i64 n, .slice A len cp, .int .u8 i, .int .u8 j] w fun e w' => e = .returned (.bool true) ∧ Kept w w' := by
  obtain ⟨hc1, hc2, hc3, hc4⟩ := mapF_zero hc
  rw [Int.toNat_natCast] at hc3 hc4
  have hm : MapOk n f := mapOk (by omega) hc3 hc4 hr
  have hg := good hm
  have hlen : len = 2 ^ n := hf.2.symm.trans hc3
  have hp : (2 : Nat) ^ n ≤ 32 := Nat.le_trans (Nat.pow_le_pow_right (by omega) (show n ≤ 5 by omega)) (by omega)
  have hl32 : len ≤ 32 := by omega
  have hx32 := fixedTo_length f f.length
  rw [hf.2] at hx32
  have hn5 : n ≤ 5 := by omega
  have HC := Lib.hid hc
  have HR := Lib.hid hr
  clear hc hr hc1 hc2 hc3 hc4 hm hp hlen
  have HFL := Lib.hid hf.2
  rw [hf.2] at hg
  generalize hxs : fixedTo f len = xs at hg hx32
  have HX := Lib.hid hxs
  clear hxs
  obtain ⟨hpos, hgood⟩ := hg
  have HG := Lib.hid hgood
  clear hgood
  go_enter Try.func7, Try.ntmps7
  go_wp2_with fail
  refine (fixAll_ok n _ _ _ f _ hl hf HC.out).mono ?_
  rintro e w1 hret
  rw [HFL.out, HX.out] at hret
  obtain ⟨A1, c1, rfl, hs, _, k1⟩ := hret
  go_wp2_with fail
  refine (mapCheck_any _ _ _ _ f _ hl (hf.kept k1)).mono ?_
  rintro e w3 ⟨rfl, rfl⟩
  rw [HC.out]
  go_wp2_with fail
  refine (refRises_any _ _ _ f _ (by omega) (hf.kept k1)).mono ?_
  rintro e w4 ⟨rfl, k4⟩
  rw [HR.out]
  have k := k1.trans k4
  have hs2 := hs.kept k4
  clear k1 k4 hs
  have hne : ((xs.length : Int) == 0) = false := by simp; intro h; simp [h] at hpos
  have hp1 : (1 : Int) ≤ xs.length := by omega
  obtain ⟨b, off, _, hA1, _, _⟩ := hs2.get 0 hpos
  subst hA1
  have hri : i % xs.length < xs.length := Nat.mod_lt _ hpos
  have hrj : j % xs.length < xs.length := Nat.mod_lt _ hpos
  obtain ⟨b1, o1, hq2, e1, _, ci⟩ := hs2.get (i % xs.length) hri
  obtain ⟨b2, o2, hq3, e2, _, cj⟩ := hs2.get (j % xs.length) hrj
  injection e1 with e1
  injection e1 with e1 e1'
  injection e2 with e2
  injection e2 with e2 e2'
  subst e1 e1' e2 e2'
  have hsm := Lib.hid (HG.out _ (List.getElem_mem hq2) _ (List.getElem_mem hq3))
  generalize hsi : xs[i % xs.length] = si at ci hsm
  generalize hsj : xs[j % xs.length] = sj at cj hsm
  have r1 : (0 : Int) ≤ (i : Int) % (xs.length : Int) := by omega
  have r2 : (i : Int) % (xs.length : Int) < (xs.length : Int) := by omega
  have r3 : (0 : Int) ≤ (j : Int) % (xs.length : Int) := by omega
  have r4 : (j : Int) % (xs.length : Int) < (xs.length : Int) := by omega
  clear hsi hsj
  go_wp2_with fail
  go_quiet (fail)
  clear r1 r2 r3 r4 ci cj
  go_wp2_with fail
  generalize si ||| sj = both at hsm
  have hs3 := hs2.kept (Kept.drewN (Kept.refl w4) nq)
  have k3 := k.drewN nq
  generalize w4.drewN nq = w5 at hs3 k3
  go_loop [12, 64] (fun l t => ∃ q : Nat, q ≤ xs.length ∧ t = .int .i64 q ∧ l = .int .u32 (W (leastF (1#32 <<< n - 1#32) both (xs.take q)))) (fun _ t => xs.length - (intOf t).toNat)
  case atStart => exact ⟨0, Nat.zero_le _, rfl, rfl⟩
  case round =>
    obtain ⟨q, hq, rfl, rfl⟩ := hrel
    by_cases hlt : q < xs.length
    · obtain ⟨b1, o1, hq4, e1, _, cq⟩ := hs3.get q hlt
      injection e1 with e1
      injection e1 with e1 e1'
      subst e1 e1'
      have HS := Lib.hid (leastF_snoc (1#32 <<< n - 1#32) both xs q hq4)
      cases hb1 : subB both xs[q]
      all_goals
        have HB := Lib.hid hb1
        go_wp2_with (go_at_call 14; refine (fixIn_any _ _ _).mono ?_; rintro e w' ⟨rfl, rfl⟩)
        go_round
        case rel => exact ⟨q + 1, by omega, by go_num, by rw [HS.out, HB.out]; rfl⟩
        case measure => simp [intOf]; omega
    · have HK := Lib.hid (take_all xs q (by omega))
      have hsm2 := hsm.out
      rw [← HK.out] at hsm2
      rw [HK.out] at hsm2
      have hsm3 : leastF (1#32 <<< n - 1#32) both (xs.take q) ∈ xs ∧ subB both (leastF (1#32 <<< n - 1#32) both (xs.take q)) = true := by rw [HK.out]; exact hsm2
      obtain ⟨hmem, hbl⟩ := hsm3
      have HMEM := Lib.hid hmem
      clear hsm2 hmem
      go_wp2_with fail
      generalize leastF (1#32 <<< n - 1#32) both (xs.take q) = least at hbl HMEM
      go_loop [77] (fun t => ∃ r : Nat, r ≤ xs.length ∧ t = .int .i64 r ∧ NotYet xs least r) (fun t => xs.length - (intOf t).toNat)
      case atStart => exact ⟨0, Nat.zero_le _, rfl, fun m hm => absurd hm (by omega)⟩
      case round =>
        obtain ⟨r, hr, rfl, hnot⟩ := hrel
        by_cases hlt2 : r < xs.length
        · obtain ⟨b1, o1, hq4, e1, _, cq⟩ := hs3.get r hlt2
          injection e1 with e1
          injection e1 with e1 e1'
          subst e1 e1'
          cases hb1 : xs[r] == least
          · have hstep := Lib.hid (hnot.step hlt2 hb1)
            clear hnot
            go_wp2_with (go_at_call 14; refine (fixIn_any _ _ _).mono ?_; rintro e w' ⟨rfl, rfl⟩)
            go_round
            case rel => exact ⟨r + 1, by omega, by go_num, hstep.out⟩
            case measure => simp [intOf]; omega
          · clear hnot
            go_wp2_with (go_at_call 14; refine (fixIn_any _ _ _).mono ?_; rintro e w' ⟨rfl, rfl⟩)
            go_ret
            exact ⟨rfl, k3⟩
        · exact (hnot.stop (by omega) HMEM.out).elim

set_option maxHeartbeats 1000000 in
theorem fixAll_walk (n : Int) (A : Option Addr) (len cp : Nat) (f : List (BitVec 32)) (i j : Int) (w : World) (_wn : (Lit.int .i64 n).wf = true) (hl : len ≤ maxLen) (hf : SlW w A len f)
    (wi : (Lit.int .u8 i).wf = true) (wj : (Lit.int .u8 j).wf = true) :
    Calls Try.prog 7 #[.int .i64 n, .slice A len cp, .int .u8 i, .int .u8 j] w fun e w' => e = .returned (.bool true) ∧ Kept w w' := by
  have hi : 0 ≤ i ∧ i ≤ 255 := by simp [Lit.wf, IntKind.min, IntKind.max, IntKind.signed, IntKind.bits] at wi; omega
  have hj : 0 ≤ j ∧ j ≤ 255 := by simp [Lit.wf, IntKind.min, IntKind.max, IntKind.signed, IntKind.bits] at wj; omega
  clear wi wj
  obtain ⟨i, rfl⟩ := Int.eq_ofNat_of_zero_le hi.1
  obtain ⟨j, rfl⟩ := Int.eq_ofNat_of_zero_le hj.1
  by_cases hc : mapF n f = 0
  · obtain ⟨n, rfl⟩ := Int.eq_ofNat_of_zero_le (show 0 ≤ n by have := mapF_zero hc; omega)
    cases hr : risesB f
    · obtain ⟨hc1, hc2, hc3, hc4⟩ := mapF_zero hc
      rw [Int.toNat_natCast] at hc3
      have hlen : len = 2 ^ n := hf.2.symm.trans hc3
      have hl32 : len ≤ 32 := by rw [hlen]; exact Nat.le_trans (Nat.pow_le_pow_right (by omega) (show n ≤ 5 by omega)) (by omega)
      have HC := Lib.hid hc
      have HR := Lib.hid hr
      clear hc hr hc1 hc2 hc3 hc4 hlen
      go_enter Try.func7, Try.ntmps7
      go_wp2_with fail
      refine (fixAll_ok n _ _ _ f _ hl hf HC.out).mono ?_
      rintro e w1 ⟨A1, c1, rfl, hs, _, k1⟩
      clear hs
      go_wp2_with fail
      refine (mapCheck_any _ _ _ _ f _ hl (hf.kept k1)).mono ?_
      rintro e w3 ⟨rfl, rfl⟩
      rw [HC.out]
      go_wp2_with fail
      refine (refRises_any _ _ _ f _ (by omega) (hf.kept k1)).mono ?_
      rintro e w4 ⟨rfl, k4⟩
      rw [HR.out]
      go_wp2_with fail
      go_ret
      exact ⟨rfl, k1.trans k4⟩
    · exact yes n A len cp f i j (by omega) (by omega) w hl hf hc hr
  · have hne : (mapF n f != 0) = true := by simpa using hc
    clear hc
    go_enter Try.func7, Try.ntmps7
    go_wp2_with fail
    refine (fixAll_no n _ _ _ f _ hl hf hne).mono ?_
    rintro e w1 ⟨rfl, k1⟩
    go_wp2_with fail
    refine (mapCheck_any _ _ _ _ f _ hl (hf.kept k1)).mono ?_
    rintro e w3 ⟨rfl, rfl⟩
    go_wp2_with fail
    go_ret
    exact ⟨rfl, k1⟩
end Go.Proofs.Ytmdlfngdmlhpmaa.fixAllDone
