/- The walks of package follow, and of what the statements ask of rules: what each function computes. -/
import Derived.Test.YtmdlfngdmlhpmaaChecked
import Derived.Test.YtmdlfngdmlhpmaaSl
import Derived.WalkLawsBesides
import Derived.Deep.QuietTactic
import Derived.BigQuiet
namespace Go.Proofs.Ytmdlfngdmlhpmaa
open Go Go.RowKit

/-! ### plain functions -/
def orRules (rs : List Ru) : BitVec 32 := rs.foldl (fun a r => a ||| (r.1 ||| r.2)) 0#32
def orWords (a : BitVec 32) (ms : List (BitVec 32)) : BitVec 32 := ms.foldl (· ||| ·) a
def checkF (n : Int) (rs : List Ru) (ms : List (BitVec 32)) : Int := if n < 1 ∨ 6 < n ∨ 10 < rs.length then 1 else if fitB n.toNat (orWords (orRules rs) ms) then 0 else 4
def stepF (s : BitVec 32) (r : Ru) : BitVec 32 := if subB r.1 s then s ||| r.2 else s
def passF (rs : List Ru) (s : BitVec 32) : BitVec 32 := rs.foldl stepF s
/-- is a set closed? -/
def isClosed (rs : List Ru) (s : BitVec 32) : Bool := rs.all fun r => !subB r.1 s || subB r.2 s
/-- the result of closing a set: by as many passes as there may be -/
def iterF (rs : List Ru) : Nat → BitVec 32 → BitVec 32
  | 0, s => s
  | k + 1, s => iterF rs k (passF rs s)
def closeF (rs : List Ru) (s : BitVec 32) : BitVec 32 := iterF rs 4294967296 s

theorem stepF_sub (s : BitVec 32) (r : Ru) : subB s (stepF s r) = true := by
  unfold stepF
  split
  · exact subB_or_left _ _
  · exact subB_refl _
theorem passF_sub (rs : List Ru) : ∀ s, subB s (passF rs s) = true := by
  induction rs with
  | nil => intro s; exact subB_refl _
  | cons r l ih => intro s; exact subB_trans (stepF_sub s r) (ih _)
theorem or_of_sub {s t : BitVec 32} (h : subB t s = true) : s ||| t = s :=
  subB_antisymm (by rw [subB_or, subB_refl, h]; rfl) (subB_or_left _ _)
theorem passF_fix (rs : List Ru) (s : BitVec 32) : passF rs s = s ↔ isClosed rs s = true := by
  induction rs generalizing s with
  | nil => simp [passF, isClosed]
  | cons r l ih =>
    have e : passF (r :: l) s = passF l (stepF s r) := rfl
    have ec : isClosed (r :: l) s = ((!subB r.1 s || subB r.2 s) && isClosed l s) := rfl
    have hstep : stepF s r = s ↔ (!subB r.1 s || subB r.2 s) = true := by
      unfold stepF
      cases h : subB r.1 s
      · simp
      · simp only [if_true, Bool.not_true, Bool.false_or]
        constructor
        · intro h2
          rw [← h2]
          exact subB_or_right _ _
        · intro h2
          exact or_of_sub h2
    rw [e, ec, Bool.and_eq_true]
    constructor
    · intro h
      have h1 : stepF s r = s := subB_antisymm (by have := passF_sub l (stepF s r); rw [h] at this; exact this) (stepF_sub s r)
      rw [h1] at h
      exact ⟨hstep.1 h1, (ih s).1 h⟩
    · rintro ⟨h1, h2⟩
      rw [hstep.2 h1]
      exact (ih s).2 h2
theorem passF_least (rs : List Ru) (s t : BitVec 32) (h : subB s t = true) (hc : isClosed rs t = true) : subB (passF rs s) t = true := by
  induction rs generalizing s with
  | nil => exact h
  | cons r l ih =>
    have ec : isClosed (r :: l) t = ((!subB r.1 t || subB r.2 t) && isClosed l t) := rfl
    rw [ec, Bool.and_eq_true] at hc
    refine ih (stepF s r) ?_ hc.2
    unfold stepF
    split
    · rename_i h1
      have h2 : subB r.1 t = true := subB_trans h1 h
      rw [h2] at hc
      rw [subB_or, h]
      simpa using hc.1
    · exact h
theorem iterF_spec (rs : List Ru) (k : Nat) : ∀ s : BitVec 32, 4294967296 ≤ s.toNat + k → subB s (iterF rs k s) = true ∧ isClosed rs (iterF rs k s) = true ∧ ∀ t, subB s t = true → isClosed rs t = true → subB (iterF rs k s) t = true := by
  induction k with
  | zero => intro s h; have := s.isLt; omega
  | succ k ih =>
    intro s h
    by_cases hf : passF rs s = s
    · have e : ∀ j, iterF rs j s = s := by
        intro j
        induction j with
        | zero => rfl
        | succ j ihj => show iterF rs j (passF rs s) = s; rw [hf]; exact ihj
      rw [e]
      exact ⟨subB_refl _, (passF_fix rs s).1 hf, fun t ht _ => ht⟩
    · have hlt := subB_lt (passF_sub rs s) (fun e => hf e.symm)
      obtain ⟨h1, h2, h3⟩ := ih (passF rs s) (by omega)
      exact ⟨subB_trans (passF_sub rs s) h1, h2, fun t ht hc => h3 t (passF_least rs s t ht hc) hc⟩
theorem closeF_spec (rs : List Ru) (s : BitVec 32) : subB s (closeF rs s) = true ∧ isClosed rs (closeF rs s) = true ∧ ∀ t, subB s t = true → isClosed rs t = true → subB (closeF rs s) t = true :=
  iterF_spec rs _ s (by omega)
theorem closeF_eq {rs : List Ru} {s c : BitVec 32} (h1 : subB s c = true) (h2 : isClosed rs c = true) (h3 : ∀ t, subB s t = true → isClosed rs t = true → subB c t = true) : closeF rs s = c := by
  obtain ⟨a, b, d⟩ := closeF_spec rs s
  exact subB_antisymm (d c h1 h2) (h3 _ a b)

theorem fitB_orRules (n : Nat) : ∀ (rs : List Ru) (a : BitVec 32), fitB n (rs.foldl (fun a r => a ||| (r.1 ||| r.2)) a) = (fitB n a && rs.all fun r => fitB n r.1 && fitB n r.2) := by
  intro rs
  induction rs with
  | nil => intro a; simp
  | cons r l ih => intro a; rw [List.foldl_cons, ih, fitB_or, fitB_or, List.all_cons, Bool.and_assoc]
theorem fitB_orWords (n : Nat) : ∀ (ms : List (BitVec 32)) (a : BitVec 32), fitB n (orWords a ms) = (fitB n a && ms.all (fitB n)) := by
  unfold orWords
  intro rs
  induction rs with
  | nil => intro a; simp
  | cons r l ih => intro a; rw [List.foldl_cons, ih, fitB_or, List.all_cons, Bool.and_assoc]
/-- do all rules fit? -/
def fitRules (n : Nat) (rs : List Ru) : Bool := rs.all fun r => fitB n r.1 && fitB n r.2
theorem checkF_eq (n : Int) (rs : List Ru) (ms : List (BitVec 32)) : checkF n rs ms = if n < 1 ∨ 6 < n ∨ 10 < rs.length then 1 else if fitRules n.toNat rs && ms.all (fitB n.toNat) then 0 else 4 := by
  unfold checkF orRules fitRules
  rw [fitB_orWords, fitB_orRules, fitB_zero, Bool.true_and]
theorem checkF_zero {n : Int} {rs : List Ru} {ms : List (BitVec 32)} (h : checkF n rs ms = 0) : 1 ≤ n ∧ n ≤ 6 ∧ rs.length ≤ 10 ∧ fitRules n.toNat rs = true ∧ ms.all (fitB n.toNat) = true := by
  rw [checkF_eq] at h
  by_cases hc : n < 1 ∨ 6 < n ∨ 10 < rs.length
  · rw [if_pos hc] at h; omega
  · rw [if_neg hc] at h
    cases hb : fitRules n.toNat rs && ms.all (fitB n.toNat)
    · rw [hb] at h; simp at h
    · rw [Bool.and_eq_true] at hb
      exact ⟨by omega, by omega, by omega, hb⟩
theorem checkF_ok {n : Int} {rs : List Ru} {ms : List (BitVec 32)} (h1 : 1 ≤ n) (h2 : n ≤ 6) (h3 : rs.length ≤ 10) (h4 : fitRules n.toNat rs = true) (h5 : ms.all (fitB n.toNat) = true) : checkF n rs ms = 0 := by
  rw [checkF_eq, if_neg (by omega), h4, h5]
  rfl
/-- a set of things that fit, closed by rules that fit, fits -/
theorem fit_closeF {n : Nat} {rs : List Ru} {s : BitVec 32} (hn : n < 32) (h1 : fitRules n rs = true) (h2 : fitB n s = true) : fitB n (closeF rs s) = true := by
  have hfull : ∀ i, (1#32 <<< n - 1#32).getLsbD i = decide (i < n) := fun i => full_bit n i hn
  refine fitB_sub (b := 1#32 <<< n - 1#32) ((closeF_spec rs s).2.2 _ ?_ ?_) ?_
  · refine subB_iff.2 fun i hi => ?_
    rw [hfull, decide_eq_true_eq]
    exact fitB_iff.1 h2 i hi
  · unfold isClosed
    unfold fitRules at h1
    rw [List.all_eq_true] at h1 ⊢
    intro r hr
    have h3 := h1 r hr
    rw [Bool.and_eq_true] at h3
    have : subB r.2 (1#32 <<< n - 1#32) = true := by
      refine subB_iff.2 fun i hi => ?_
      rw [hfull, decide_eq_true_eq]
      exact fitB_iff.1 h3.2 i hi
    rw [this, Bool.or_true]
  · refine fitB_iff.2 fun i hi => ?_
    rw [hfull, decide_eq_true_eq] at hi
    exact hi
theorem closeF_mono (rs : List Ru) {s t : BitVec 32} (h : subB s t = true) : subB (closeF rs s) (closeF rs t) = true := by
  obtain ⟨h1, h2, _⟩ := closeF_spec rs t
  exact (closeF_spec rs s).2.2 _ (subB_trans h h1) h2
theorem closeF_twice (rs : List Ru) (s : BitVec 32) : closeF rs (closeF rs s) = closeF rs s :=
  closeF_eq (subB_refl _) (closeF_spec rs s).2.1 fun _ h _ => h
theorem closeF_of_closed {rs : List Ru} {s : BitVec 32} (h : isClosed rs s = true) : closeF rs s = s := closeF_eq (subB_refl _) h fun _ h _ => h

/-! ### walks -/
theorem in_any (x y : BitVec 32) (w : World) : Calls Try.prog 14 #[.int .u32 (W x), .int .u32 (W y)] w fun e w' => e = .returned (.bool (subB x y)) ∧ w = w' := by
  go_enter Try.func14, Try.ntmps14
  go_wp2
  go_ret
  exact ⟨rfl, rfl⟩

theorem fits_any (n : Nat) (hn : n < 32) (x : BitVec 32) (w : World) : Calls Try.prog 38 #[.int .i64 n, .int .u32 (W x)] w fun e w' => e = .returned (.bool (fitB n x)) ∧ w = w' := by
  have h1 : decide (32 ≤ (n : Int)) = false := by simp; omega
  rw [fitB_lt hn]
  go_enter Try.func38, Try.ntmps38
  go_wp2
  go_ret
  exact ⟨rfl, rfl⟩

set_option maxHeartbeats 400000 in
theorem check_any (n : Int) (A : Option Addr) (len c : Nat) (rs : List Ru) (A2 : Option Addr) (m c2 : Nat) (ms : List (BitVec 32)) (w : World) (hr : SlR w A len rs) (hm : SlW w A2 m ms) (hm64 : m ≤ 1000) :
    Calls Try.prog 32 #[.int .i64 n, .slice A len c, .slice A2 m c2] w fun e w' => e = .returned (.int .i64 (checkF n rs ms)) ∧ Kept w w' := by
  by_cases hbad : n < 1 ∨ 6 < n ∨ 10 < len
  · have hf : checkF n rs ms = 1 := by unfold checkF; rw [hr.2, if_pos hbad]
    have HF := Lib.hid hf
    clear hf hr hm
    by_cases a : n < 1
    · have : decide (n < 1) = true := by simpa using a
      clear hbad
      go_enter Try.func32, Try.ntmps32
      go_wp2
      go_ret
      exact ⟨by rw [HF.out]; rfl, Kept.refl _⟩
    · have d1 : decide (n < 1) = false := by simpa using a
      by_cases a2 : 6 < n
      · have d2 : decide (6 < n) = true := by simpa using a2
        clear hbad
        go_enter Try.func32, Try.ntmps32
        go_wp2
        go_ret
        exact ⟨by rw [HF.out]; rfl, Kept.refl _⟩
      · have d2 : decide (6 < n) = false := by simpa using a2
        have d3 : decide (10 < (len : Int)) = true := by simp; omega
        clear hbad
        go_enter Try.func32, Try.ntmps32
        go_wp2
        go_ret
        exact ⟨by rw [HF.out]; rfl, Kept.refl _⟩
  · have h1 : 1 ≤ n := by omega
    have h6 : n ≤ 6 := by omega
    have hlen : len ≤ 10 := by omega
    obtain ⟨nn, rfl⟩ := Int.eq_ofNat_of_zero_le (show 0 ≤ n by omega)
    have hf : checkF nn rs ms = if fitB nn (orWords (orRules rs) ms) then 0 else 4 := by unfold checkF; rw [hr.2, if_neg hbad, Int.toNat_natCast]
    have HF := Lib.hid hf
    clear hf hbad
    have hd : decide ((nn : Int) < 1) = false := by simp; omega
    have hd2 : decide (6 < (nn : Int)) = false := by simp; omega
    have hd3 : decide (10 < (len : Int)) = false := by simp; omega
    go_enter Try.func32, Try.ntmps32
    go_wp2_with fail
    go_loopw [7, 25] (fun a i wr => ∃ k : Nat, k ≤ len ∧ i = .int .i64 k ∧ a = .int .u32 (W (orRules (rs.take k))) ∧ Kept w wr) (fun _ i _ => len - (intOf i).toNat)
    case atStart => exact ⟨0, Nat.zero_le _, rfl, by simp [orRules, W_zero], Kept.refl _⟩
    case round =>
      obtain ⟨k, hk, rfl, rfl, hkw⟩ := hrel
      by_cases hlt : k < len
      · obtain ⟨b, off, hkr, rfl, hb, c1, c2⟩ := (hr.kept hkw).get k hlt
        have hs := Lib.hid (show orRules (rs.take (k + 1)) = orRules (rs.take k) ||| (rs[k].1 ||| rs[k].2) from foldl_snoc _ _ _ _ hkr)
        go_wp2_with fail
        go_roundw
        case rel => exact ⟨k + 1, by omega, by go_num, by rw [hs.out], (hkw.alloc _)⟩
        case measure => simp [intOf]; omega
      · have HK := Lib.hid (take_all rs k (by rw [hr.2]; omega))
        go_wp2_with fail
        go_loopw [7, 39] (fun a i wr' => ∃ j : Nat, j ≤ m ∧ i = .int .i64 j ∧ a = .int .u32 (W (orWords (orRules (rs.take k)) (ms.take j))) ∧ Kept wr wr') (fun _ i _ => m - (intOf i).toNat)
        case atStart => exact ⟨0, Nat.zero_le _, rfl, by simp [orWords], Kept.refl _⟩
        case round =>
          obtain ⟨j, hj, rfl, rfl, hkw2⟩ := hrel
          by_cases hlt2 : j < m
          · obtain ⟨b, off, hkr, rfl, hb, c1⟩ := (hm.kept (hkw.trans hkw2)).get j hlt2
            have hs := Lib.hid (show orWords (orRules (rs.take k)) (ms.take (j + 1)) = orWords (orRules (rs.take k)) (ms.take j) ||| ms[j] from foldl_snoc _ _ _ _ hkr)
            go_wp2_with fail
            go_roundw
            case rel => exact ⟨j + 1, by omega, by go_num, by rw [hs.out], hkw2⟩
            case measure => simp [intOf]; omega
          · have HJ := Lib.hid (take_all ms j (by rw [hm.2]; omega))
            cases hb : fitB nn (orWords (orRules (rs.take k)) (ms.take j))
            all_goals
              have HB := Lib.hid hb
              go_wp2_with fail
              go_ret
              exact ⟨by rw [HF.out, ← HJ.out, ← HK.out, HB.out]; rfl, hkw.trans hkw2⟩
end Go.Proofs.Ytmdlfngdmlhpmaa
