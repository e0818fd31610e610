/- The walks of package fix: what is wrong, and the functions that are handed out. -/
import Derived.Test.YtmdlfngdmlhpmaaFix2
namespace Go.Proofs.Ytmdlfngdmlhpmaa
open Go Go.RowKit
set_option linter.unusedVariables false

theorem wrong1_any (x : BitVec 32) (n : Nat) (hn : n < 32) (p : Addr) (w : World) (hp : w.cell? p = some (.int .i64 n)) :
    Calls Try.prog 50 #[.int .u32 (W x), .pointer (some p)] w fun e w' => e = .returned (.bool (!fitB n x)) ∧ w = w' := by
  go_enter Try.func50, Try.ntmps50
  go_wp2
  go_ret
  exact ⟨rfl, rfl⟩

/-- the first at which a test says yes, as an integer; -1: none -/
def firstJ {α : Type} (p : α → Bool) (xs : List α) : Int := match xs.findIdx? p with
  | some k => k
  | none => -1
theorem firstJ_ge {α : Type} (p : α → Bool) (xs : List α) : decide (0 ≤ firstJ p xs) = xs.any p := by
  unfold firstJ
  cases h : xs.findIdx? p with
  | none =>
    have := List.findIdx?_eq_none_iff.1 h
    rw [Bool.eq_iff_iff]
    simp
    intro x hx
    simpa using this x hx
  | some k =>
    rw [List.findIdx?_eq_some_iff_getElem] at h
    obtain ⟨hk, h1, _⟩ := h
    have : xs.any p = true := List.any_eq_true.2 ⟨xs[k], List.getElem_mem hk, h1⟩
    rw [this]
    simp
theorem firstJ_hit {α : Type} (p : α → Bool) (xs : List α) (k : Nat) (hk : k < xs.length) (h0 : (xs.take k).any p = false) (h1 : p xs[k] = true) : firstJ p xs = k := by
  unfold firstJ
  have : xs.findIdx? p = some k := by
    rw [List.findIdx?_eq_some_iff_getElem]
    refine ⟨hk, h1, fun j hj => ?_⟩
    rw [List.any_eq_false] at h0
    exact h0 _ (List.mem_take_iff_getElem.2 ⟨j, by omega, rfl⟩)
  rw [this]
theorem firstJ_none {α : Type} (p : α → Bool) (xs : List α) (h0 : xs.any p = false) : firstJ p xs = -1 := by
  unfold firstJ
  have : xs.findIdx? p = none := by
    rw [List.findIdx?_eq_none_iff]
    intro x hx
    rw [List.any_eq_false] at h0
    simpa using h0 x hx
  rw [this]

theorem wrongIndex_any (A : Option Addr) (n c : Nat) (xs : List (BitVec 32)) (m : Nat) (hm : m < 32) (p : Addr) (w : World) (hs : SlW w A n xs) (hn : n ≤ 1000) (hp : w.cell? p = some (.int .i64 m)) :
    Calls Try.prog 49 #[.slice A n c, .func (.func 50) #[] #[.pointer (some p)]] w fun e w' => e = .returned (.int .i64 (firstJ (fun x => !fitB m x) xs)) ∧ w = w' := by
  go_enter Try.func49, Try.ntmps49
  go_wp2_with fail
  go_loop [8] (fun t => ∃ q : Nat, q ≤ n ∧ t = .int .i64 q ∧ (xs.take q).any (fun x => !fitB m x) = false) (fun t => n - (intOf t).toNat)
  case atStart => exact ⟨0, Nat.zero_le _, rfl, rfl⟩
  case round =>
    obtain ⟨q, hq, rfl, hnot⟩ := hrel
    have HN := Lib.hid hnot
    clear hnot
    by_cases hlt : q < n
    · obtain ⟨b, off, hk, rfl, hb, cq⟩ := hs.get q hlt
      have hsn := Lib.hid (any_snoc (fun x => !fitB m x) xs q hk)
      have hhit := Lib.hid (firstJ_hit (fun x => !fitB m x) xs q hk HN.out)
      cases hb1 : fitB m xs[q]
      · have HB := Lib.hid hb1
        go_wp2_with fail
        refine (wrong1_any _ m hm _ _ hp).mono ?_
        rintro e w' ⟨rfl, rfl⟩
        rw [HB.out]
        go_wp2_with fail
        go_ret
        exact ⟨by rw [hhit.out (by rw [HB.out]; rfl)]; rfl, rfl⟩
      · have HB := Lib.hid hb1
        go_wp2_with fail
        refine (wrong1_any _ m hm _ _ hp).mono ?_
        rintro e w' ⟨rfl, rfl⟩
        rw [HB.out]
        go_wp2_with fail
        go_round
        case rel => exact ⟨q + 1, by omega, by go_num, by rw [hsn.out, HN.out, HB.out]; rfl⟩
        case measure => simp [intOf]; omega
    · have HK := Lib.hid (take_all xs q (by rw [hs.2]; omega))
      go_wp2_with fail
      go_ret
      exact ⟨by rw [firstJ_none _ _ (by rw [← HK.out]; exact HN.out)]; rfl, rfl⟩
theorem wrongContains_any (A : Option Addr) (n c : Nat) (xs : List (BitVec 32)) (m : Nat) (hm : m < 32) (p : Addr) (w : World) (hs : SlW w A n xs) (hn : n ≤ 1000) (hp : w.cell? p = some (.int .i64 m)) :
    Calls Try.prog 36 #[.slice A n c, .func (.func 50) #[] #[.pointer (some p)]] w fun e w' => e = .returned (.bool (!xs.all (fitB m))) ∧ w = w' := by
  have H := Lib.hid (firstJ_ge (fun x => !fitB m x) xs)
  have H2 := Lib.hid (show (xs.any fun x => !fitB m x) = !xs.all (fitB m) by rw [List.not_all_eq_any_not])
  go_enter Try.func36, Try.ntmps36
  go_wp2_with fail
  refine (wrongIndex_any _ _ _ xs m hm _ _ hs hn hp).mono ?_
  rintro e w' ⟨rfl, rfl⟩
  go_wp2_with fail
  go_ret
  exact ⟨by rw [← H2.out, ← H.out]; rfl, rfl⟩

set_option maxHeartbeats 400000 in
theorem wrong_any (n : Int) (A : Option Addr) (len c : Nat) (f : List (BitVec 32)) (w : World) (hl : len ≤ maxLen) (hf : SlW w A len f) :
    Calls Try.prog 37 #[.int .i64 n, .slice A len c] w fun e w' => e = .returned (.int .i64 (mapF n f)) ∧ Kept w w' := by
  by_cases hbad : n < 1 ∨ 5 < n
  · have HF := Lib.hid (show mapF n f = 1 by unfold mapF; rw [if_pos hbad])
    clear hf
    rcases guards2 hbad with d1 | ⟨d1, d2⟩
    all_goals
      clear hbad
      go_enter Try.func37, Try.ntmps37
      go_wp2
      go_ret
      exact ⟨by rw [HF.out]; rfl, (Kept.refl _).alloc _⟩
  · have h1 : 1 ≤ n := by omega
    have h6 : n ≤ 5 := by omega
    obtain ⟨nn, rfl⟩ := Int.eq_ofNat_of_zero_le (show 0 ≤ n by omega)
    have hp : (2 : Nat) ^ nn ≤ 32 := Nat.le_trans (Nat.pow_le_pow_right (by omega) (show nn ≤ 5 by omega)) (by omega)
    have hw := i64_pow' nn (by omega)
    have hd : decide ((nn : Int) < 1) = false := by simp; omega
    have hd2 : decide (5 < (nn : Int)) = false := by simp; omega
    have hfe := hf.2
    by_cases hlen : len = 2 ^ nn
    · have HF := Lib.hid (show mapF nn f = if f.all (fitB nn) then 0 else 4 by unfold mapF; rw [if_neg hbad, if_neg (by rw [hfe, Int.toNat_natCast, hlen]; simp), Int.toNat_natCast])
      have hne := len_pow_eq hlen
      have HFE := Lib.hid hfe
      have HLE := Lib.hid hlen
      have hl32 : len ≤ 32 := by omega
      clear hlen hfe hbad
      generalize hall : f.all (fitB nn) = bb at HF
      have HA := Lib.hid hall
      clear hall
      go_enter Try.func37, Try.ntmps37
      go_wp2_with fail
      refine (wrongContains_any _ _ _ f nn (by omega) _ _ (hf.kept ((Kept.refl _).alloc _)) (by omega) (by simp)).mono ?_
      rintro e w1 ⟨rfl, rfl⟩
      rw [HA.out]
      cases bb
      all_goals
        go_wp2_with fail
        go_ret
        exact ⟨by rw [HF.out]; rfl, (Kept.refl _).alloc _⟩
    · have HF := Lib.hid (show mapF nn f = 3 by unfold mapF; rw [if_neg hbad, if_pos (by rw [hfe, Int.toNat_natCast]; exact hlen)])
      have hne := len_pow_ne hlen
      clear hlen hfe hbad
      go_enter Try.func37, Try.ntmps37
      go_wp2_with fail
      go_ret
      exact ⟨by rw [HF.out]; rfl, (Kept.refl _).alloc _⟩
end Go.Proofs.Ytmdlfngdmlhpmaa
