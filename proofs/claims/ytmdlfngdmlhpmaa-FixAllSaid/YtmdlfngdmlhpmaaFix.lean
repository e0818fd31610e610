/- The walks of package fix, and of what the statements ask of maps. -/
import Derived.Test.YtmdlfngdmlhpmaaFixP
import Derived.Test.YtmdlfngdmlhpmaaSeat
import Derived.Test.YtmdlfngdmlhpmaaQuiet
import Derived.WalkLawsBesides
import Derived.Deep.QuietTactic
import Derived.BigQuiet
namespace Go.Proofs.Ytmdlfngdmlhpmaa
open Go Go.RowKit
set_option linter.unusedVariables false

theorem fixIn_any (x y : BitVec 32) (w : World) : Calls Try.prog 14 #[.int .u32 (W x), .int .u32 (W y)] w fun e w' => e = .returned (.bool (subB x y)) ∧ w = w' := by
  go_enter Try.func14, Try.ntmps14
  go_wp2
  go_ret
  exact ⟨rfl, rfl⟩
theorem fixFits_any (n : Nat) (hn : n < 32) (x : BitVec 32) (w : World) : Calls Try.prog 38 #[.int .i64 n, .int .u32 (W x)] w fun e w' => e = .returned (.bool (fitB n x)) ∧ w = w' := by
  have h1 : decide (32 ≤ (n : Int)) = false := by simp; omega
  rw [fitB_lt hn]
  go_enter Try.func38, Try.ntmps38
  go_wp2
  go_ret
  exact ⟨rfl, rfl⟩

theorem guards2 {n : Int} (hbad : n < 1 ∨ 5 < n) : decide (n < 1) = true ∨ (decide (n < 1) = false ∧ decide (5 < n) = true) := by
  simp
  omega

set_option maxHeartbeats 400000 in
theorem mapCheck_any (n : Int) (A : Option Addr) (len c : Nat) (f : List (BitVec 32)) (w : World) (hl : len ≤ maxLen) (hf : SlW w A len f) :
    Calls Try.prog 20 #[.int .i64 n, .slice A len c] w fun e w' => e = .returned (.int .i64 (mapF n f)) ∧ w = w' := by
  by_cases hbad : n < 1 ∨ 5 < n
  · have HF := Lib.hid (show mapF n f = 1 by unfold mapF; rw [if_pos hbad])
    clear hf
    rcases guards2 hbad with d1 | ⟨d1, d2⟩
    all_goals
      clear hbad
      go_enter Try.func20, Try.ntmps20
      go_wp2
      go_ret
      exact ⟨by rw [HF.out]; rfl, rfl⟩
  · have h1 : 1 ≤ n := by omega
    have h6 : n ≤ 5 := by omega
    obtain ⟨nn, rfl⟩ := Int.eq_ofNat_of_zero_le (show 0 ≤ n by omega)
    have hp : (2 : Nat) ^ nn ≤ 32 := Nat.le_trans (Nat.pow_le_pow_right (by omega) (show nn ≤ 5 by omega)) (by omega)
    have hw := i64_pow' nn (by omega)
    have hd : decide ((nn : Int) < 1) = false := by simp; omega
    have hd2 : decide (5 < (nn : Int)) = false := by simp; omega
    have hfe := hf.2
    by_cases hlen : len = 2 ^ nn
    · have HF := Lib.hid (show mapF nn f = if f.all (fitB nn) then 0 else 4 by unfold mapF; rw [if_neg hbad, if_neg (by rw [hfe, Int.toNat_natCast, hlen]; simp), Int.toNat_natCast])
      have hne := len_pow_eq hlen
      have HFE := Lib.hid hfe
      have HLE := Lib.hid hlen
      have hl32 : len ≤ 32 := by omega
      clear hlen hfe hbad
      go_enter Try.func20, Try.ntmps20
      go_wp2_with fail
      go_loop [21] (fun t => ∃ q : Nat, q ≤ len ∧ t = .int .i64 q ∧ (f.take q).all (fitB nn) = true) (fun t => len - (intOf t).toNat)
      case atStart => exact ⟨0, Nat.zero_le _, rfl, rfl⟩
      case round =>
        obtain ⟨q, hq, rfl, hall⟩ := hrel
        have HA := Lib.hid hall
        clear hall
        by_cases hlt : q < len
        · obtain ⟨b, off, hk, rfl, hb, cq⟩ := hf.get q hlt
          have hs := Lib.hid (all_snoc (fitB nn) f q hk)
          have hno := Lib.hid (show fitB nn f[q] = false → f.all (fitB nn) = false from fun h => by
            rw [List.all_eq_false]
            exact ⟨f[q], List.getElem_mem hk, by rw [h]; simp⟩)
          cases hb1 : fitB nn f[q]
          · have HB := Lib.hid hb1
            go_wp2_with (go_at_call 38; refine (fixFits_any _ (by omega) _ _).mono ?_; rintro e w' ⟨rfl, rfl⟩)
            go_ret
            exact ⟨by rw [HF.out, hno.out HB.out]; rfl, rfl⟩
          · have HB := Lib.hid hb1
            go_wp2_with (go_at_call 38; refine (fixFits_any _ (by omega) _ _).mono ?_; rintro e w' ⟨rfl, rfl⟩)
            go_round
            case rel => exact ⟨q + 1, by omega, by go_num, by rw [hs.out, HA.out, HB.out]; rfl⟩
            case measure => simp [intOf]; omega
        · have HK := Lib.hid (take_all f q (by rw [HFE.out]; omega))
          go_wp2_with fail
          go_ret
          exact ⟨by rw [HF.out, ← HK.out, HA.out]; rfl, rfl⟩
    · have HF := Lib.hid (show mapF nn f = 3 by unfold mapF; rw [if_neg hbad, if_pos (by rw [hfe, Int.toNat_natCast]; exact hlen)])
      have hne := len_pow_ne hlen
      clear hlen hfe hbad
      go_enter Try.func20, Try.ntmps20
      go_wp2_with fail
      go_ret
      exact ⟨by rw [HF.out]; rfl, rfl⟩
end Go.Proofs.Ytmdlfngdmlhpmaa
