/- The walks of package truth: Check, Dual, and what the statements ask of tables. -/
import Derived.Test.YtjliabifaohfjaaSeat
import Derived.Test.YtjliabifaohfjaaQuiet
import Derived.Test.YtjliabifaohfjaaArr
import Derived.WalkLawsBesides
import Derived.WalkSpells
namespace Go.Proofs.Ytjliabifaohfjaa
open Go Go.RowKit
set_option linter.unusedVariables false

def truthF (n : Int) (f : List Bool) : Int := if n < 0 ∨ 4 < n then 1 else if f.length ≠ 2 ^ n.toNat then 3 else 0
theorem truthF_zero {n : Int} {f : List Bool} (h : truthF n f = 0) : 0 ≤ n ∧ n ≤ 4 ∧ f.length = 2 ^ n.toNat := by
  unfold truthF at h
  split at h
  · omega
  · split at h
    · omega
    · rename_i h1 h2
      exact ⟨by omega, by omega, by simpa using h2⟩
theorem truthF_ok {n : Nat} {f : List Bool} (hn : n ≤ 4) (h : f.length = 2 ^ n) : truthF n f = 0 := by
  unfold truthF
  rw [if_neg (by omega), if_neg (by rw [Int.toNat_natCast]; simpa using h)]
theorem pow_le4 (n : Nat) (h : n ≤ 4) : 2 ^ n ≤ 16 := Nat.le_trans (Nat.pow_le_pow_right (by omega) h) (by omega)
theorem guardsT {n : Int} (hbad : n < 0 ∨ 4 < n) : decide (n < 0) = true ∨ (decide (n < 0) = false ∧ decide (4 < n) = true) := by
  simp
  omega

theorem truthCheck_any (n : Int) (A : Option Addr) (len c : Nat) (f : List Bool) (w : World) (hl : len ≤ maxLen) (hf : SlB w A len f) :
    Calls Try.prog 29 #[.int .i64 n, .slice A len c] w fun e w' => e = .returned (.int .i64 (truthF n f)) ∧ w = w' := by
  by_cases hbad : n < 0 ∨ 4 < n
  · have HF := Lib.hid (show truthF n f = 1 by unfold truthF; rw [if_pos hbad])
    clear hf
    rcases guardsT hbad with d1 | ⟨d1, d2⟩
    all_goals
      clear hbad
      go_enter Try.func29, Try.ntmps29
      go_wp2
      go_ret
      exact ⟨by rw [HF.out]; rfl, rfl⟩
  · obtain ⟨nn, rfl⟩ := Int.eq_ofNat_of_zero_le (show 0 ≤ n by omega)
    have hw := i64_pow' nn (by omega)
    have hd : decide ((nn : Int) < 0) = false := by simp
    have hd2 : decide (4 < (nn : Int)) = false := by simp; omega
    have hn4 : nn ≤ 4 := by omega
    have hfe := hf.2
    by_cases hlen : len = 2 ^ nn
    · have HF := Lib.hid (show truthF nn f = 0 by unfold truthF; rw [if_neg hbad, if_neg (by rw [hfe, Int.toNat_natCast, hlen]; simp)])
      have hne := len_pow_eq hlen
      clear hlen hfe hbad
      go_enter Try.func29, Try.ntmps29
      go_wp2_with fail
      go_ret
      exact ⟨by rw [HF.out]; rfl, rfl⟩
    · have HF := Lib.hid (show truthF nn f = 3 by unfold truthF; rw [if_neg hbad, if_pos (by rw [hfe, Int.toNat_natCast]; exact hlen)])
      have hne := len_pow_ne hlen
      clear hlen hfe hbad
      go_enter Try.func29, Try.ntmps29
      go_wp2_with fail
      go_ret
      exact ⟨by rw [HF.out]; rfl, rfl⟩
theorem refTruthCheck_any (n : Int) (A : Option Addr) (len c : Nat) (f : List Bool) (w : World) (hl : len ≤ maxLen) (hf : SlB w A len f) :
    Calls Try.prog 31 #[.int .i64 n, .slice A len c] w fun e w' => e = .returned (.int .i64 (truthF n f)) ∧ w = w' := by
  by_cases hbad : n < 0 ∨ 4 < n
  · have HF := Lib.hid (show truthF n f = 1 by unfold truthF; rw [if_pos hbad])
    clear hf
    rcases guardsT hbad with d1 | ⟨d1, d2⟩
    all_goals
      clear hbad
      go_enter Try.func31, Try.ntmps31
      go_wp2
      go_ret
      exact ⟨by rw [HF.out]; rfl, rfl⟩
  · obtain ⟨nn, rfl⟩ := Int.eq_ofNat_of_zero_le (show 0 ≤ n by omega)
    have hw := i64_pow' nn (by omega)
    have hd : decide ((nn : Int) < 0) = false := by simp
    have hd2 : decide (4 < (nn : Int)) = false := by simp; omega
    have hn4 : nn ≤ 4 := by omega
    have hfe := hf.2
    by_cases hlen : len = 2 ^ nn
    · have HF := Lib.hid (show truthF nn f = 0 by unfold truthF; rw [if_neg hbad, if_neg (by rw [hfe, Int.toNat_natCast, hlen]; simp)])
      have hne := len_pow_eq hlen
      clear hlen hfe hbad
      go_enter Try.func31, Try.ntmps31
      go_wp2_with fail
      go_ret
      exact ⟨by rw [HF.out]; rfl, rfl⟩
    · have HF := Lib.hid (show truthF nn f = 3 by unfold truthF; rw [if_neg hbad, if_pos (by rw [hfe, Int.toNat_natCast]; exact hlen)])
      have hne := len_pow_ne hlen
      clear hlen hfe hbad
      go_enter Try.func31, Try.ntmps31
      go_wp2_with fail
      go_ret
      exact ⟨by rw [HF.out]; rfl, rfl⟩
theorem stated_any (n : Int) (A : Option Addr) (len c : Nat) (f : List Bool) (w : World) (hl : len ≤ maxLen) (hf : SlB w A len f) :
    Calls Try.prog 13 #[.int .i64 n, .slice A len c] w fun e w' => e = .returned (.bool (truthF n f == 0)) ∧ w = w' := by
  go_enter Try.func13, Try.ntmps13
  go_wp2_with fail
  refine (refTruthCheck_any _ _ _ _ f _ hl hf).mono ?_
  rintro e w1 ⟨rfl, rfl⟩
  go_wp2_with fail
  go_ret
  exact ⟨rfl, rfl⟩

/-- the post of a call that hands back a new slice of truth values -/
def RetB (w : World) (xs : List Bool) (e : Ending) (w' : World) : Prop := ∃ A c, e = .returned (.slice A xs.length c) ∧ SlB w' A xs.length xs ∧ xs.length ≤ c ∧ Kept w w'
def RetBE (w : World) (xs : List Bool) (e : Ending) (w' : World) : Prop := ∃ A c, e = .returned (.tuple #[.slice A xs.length c, .int .i64 0]) ∧ SlB w' A xs.length xs ∧ xs.length ≤ c ∧ Kept w w'

def dualL (f : List Bool) : List Bool := (List.range f.length).map fun s => !bat f (f.length - 1 - s)
theorem dualL_length (f : List Bool) : (dualL f).length = f.length := by simp [dualL]
theorem bat_dualL (f : List Bool) (s : Nat) (h : s < f.length) : bat (dualL f) s = !bat f (f.length - 1 - s) := bat_map_range _ _ _ h
theorem dualL_dualL (f : List Bool) : dualL (dualL f) = f := by
  apply bat_ext (by rw [dualL_length, dualL_length])
  intro k hk
  rw [dualL_length, dualL_length] at hk
  rw [bat_dualL _ _ (by rw [dualL_length]; exact hk), dualL_length, bat_dualL _ _ (by omega), Bool.not_not]
  congr 1
  omega

set_option maxHeartbeats 400000 in
theorem dual_any (A : Option Addr) (len c : Nat) (f : List Bool) (w : World) (hf : SlB w A len f) (hlen : len ≤ 1000) :
    Calls Try.prog 30 #[.slice A len c] w (RetB w (dualL f)) := by
  have hmk := run_make1 (P := Try.prog) 22 4 Try.underlying22 info_bool rfl (by decide) len (by omega)
  have HFL := Lib.hid hf.2
  go_enter Try.func30, Try.ntmps30
  go_wp2_with fail
  obtain ⟨B, hB⟩ : ∃ B, w.heap.size = B := ⟨_, rfl⟩
  have hrow : Row w (w.alloc (.cells (rep len (.bool false)) 4)) B 4 ((fillTo (fun s => !bat f (len - 1 - s)) false len 0).map bv) := by
    rw [fillTo_zero, List.map_replicate]
    exact Row.new (Kept.refl w) _ _ _ hB
  have HB := Lib.hid hB
  rw [hB]
  clear hB hmk
  generalize w.alloc (.cells (rep len (.bool false)) 4) = w1 at hrow
  go_loopw [10] (fun t wr => ∃ k : Nat, k ≤ len ∧ t = .int .i64 k ∧ Row w wr B 4 ((fillTo (fun s => !bat f (len - 1 - s)) false len k).map bv)) (fun t _ => len - (intOf t).toNat)
  case atStart => exact ⟨0, Nat.zero_le _, rfl, hrow⟩
  case round =>
    obtain ⟨k, hk, rfl, hr⟩ := hrel
    by_cases hlt : k < len
    · obtain ⟨b, off, rfl, hb, cq⟩ := (hf.kept hr.kept0).getN (len - 1 - k) (by omega)
      have hi1 : (1 : Int) ≤ (len : Int) := by omega
      have hcell := hr.cell k (u := .bool false) (by rw [List.getElem?_map, fillTo_at _ _ _ _ _ hlt]; simp [bv])
      have hfree := hr.free k
      have HS := Lib.hid (fillTo_set (fun s => !bat f (len - 1 - s)) false len k)
      have hset := Lib.hid (hr.set k (bv (!bat f (len - 1 - k))))
      go_wp2_with fail
      go_roundw
      case rel => exact ⟨k + 1, by omega, by go_num, by rw [← HS.out, ← map_set]; exact hset.out⟩
      case measure => simp [intOf]; omega
    · have HK := Lib.hid (show k = len by omega)
      go_wp2_with fail
      go_ret
      rw [HK.out, fillTo_done] at hr
      have e : (List.range len).map (fun s => !bat f (len - 1 - s)) = dualL f := by unfold dualL; rw [HFL.out]
      rw [e] at hr
      have hl2 : (dualL f).length = len := by rw [dualL_length, HFL.out]
      exact ⟨some ⟨B, 0, none⟩, len, by rw [hl2]; rfl, ⟨hr.sl _ (by simp), rfl⟩, by omega, hr.kept0⟩
end Go.Proofs.Ytjliabifaohfjaa
