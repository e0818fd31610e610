/- The statements' side of clauses: Bit, Size, SatCheck, sat. -/
import Derived.Test.YtekpifobhgjepaaHorn
namespace Go.Proofs.Ytekpifobhgjepaa
open Go Go.RowKit
set_option linter.unusedVariables false

theorem satBit_any (x : BitVec 32) (i : Nat) (hi : i < 32) (w : World) : Calls Try.prog 23 #[.int .u32 (W x), .int .i64 i] w fun e w' => e = .returned (.bool (x.getLsbD i)) ∧ w = w' := by
  have h1 : decide (0 ≤ (i : Int)) = true := by simp
  have h2 : decide ((i : Int) < 32) = true := by simp; omega
  go_enter Try.func23, Try.ntmps23
  go_wp2
  go_ret
  exact ⟨rfl, rfl⟩
theorem satSize_any (x : BitVec 32) (w : World) : Calls Try.prog 17 #[.int .u32 (W x)] w fun e w' => e = .returned (.int .i64 (sizeN x 32)) ∧ w = w' := by
  go_enter Try.func17, Try.ntmps17
  go_wp2_with fail
  go_loop [3, 4] (fun s t => ∃ k : Nat, k ≤ 32 ∧ t = .int .i64 k ∧ s = .int .i64 (sizeN x k)) (fun _ t => 32 - (intOf t).toNat)
  case atStart => exact ⟨0, by omega, rfl, rfl⟩
  case round =>
    obtain ⟨k, hk, rfl, rfl⟩ := hrel
    have hle := sizeN_le x k
    by_cases hlt : k < 32
    · have hi2 : (k : Int) < 32 := by omega
      have HS := Lib.hid (show sizeN x (k + 1) = sizeN x k + if x.getLsbD k then 1 else 0 from rfl)
      cases hb : x.getLsbD k
      · have HB := Lib.hid hb
        go_wp2_with fail
        refine (satBit_any x k hlt _).mono ?_
        rintro e w' ⟨rfl, rfl⟩
        rw [HB.out]
        go_wp2_with fail
        go_round
        case rel => exact ⟨k + 1, by omega, by go_num, by rw [HS.out, HB.out]; rfl⟩
        case measure => simp [intOf]; omega
      · have HB := Lib.hid hb
        go_wp2_with fail
        refine (satBit_any x k hlt _).mono ?_
        rintro e w' ⟨rfl, rfl⟩
        rw [HB.out]
        go_wp2_with fail
        go_round
        case rel => exact ⟨k + 1, by omega, by go_num, by rw [HS.out, HB.out]; rfl⟩
        case measure => simp [intOf]; omega
    · have HK := Lib.hid (show k = 32 by omega)
      go_wp2_with fail
      go_ret
      exact ⟨by rw [← HK.out]; rfl, rfl⟩
theorem satCheck_any (n : Int) (A : Option Addr) (len c : Nat) (rs : List Ru) (w : World) (hs : SlR w A len rs) :
    Calls Try.prog 37 #[.int .i64 n, .slice A len c] w fun e w' => e = .returned (.int .i64 (satF n rs)) ∧ Kept w w' := by
  by_cases hbad : n < 1 ∨ 6 < n ∨ 16 < len
  · have HF := Lib.hid (show satF n rs = 1 by unfold satF; rw [if_pos (by rw [hs.2]; exact hbad)])
    rcases guards16 hbad with d1 | ⟨d1, d2⟩ | ⟨d1, d2, d3⟩
    all_goals
      clear hbad
      go_enter Try.func37, Try.ntmps37
      go_wp2_with fail
      go_ret
      exact ⟨by rw [HF.out]; rfl, Kept.refl _⟩
  · obtain ⟨nn, rfl⟩ := Int.eq_ofNat_of_zero_le (show 0 ≤ n by omega)
    have HF := Lib.hid (show satF nn rs = if rs.any (misB nn) then 4 else 0 by unfold satF; rw [if_neg (by rw [hs.2]; exact hbad)]; rfl)
    have d1 : decide ((nn : Int) < 1) = false := by simp; omega
    have d2 : decide (6 < (nn : Int)) = false := by simp; omega
    have d3 : decide (16 < (len : Int)) = false := by simp; omega
    have hlen : len ≤ 1000 := by omega
    have hn6 : nn ≤ 6 := by omega
    clear hbad
    go_enter Try.func37, Try.ntmps37
    go_wp2_with fail
    clear d1 d2 d3
    go_loopw [20] (fun t wr => ∃ q : Nat, q ≤ len ∧ t = .int .i64 q ∧ Kept w wr ∧ Hid ((rs.take q).any (misB nn) = false)) (fun t _ => len - (intOf t).toNat)
    case atStart => exact ⟨0, Nat.zero_le _, rfl, Kept.refl _, Lib.hid rfl⟩
    case round =>
      obtain ⟨q, hq, rfl, hkw, HA⟩ := hrel
      by_cases hlt : q < len
      · obtain ⟨b, off, hk, rfl, hb, c1, c2⟩ := (hs.kept hkw).get q hlt
        have hsn := Lib.hid (any_snoc (misB nn) rs q hk)
        have hyes := Lib.hid (show misB nn rs[q] = true → satF nn rs = 4 from fun h => by rw [HF.out, List.any_eq_true.2 ⟨_, List.getElem_mem hk, h⟩]; rfl)
        have hdef := Lib.hid (misB_eq nn rs[q])
        generalize rs[q] = x at c1 c2 hsn hyes hdef
        obtain ⟨y, z⟩ := x
        simp only at c1 c2
        have hdef2 := hdef.out
        simp only at hdef2
        have HD := Lib.hid hdef2
        clear hdef hdef2
        have hi1 : (0 : Int) ≤ (q : Int) := by omega
        have hi2 : (q : Int) < (len : Int) := by omega
        have hka := hkw.alloc (.cells #[.int .u32 (W y), .int .u32 (W z)] 29)
        cases hy : fitB nn y
        · have HY := Lib.hid (hyes.out (by rw [HD.out, hy]; rfl))
          have HV := Lib.hid hy
          clear hy
          go_wp2_with fail
          refine (satFits_any nn (by omega) y _).mono ?_
          rintro e w2 ⟨rfl, rfl⟩
          rw [HV.out]
          go_wp2_with fail
          go_ret
          exact ⟨by rw [HY.out]; rfl, hka⟩
        · cases hz : fitB nn z
          · have HY := Lib.hid (hyes.out (by rw [HD.out, hz]; simp))
            have HV := Lib.hid hy
            have HZ := Lib.hid hz
            clear hy hz
            go_wp2_with fail
            refine (satFits_any nn (by omega) y _).mono ?_
            rintro e w2 ⟨rfl, rfl⟩
            rw [HV.out]
            go_wp2_with fail
            refine (satFits_any nn (by omega) z _).mono ?_
            rintro e w2 ⟨rfl, rfl⟩
            rw [HZ.out]
            go_wp2_with fail
            go_ret
            exact ⟨by rw [HY.out]; rfl, hka⟩
          · have HV := Lib.hid hy
            have HZ := Lib.hid hz
            clear hy hz
            go_wp2_with fail
            refine (satFits_any nn (by omega) y _).mono ?_
            rintro e w2 ⟨rfl, rfl⟩
            rw [HV.out]
            go_wp2_with fail
            refine (satFits_any nn (by omega) z _).mono ?_
            rintro e w2 ⟨rfl, rfl⟩
            rw [HZ.out]
            go_wp2_with fail
            go_roundw
            case rel => exact ⟨q + 1, by omega, by go_num, hka, Lib.hid (by rw [hsn.out, HA.out, HD.out, HV.out, HZ.out]; rfl)⟩
            case measure => simp [intOf]; omega
      · have HK := Lib.hid (take_all rs q (by rw [hs.2]; omega))
        go_wp2_with fail
        go_ret
        exact ⟨by rw [HF.out, ← HK.out, HA.out]; rfl, hkw⟩
theorem sat_any (n : Int) (A : Option Addr) (len c : Nat) (rs : List Ru) (w : World) (hs : SlR w A len rs) :
    Calls Try.prog 13 #[.int .i64 n, .slice A len c] w fun e w' => e = .returned (.bool (satF n rs == 0)) ∧ Kept w w' := by
  go_enter Try.func13, Try.ntmps13
  go_wp2_with fail
  refine (satCheck_any n A len c rs _ hs).mono ?_
  rintro e w1 ⟨rfl, k1⟩
  go_wp2_with fail
  go_ret
  exact ⟨rfl, k1⟩
end Go.Proofs.Ytekpifobhgjepaa
