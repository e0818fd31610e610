/- The walks of package follow: what is asked of rules; Close and Does. -/
import Derived.Test.YtmdlfngdmlhpmaaFollow2
namespace Go.Proofs.Ytmdlfngdmlhpmaa
open Go Go.RowKit

theorem guards3 {n : Int} {len : Nat} (hbad : n < 1 ∨ 6 < n ∨ 10 < len) : decide (n < 1) = true ∨ (decide (n < 1) = false ∧ decide (6 < n) = true) ∨ (decide (n < 1) = false ∧ decide (6 < n) = false ∧ decide (10 < (len : Int)) = true) := by
  simp
  omega

set_option maxHeartbeats 400000 in
theorem rulesCheck_any (n : Int) (A : Option Addr) (len c : Nat) (rs : List Ru) (m : BitVec 32) (w : World) (hr : SlR w A len rs) :
    Calls Try.prog 34 #[.int .i64 n, .slice A len c, .int .u32 (W m)] w fun e w' => e = .returned (.int .i64 (checkF n rs [m])) ∧ Kept w w' := by
  by_cases hbad : n < 1 ∨ 6 < n ∨ 10 < len
  · have hf : checkF n rs [m] = 1 := by unfold checkF; rw [hr.2, if_pos hbad]
    have HF := Lib.hid hf
    clear hf hr
    rcases guards3 hbad with d1 | ⟨d1, d2⟩ | ⟨d1, d2, d3⟩
    all_goals
      clear hbad
      go_enter Try.func34, Try.ntmps34
      go_wp2
      go_ret
      exact ⟨by rw [HF.out]; rfl, Kept.refl _⟩
  · have h1 : 1 ≤ n := by omega
    have h6 : n ≤ 6 := by omega
    have hlen : len ≤ 10 := by omega
    obtain ⟨nn, rfl⟩ := Int.eq_ofNat_of_zero_le (show 0 ≤ n by omega)
    have hf : checkF nn rs [m] = if fitRules nn rs && fitB nn m then 0 else 4 := by rw [checkF_eq, hr.2, if_neg hbad, Int.toNat_natCast]; simp
    have HF := Lib.hid hf
    clear hf hbad
    have hd : decide ((nn : Int) < 1) = false := by simp; omega
    have hd2 : decide (6 < (nn : Int)) = false := by simp; omega
    have hd3 : decide (10 < (len : Int)) = false := by simp; omega
    go_enter Try.func34, Try.ntmps34
    go_wp2_with fail
    go_loopw [22] (fun i wr => ∃ k : Nat, k ≤ len ∧ i = .int .i64 k ∧ fitRules nn (rs.take k) = true ∧ Kept w wr) (fun i _ => len - (intOf i).toNat)
    case atStart => exact ⟨0, Nat.zero_le _, rfl, rfl, Kept.refl _⟩
    case round =>
      obtain ⟨k, hk, rfl, hall, hkw⟩ := hrel
      have HA := Lib.hid hall
      clear hall
      by_cases hlt : k < len
      · obtain ⟨b, off, hkr, rfl, hb, c1, c2⟩ := (hr.kept hkw).get k hlt
        have hs := Lib.hid (show fitRules nn (rs.take (k + 1)) = (fitRules nn (rs.take k) && (fitB nn rs[k].1 && fitB nn rs[k].2)) from all_snoc _ _ _ hkr)
        have hno := Lib.hid (show (fitB nn rs[k].1 && fitB nn rs[k].2) = false → fitRules nn rs = false from fun h => by
          unfold fitRules
          rw [List.all_eq_false]
          exact ⟨rs[k], List.getElem_mem hkr, by rw [h]; simp⟩)
        cases hb1 : fitB nn rs[k].1
        · have HB := Lib.hid hb1
          go_wp2_with (go_at_call 38; refine (fits_any _ (by omega) _ _).mono ?_; rintro e w' ⟨rfl, rfl⟩)
          go_ret
          exact ⟨by rw [HF.out, hno.out (by rw [HB.out]; rfl)]; rfl, hkw.alloc _⟩
        · cases hb2 : fitB nn rs[k].2
          · have HB := Lib.hid hb1
            have HB2 := Lib.hid hb2
            go_wp2_with (go_at_call 38; refine (fits_any _ (by omega) _ _).mono ?_; rintro e w' ⟨rfl, rfl⟩)
            go_ret
            exact ⟨by rw [HF.out, hno.out (by rw [HB.out, HB2.out]; rfl)]; rfl, hkw.alloc _⟩
          · have HB := Lib.hid hb1
            have HB2 := Lib.hid hb2
            go_wp2_with (go_at_call 38; refine (fits_any _ (by omega) _ _).mono ?_; rintro e w' ⟨rfl, rfl⟩)
            go_roundw
            case rel => exact ⟨k + 1, by omega, by go_num, by rw [hs.out, HA.out, HB.out, HB2.out]; rfl, hkw.alloc _⟩
            case measure => simp [intOf]; omega
      · have HK := Lib.hid (take_all rs k (by rw [hr.2]; omega))
        cases hb1 : fitB nn m
        all_goals
          have HB := Lib.hid hb1
          go_wp2_with (go_at_call 38; refine (fits_any _ (by omega) _ _).mono ?_; rintro e w' ⟨rfl, rfl⟩)
          go_ret
          have hA := HA.out
          rw [HK.out] at hA
          exact ⟨by rw [HF.out, HB.out, hA]; rfl, hkw⟩

/-- is a set closed? the reference's own words -/
theorem refClosed_any (A : Option Addr) (len c : Nat) (rs : List Ru) (s : BitVec 32) (w : World) (hr : SlR w A len rs) (hlen : len ≤ 1000) :
    Calls Try.prog 15 #[.slice A len c, .int .u32 (W s)] w fun e w' => e = .returned (.bool (isClosed rs s)) ∧ Kept w w' := by
  go_enter Try.func15, Try.ntmps15
  go_wp2_with fail
  go_loopw [9] (fun i wr => ∃ k : Nat, k ≤ len ∧ i = .int .i64 k ∧ isClosed (rs.take k) s = true ∧ Kept w wr) (fun i _ => len - (intOf i).toNat)
  case atStart => exact ⟨0, Nat.zero_le _, rfl, rfl, Kept.refl _⟩
  case round =>
    obtain ⟨k, hk, rfl, hall, hkw⟩ := hrel
    have HA := Lib.hid hall
    clear hall
    by_cases hlt : k < len
    · obtain ⟨b, off, hkr, rfl, hb, c1, c2⟩ := (hr.kept hkw).get k hlt
      have hs := Lib.hid (show isClosed (rs.take (k + 1)) s = (isClosed (rs.take k) s && (!subB rs[k].1 s || subB rs[k].2 s)) from all_snoc _ _ _ hkr)
      have hno := Lib.hid (show (!subB rs[k].1 s || subB rs[k].2 s) = false → isClosed rs s = false from fun h => by
        unfold isClosed
        rw [List.all_eq_false]
        exact ⟨rs[k], List.getElem_mem hkr, by rw [h]; simp⟩)
      cases hb1 : subB rs[k].1 s
      · have HB := Lib.hid hb1
        go_wp2_with (go_at_call 14; refine (in_any _ _ _).mono ?_; rintro e w' ⟨rfl, rfl⟩)
        go_roundw
        case rel => exact ⟨k + 1, by omega, by go_num, by rw [hs.out, HA.out, HB.out]; rfl, hkw.alloc _⟩
        case measure => simp [intOf]; omega
      · cases hb2 : subB rs[k].2 s
        · have HB := Lib.hid hb1
          have HB2 := Lib.hid hb2
          go_wp2_with (go_at_call 14; refine (in_any _ _ _).mono ?_; rintro e w' ⟨rfl, rfl⟩)
          go_ret
          exact ⟨by rw [hno.out (by rw [HB.out, HB2.out]; rfl)]; rfl, hkw.alloc _⟩
        · have HB := Lib.hid hb1
          have HB2 := Lib.hid hb2
          go_wp2_with (go_at_call 14; refine (in_any _ _ _).mono ?_; rintro e w' ⟨rfl, rfl⟩)
          go_roundw
          case rel => exact ⟨k + 1, by omega, by go_num, by rw [hs.out, HA.out, HB.out, HB2.out]; rfl, hkw.alloc _⟩
          case measure => simp [intOf]; omega
    · have HK := Lib.hid (take_all rs k (by rw [hr.2]; omega))
      go_wp2_with fail
      go_ret
      have hA := HA.out
      rw [HK.out] at hA
      exact ⟨by rw [hA]; rfl, hkw⟩

theorem ruled_any (n : Int) (A : Option Addr) (len c : Nat) (rs : List Ru) (m : BitVec 32) (w : World) (hr : SlR w A len rs) :
    Calls Try.prog 13 #[.int .i64 n, .slice A len c, .int .u32 (W m)] w fun e w' => e = .returned (.bool (checkF n rs [m] == 0)) ∧ Kept w w' := by
  go_enter Try.func13, Try.ntmps13
  go_wp2_with fail
  refine (rulesCheck_any _ _ _ _ _ _ _ hr).mono ?_
  rintro e w1 ⟨rfl, hk⟩
  go_wp2_with fail
  go_ret
  exact ⟨rfl, hk⟩

theorem close_ok (n : Int) (A : Option Addr) (len c : Nat) (rs : List Ru) (s : BitVec 32) (w : World) (hr : SlR w A len rs) (hc : checkF n rs [s] = 0) :
    Calls Try.prog 12 #[.int .i64 n, .slice A len c, .int .u32 (W s)] w fun e w' => e = .returned (.tuple #[.int .u32 (W (closeF rs s)), .int .i64 0]) ∧ Kept w w' := by
  have hlen : len ≤ 10 := by rw [← hr.2]; exact (checkF_zero hc).2.2.1
  have HC := Lib.hid hc
  clear hc
  go_enter Try.func12, Try.ntmps12
  go_wp2_with fail
  refine (check_any _ _ _ _ rs _ _ _ [s] _ (hr.kept ((Kept.refl _).alloc _)) (SlW.new1 _ _ _) (by omega)).mono ?_
  rintro e w1 ⟨rfl, hk⟩
  rw [HC.out]
  have hk1 : Kept w w1 := ((Kept.refl _).alloc _).trans hk
  clear hk
  go_wp2_with fail
  refine (closed_any _ _ _ rs _ _ (hr.kept hk1) (by omega)).mono ?_
  rintro e w2 ⟨rfl, hk2⟩
  go_wp2_with fail
  go_ret2
  exact ⟨rfl, hk1.trans hk2⟩
theorem close_no (n : Int) (A : Option Addr) (len c : Nat) (rs : List Ru) (s : BitVec 32) (w : World) (hr : SlR w A len rs) (hc : (checkF n rs [s] != 0) = true) :
    Calls Try.prog 12 #[.int .i64 n, .slice A len c, .int .u32 (W s)] w fun e w' => e = .returned (.tuple #[.int .u32 0, .int .i64 (checkF n rs [s])]) ∧ Kept w w' := by
  go_enter Try.func12, Try.ntmps12
  go_wp2_with fail
  refine (check_any _ _ _ _ rs _ _ _ [s] _ (hr.kept ((Kept.refl _).alloc _)) (SlW.new1 _ _ _) (by omega)).mono ?_
  rintro e w1 ⟨rfl, hk⟩
  have hk1 : Kept w w1 := ((Kept.refl _).alloc _).trans hk
  clear hk
  go_wp2_with fail
  go_ret2
  exact ⟨rfl, hk1⟩
end Go.Proofs.Ytmdlfngdmlhpmaa
