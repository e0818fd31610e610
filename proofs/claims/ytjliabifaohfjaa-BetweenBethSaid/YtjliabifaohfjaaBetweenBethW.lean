/- BetweenBeth: the walk of the statement. -/
import Derived.Test.YtjliabifaohfjaaBetween2
namespace Go.Proofs.Ytjliabifaohfjaa.betweenBethDone
open Go Go.RowKit
set_option linter.unusedVariables false

set_option maxHeartbeats 2000000 in
set_option maxRecDepth 100000 in
theorem yes (n : Nat) (A : Option Addr) (len cp : Nat) (f : List Bool) (v : Nat) (w : World) (hl : len ≤ maxLen) (hf : SlB w A len f) (hc : truthF n f = 0) (hv : v < n) :
    Calls Try.prog 7 #[.int .i64 n, .slice A len cp, .int .i64 v] w fun e w' => e = .returned (.bool true) ∧ Kept w w' := by
  have hz := truthF_zero hc
  rw [Int.toNat_natCast] at hz
  have hlen : len = 2 ^ n := hf.2.symm.trans hz.2.2
  have hn4 : n ≤ 4 := by omega
  have hl16 : len ≤ 16 := by rw [hlen]; exact pow_le4 n hn4
  have hlp : 0 < len := by have : 0 < 2 ^ n := Nat.pow_pos (by omega); omega
  have d1 : decide ((v : Int) < 0) = false := by simp
  have d2 : decide (n ≤ v) = false := by simp; omega
  have HC := Lib.hid hc
  have HL := Lib.hid hlen
  have HFL := Lib.hid hf.2
  have hfit : fitB n (1#32 <<< n - 1#32 - 1#32 <<< v) = true := by
    rw [sub_word (by omega) hv]
    exact fitB_sub (subB_iff.2 fun i hi => by rw [BitVec.getLsbD_and, Bool.and_eq_true] at hi; exact hi.1) (full_fit (by omega))
  have HBT := Lib.hid (btF_ok hc (by rw [Int.toNat_natCast]; exact hfit))
  have HLL := Lib.hid (show (leastL n f (1#32 <<< n - 1#32 - 1#32 <<< v)).length = len by rw [leastL_length, hf.2])
  have HSOME := Lib.hid (show ∀ s, s < len → bat (leastL n f (1#32 <<< n - 1#32 - 1#32 <<< v)) s = (bat f s || bat f (s ^^^ 2 ^ v)) from fun s hs => by
    rw [bat_leastL (by rw [HFL.out]; exact hs), least_but n (fun i hi => keep_but (by omega) hv i hi), if_pos hv]
    rfl)
  have hp2 : 2 ^ v < len := by rw [hlen]; exact Nat.pow_lt_pow_right (by omega) hv
  have hw := i64_pow v (by omega)
  have dl : ((len : Int) != (len : Int)) = false := by simp
  clear hc hz hlen hfit
  go_enter Try.func7, Try.ntmps7
  go_wp2_with fail
  refine (toldX_ok n _ _ _ f v _ hl hf HC.out hv).mono ?_
  rintro e w1 ⟨rfl, rfl⟩
  go_wp2_with fail
  refine (stated_any _ _ _ _ f _ hl hf).mono ?_
  rintro e w2 ⟨rfl, rfl⟩
  rw [HC.out]
  go_wp2_with fail
  refine (leastX_ok n _ _ _ f _ _ hl hf HBT.out).mono ?_
  rintro e w3 ⟨A3, c3, rfl, hs3, hcap3, k3⟩
  rw [Int.toNat_natCast, HLL.out] at hs3 ⊢
  obtain ⟨b3, o3, rfl, hb3, hcell3⟩ := hs3.open_ hlp
  obtain ⟨b1, o1, rfl, hb1, hcell1⟩ := (hf.kept k3).open_ hlp
  have HC3 := Lib.hid hcell3
  have HC1 := Lib.hid hcell1
  clear hcell3 hcell1
  go_wp2_with fail
  clear d1 d2 dl
  go_loopw [12, 13] (fun o t wr => ∃ k : Nat, k ≤ len ∧ t = .int .i64 k ∧ o = .bool (toldTo f v k) ∧ Kept w3 wr) (fun _ t _ => len - (intOf t).toNat)
  case atStart => exact ⟨0, Nat.zero_le _, rfl, rfl, Kept.refl _⟩
  case round =>
    obtain ⟨k, hk, rfl, rfl, hkw⟩ := hrel
    by_cases hlt : k < len
    · have hxl : k ^^^ 2 ^ v < len := by rw [HL.out]; exact xor_lt (by rw [← HL.out]; exact hlt) hv
      have ck := (hkw.cell (p := ⟨b1, o1 + k, none⟩) hb1).trans (HC1.out k hlt)
      have cx := (hkw.cell (p := ⟨b1, o1 + (k ^^^ 2 ^ v), none⟩) hb1).trans (HC1.out _ hxl)
      have cs := (hkw.cell (p := ⟨b3, o3 + k, none⟩) hb3).trans (HC3.out k hlt)
      rw [HSOME.out k hlt] at cs
      have HS := Lib.hid (toldTo_succ f v k)
      have HA := Lib.hid (show toldAt f v k = !(bat f k && bat f (k ^^^ 2 ^ v)) from rfl)
      have hxor := i64_xor k (2 ^ v) (by omega) (by omega)
      generalize bat f (k ^^^ 2 ^ v) = q at cx HA cs
      generalize hqq : 2 ^ v = qq at hxl hxor cx hw hp2
      generalize hx : k ^^^ qq = x at hxl hxor cx
      clear hqq hx
      generalize bat f k = p at ck HA cs
      have hi1 : (0 : Int) ≤ (x : Int) := by omega
      have hi2 : (x : Int) < (len : Int) := by omega
      have hi3 : (0 : Int) ≤ (k : Int) := by omega
      have hi4 : (k : Int) < (len : Int) := by omega
      cases ht : toldTo f v k
      · have HT := Lib.hid ht
        go_wp2_with fail
        go_quiet (fail)
        go_wp2_with fail
        go_roundw
        case rel => exact ⟨k + 1, by omega, by go_num, by rw [HS.out, HT.out]; rfl, hkw.drewN nq⟩
        case measure => simp [intOf]; omega
      · have HT := Lib.hid ht
        cases p <;> cases q
        all_goals
          go_wp2_with fail
          go_quiet (fail)
          go_wp2_with fail
          go_roundw
          case rel => exact ⟨k + 1, by omega, by go_num, by rw [HS.out, HT.out, HA.out]; rfl, hkw.drewN nq⟩
          case measure => simp [intOf]; omega
    · have HK := Lib.hid (show k = len by omega)
      rw [HK.out]
      generalize toldTo f v len = b
      have hbb : (b == b) = true := by simp
      go_wp2_with fail
      go_ret
      exact ⟨rfl, k3.trans hkw⟩
set_option maxHeartbeats 1000000 in
theorem betweenBeth_walk (n : Int) (A : Option Addr) (len cp : Nat) (f : List Bool) (v : Int) (w : World) (_wn : (Lit.int .i64 n).wf = true) (hl : len ≤ maxLen) (hf : SlB w A len f) (_wv : (Lit.int .i64 v).wf = true) :
    Calls Try.prog 7 #[.int .i64 n, .slice A len cp, .int .i64 v] w fun e w' => e = .returned (.bool true) ∧ Kept w w' := by
  by_cases hc : truthF n f = 0
  · obtain ⟨nn, rfl⟩ := Int.eq_ofNat_of_zero_le (truthF_zero hc).1
    by_cases hv : v < 0 ∨ (nn : Int) ≤ v
    · have HC := Lib.hid hc
      have HV := Lib.hid hv
      clear hc
      rcases outT_of hv with d1 | ⟨d1, d2⟩
      all_goals
        clear hv
        go_enter Try.func7, Try.ntmps7
        go_wp2_with fail
        refine (toldX_arg nn _ _ _ f v _ hl hf HC.out HV.out).mono ?_
        rintro e w1 ⟨rfl, rfl⟩
        go_wp2_with fail
        refine (stated_any _ _ _ _ f _ hl hf).mono ?_
        rintro e w2 ⟨rfl, rfl⟩
        rw [HC.out]
        go_wp2_with fail
        go_ret
        exact ⟨rfl, Kept.refl _⟩
    · obtain ⟨vv, rfl⟩ := Int.eq_ofNat_of_zero_le (show 0 ≤ v by omega)
      exact yes nn A len cp f vv w hl hf hc (by omega)
  · have hne : (truthF n f != 0) = true := by simpa using hc
    have hnz : (truthF n f == 0) = false := by simpa using hc
    clear hc
    go_enter Try.func7, Try.ntmps7
    go_wp2_with fail
    refine (toldX_no n _ _ _ f v _ hl hf hne).mono ?_
    rintro e w1 ⟨rfl, rfl⟩
    go_wp2_with fail
    refine (stated_any _ _ _ _ f _ hl hf).mono ?_
    rintro e w2 ⟨rfl, rfl⟩
    go_wp2_with fail
    go_ret
    exact ⟨rfl, Kept.refl _⟩
end Go.Proofs.Ytjliabifaohfjaa.betweenBethDone
