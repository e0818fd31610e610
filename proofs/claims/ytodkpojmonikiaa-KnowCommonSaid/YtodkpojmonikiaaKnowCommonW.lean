/- KnowCommon: the walk of the statement. -/
import Derived.Test.YtodkpojmonikiaaKnow4
namespace Go.Proofs.Ytodkpojmonikiaa.knowCommonDone
open Go Go.RowKit
set_option linter.unusedVariables false

set_option maxHeartbeats 2000000 in
set_option maxRecDepth 100000 in
theorem yes (n : Nat) (A : Option Addr) (len cp : Nat) (rs : List Rv) (ev s : BitVec 32) (w : World) (hl : len ≤ maxLen) (hf : SlM w A len rs) (hc : knowF n rs ev = 0) :
    Calls Try.prog 5 #[.int .i64 n, .slice A len cp, .int .u32 (W ev), .int .u32 (W s)] w fun e w' => e = .returned (.bool true) ∧ Kept w w' := by
  have hz := knowF_zero hc
  have hn6 : n ≤ 6 := by have := hz.1.2.1; omega
  have hn1 : 1 ≤ n := by have := hz.1.1; omega
  have hfit : fitB n ev = true := by have := hz.2.2; rwa [Int.toNat_natCast] at this
  have HC := Lib.hid hc
  have H1 := Lib.hid (fun ev2 (h : fitB n ev2 = true) => knowF_ok (ev2 := ev2) hc (by rw [Int.toNat_natCast]; exact h))
  have H0 := Lib.hid (H1.out 0#32 (fitB_zero n))
  have HSE := Lib.hid (H1.out (s &&& ev) (fitB_sub (subB_iff.2 fun i hi => by rw [BitVec.getLsbD_and, Bool.and_eq_true] at hi; exact hi.2) hfit))
  have HIN := Lib.hid (show subB (s &&& ev) ev = true from subB_iff.2 fun i hi => by rw [BitVec.getLsbD_and, Bool.and_eq_true] at hi; exact hi.2)
  clear hc hz
  go_enter Try.func5, Try.ntmps5
  go_wp2_with fail
  refine (commonX_ok n _ _ _ rs ev _ hf HC.out).mono ?_
  rintro e w1 ⟨c, rfl, hcom, k1⟩
  have HG := Lib.hid hcom
  have HCF := Lib.hid (H1.out c (fitB_sub hcom.1 hfit))
  clear hcom hfit
  go_wp2_with fail
  refine (meet_ok n _ _ _ rs _ (hf.kept k1) H0.out).mono ?_
  rintro e w2 ⟨A2, c2, p, rfl, hp, hconn, k2⟩
  have HCO := Lib.hid hconn
  have q2 := k1.trans k2
  clear hconn
  go_wp2_with fail
  refine (known_any n _ _ _ rs ev _ (hf.kept q2)).mono ?_
  rintro e w3 ⟨rfl, rfl⟩
  rw [HC.out]
  go_wp2_with fail
  refine (eachX_ok n _ _ _ rs c _ (hf.kept q2) HCF.out).mono ?_
  rintro e w4 ⟨rfl, k4⟩
  rw [HG.out.2.1]
  have q4 := q2.trans k4
  have hp4 := hp.kept k4
  have d1 : (c != c) = false := by simp
  have d2 : ((n : Int) != (n : Int)) = false := by simp
  clear k1 k2 k4 hp q2
  go_wp2_with fail
  refine (in_is c ev true HG.out.1 _).mono ?_
  rintro e w5 ⟨rfl, rfl⟩
  go_wp2_with fail
  clear d1 d2
  obtain ⟨b1, o1, rfl, hb1, hcell⟩ := hp4.open_ (by omega)
  have HCELL := Lib.hid hcell
  clear hcell
  go_loopw [15] (fun t wr => ∃ i : Nat, i ≤ n ∧ t = .int .i64 i ∧ Kept w4 wr) (fun t _ => n - (intOf t).toNat)
  case atStart => exact ⟨0, Nat.zero_le _, rfl, Kept.refl _⟩
  case round =>
    obtain ⟨i, hi, rfl, hk1⟩ := hrel
    by_cases hlt : i < n
    · go_wp2_with fail
      go_loopw [16] (fun t wr => ∃ j : Nat, j ≤ n ∧ t = .int .i64 j ∧ Kept w4 wr) (fun t _ => n - (intOf t).toNat)
      case atStart => exact ⟨0, Nat.zero_le _, rfl, hk1⟩
      case round =>
        obtain ⟨j, hj, rfl, hk2⟩ := hrel
        by_cases hlt2 : j < n
        · have ci := (hk2.cell (p := ⟨b1, o1 + i, none⟩) hb1).trans (HCELL.out i hlt)
          have cj := (hk2.cell (p := ⟨b1, o1 + j, none⟩) hb1).trans (HCELL.out j hlt2)
          rw [iat_labL p hlt] at ci
          rw [iat_labL p hlt2] at cj
          have HB := Lib.hid (show p i = p j → c.getLsbD i = c.getLsbD j from fun e => common_conn (by omega) HG.out.2.1 hlt ((HCO.out i j hlt hlt2).1 e))
          generalize p i = x at ci HB
          generalize p j = y at cj HB
          have qi := kw_cell ci
          have qj := kw_cell cj
          have hi1 : (0 : Int) ≤ (i : Int) := by omega
          have hi2 : (i : Int) < (n : Int) := by omega
          have hj1 : (0 : Int) ≤ (j : Int) := by omega
          have hj2 : (j : Int) < (n : Int) := by omega
          by_cases hxy : x = y
          · have HB2 := Lib.hid (HB.out hxy)
            have d1 : ((x : Int) == (y : Int)) = true := by simp [hxy]
            clear hxy HB
            generalize hbv : c.getLsbD j = bv at HB2
            have HBV := Lib.hid hbv
            clear hbv
            go_wp2_with fail
            refine wp_region_kept (by kernel_rfl) (by kernel_rfl) ?_
            repeat (go_big_quiet_step ((go_at_call 18; exact kept_of_same (bit_is c _ (by omega) bv (by first | exact HB2.out | exact HBV.out) _))))
            refine wpQuiet_nil ?_
            intro w6 k6
            go_wp2_with fail
            go_roundw
            case rel => exact ⟨j + 1, by omega, by go_num, hk2.trans k6⟩
            case measure => simp [intOf]; omega
          · have d1 : ((x : Int) == (y : Int)) = false := by simp; omega
            clear hxy HB
            go_wp2_with fail
            refine wp_region_kept (by kernel_rfl) (by kernel_rfl) ?_
            repeat (go_big_quiet_step (fail))
            refine wpQuiet_nil ?_
            intro w6 k6
            go_wp2_with fail
            go_roundw
            case rel => exact ⟨j + 1, by omega, by go_num, hk2.trans k6⟩
            case measure => simp [intOf]; omega
        · go_wp2_with fail
          go_roundw
          case rel => exact ⟨i + 1, by omega, by go_num, hk2⟩
          case measure => simp [intOf]; omega
    · have q5 := q4.trans hk1
      go_wp2_with fail
      refine (eachX_ok n _ _ _ rs (s &&& ev) _ (hf.kept q5) HSE.out).mono ?_
      rintro e w6 ⟨rfl, k6⟩
      have HGR := Lib.hid (HG.out.2.2 (s &&& ev) HIN.out)
      generalize s &&& ev = z at HGR
      cases hne : eachW n (numsL rs) z != z
      · have HE := Lib.hid (HGR.out (by simpa using hne))
        go_wp2_with fail
        refine (in_is z c true HE.out _).mono ?_
        rintro e w7 ⟨rfl, rfl⟩
        go_wp2_with fail
        go_ret
        exact ⟨rfl, q5.trans k6⟩
      · go_wp2_with fail
        go_ret
        exact ⟨rfl, q5.trans k6⟩
theorem knowF_zero_ev {n : Int} {rs : List Rv} {ev : BitVec 32} (h : knowF n rs ev = 0) : knowF n rs 0#32 = 0 := knowF_ok h (fitB_zero _)
set_option maxHeartbeats 1000000 in
theorem knowCommon_walk (n : Int) (A : Option Addr) (len cp : Nat) (rs : List Rv) (ev s : BitVec 32) (w : World) (_wn : (Lit.int .i64 n).wf = true) (hl : len ≤ maxLen) (hf : SlM w A len rs) :
    Calls Try.prog 5 #[.int .i64 n, .slice A len cp, .int .u32 (W ev), .int .u32 (W s)] w fun e w' => e = .returned (.bool true) ∧ Kept w w' := by
  by_cases hc : knowF n rs ev = 0
  · obtain ⟨nn, rfl⟩ := Int.eq_ofNat_of_zero_le (show 0 ≤ n by have := (knowF_zero hc).1.1; omega)
    exact yes nn A len cp rs ev s w hl hf hc
  · have hne : (knowF n rs ev != 0) = true := by simpa using hc
    have hnz : (knowF n rs ev == 0) = false := by simpa using hc
    have HNE := Lib.hid hne
    clear hc
    go_enter Try.func5, Try.ntmps5
    go_wp2_with fail
    refine (commonX_no n _ _ _ rs ev _ hf HNE.out).mono ?_
    rintro e w1 ⟨rfl, k1⟩
    go_wp2_with fail
    by_cases h0 : knowF n rs 0#32 = 0
    · obtain ⟨nn, rfl⟩ := Int.eq_ofNat_of_zero_le (show 0 ≤ n by have := (knowF_zero h0).1.1; omega)
      refine (meet_ok nn _ _ _ rs _ (hf.kept k1) h0).mono ?_
      rintro e w2 ⟨A2, c2, p, rfl, hp, hconn, k2⟩
      clear hconn h0
      have q2 := k1.trans k2
      go_wp2_with fail
      refine (known_any nn _ _ _ rs ev _ (hf.kept q2)).mono ?_
      rintro e w3 ⟨rfl, rfl⟩
      go_wp2_with fail
      go_ret
      exact ⟨rfl, q2⟩
    · refine (meet_no n _ _ _ rs _ (hf.kept k1) (by simpa using h0)).mono ?_
      rintro e w2 ⟨rfl, k2⟩
      clear h0
      have q2 := k1.trans k2
      go_wp2_with fail
      refine (known_any n _ _ _ rs ev _ (hf.kept q2)).mono ?_
      rintro e w3 ⟨rfl, rfl⟩
      go_wp2_with fail
      go_ret
      exact ⟨rfl, q2⟩
end Go.Proofs.Ytodkpojmonikiaa.knowCommonDone
