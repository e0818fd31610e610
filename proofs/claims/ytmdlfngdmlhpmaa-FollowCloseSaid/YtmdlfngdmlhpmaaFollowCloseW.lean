/- FollowClose: the walk of the statement. -/
import Derived.Test.YtmdlfngdmlhpmaaFollow3
namespace Go.Proofs.Ytmdlfngdmlhpmaa.followCloseDone
open Go Go.RowKit

theorem checkF_closed {n : Int} {rs : List Ru} {s : BitVec 32} (h : checkF n rs [s] = 0) : checkF n rs [closeF rs s] = 0 := by
  obtain ⟨h1, h2, h3, h4, h5⟩ := checkF_zero h
  refine checkF_ok h1 h2 h3 h4 ?_
  have : fitB n.toNat s = true := by simpa using h5
  have := fit_closeF (n := n.toNat) (by omega) h4 this
  simpa using this

set_option maxHeartbeats 400000 in
theorem followClose_walk (n : Int) (A : Option Addr) (len c : Nat) (rs : List Ru) (s t : BitVec 32) (w : World) (_wn : (Lit.int .i64 n).wf = true) (_hl : len ≤ maxLen) (hr : SlR w A len rs) :
    Calls Try.prog 3 #[.int .i64 n, .slice A len c, .int .u32 (W s), .int .u32 (W t)] w fun e w' => e = .returned (.bool true) ∧ Kept w w' := by
  by_cases h0 : checkF n rs [s] = 0
  · have hcc := checkF_closed h0
    have htw := closeF_twice rs s
    have hsub := (closeF_spec rs s).1
    have hcl := (closeF_spec rs s).2.1
    have hlen : len ≤ 10 := by rw [← hr.2]; exact (checkF_zero h0).2.2.1
    have hmono := closeF_mono rs (subB_or_left s t)
    have H0 := Lib.hid h0
    have HCC := Lib.hid hcc
    have HTW := Lib.hid htw
    have HMO := Lib.hid hmono
    clear h0 hcc htw hmono
    go_enter Try.func3, Try.ntmps3
    go_wp2_with fail
    refine (close_ok _ _ _ _ rs _ _ hr H0.out).mono ?_
    rintro e w1 ⟨rfl, hk1⟩
    go_wp2_with fail
    refine (ruled_any _ _ _ _ rs _ _ (hr.kept hk1)).mono ?_
    rintro e w2 ⟨rfl, hk2⟩
    rw [H0.out]
    go_wp2_with fail
    refine (close_ok _ _ _ _ rs _ _ (hr.kept (hk1.trans hk2)) HCC.out).mono ?_
    rintro e w3 ⟨rfl, hk3⟩
    rw [HTW.out]
    have hk : Kept w w3 := (hk1.trans hk2).trans hk3
    clear hk1 hk2 hk3
    go_wp2_with (first | (go_at_call 14; refine (in_any _ _ _).mono ?_; rintro e w' ⟨rfl, rfl⟩))
    refine (refClosed_any _ _ _ rs _ _ (hr.kept hk) (by omega)).mono ?_
    rintro e w4 ⟨rfl, hk4⟩
    have hk' : Kept w w4 := hk.trans hk4
    by_cases h1 : checkF n rs [s ||| t] = 0
    · have H1 := Lib.hid h1
      clear h1
      go_wp2_with fail
      refine (close_ok _ _ _ _ rs _ _ (hr.kept hk') H1.out).mono ?_
      rintro e w5 ⟨rfl, hk5⟩
      go_wp2_with fail
      refine (ruled_any _ _ _ _ rs _ _ (hr.kept (hk'.trans hk5))).mono ?_
      rintro e w6 ⟨rfl, hk6⟩
      rw [H1.out]
      have hmo := HMO.out
      go_wp2_with (first | (go_at_call 14; refine (in_any _ _ _).mono ?_; rintro e w' ⟨rfl, rfl⟩))
      go_ret
      exact ⟨rfl, (hk'.trans hk5).trans hk6⟩
    · have hne : (checkF n rs [s ||| t] != 0) = true := by simpa using h1
      have hnz : (checkF n rs [s ||| t] == 0) = false := by simpa using h1
      clear h1
      go_wp2_with fail
      refine (close_no _ _ _ _ rs _ _ (hr.kept hk') hne).mono ?_
      rintro e w5 ⟨rfl, hk5⟩
      go_wp2_with fail
      refine (ruled_any _ _ _ _ rs _ _ (hr.kept (hk'.trans hk5))).mono ?_
      rintro e w6 ⟨rfl, hk6⟩
      go_wp2_with fail
      go_ret
      exact ⟨rfl, (hk'.trans hk5).trans hk6⟩
  · have hne : (checkF n rs [s] != 0) = true := by simpa using h0
    have hnz : (checkF n rs [s] == 0) = false := by simpa using h0
    clear h0
    go_enter Try.func3, Try.ntmps3
    go_wp2_with fail
    refine (close_no _ _ _ _ rs _ _ hr hne).mono ?_
    rintro e w1 ⟨rfl, hk1⟩
    go_wp2_with fail
    refine (ruled_any _ _ _ _ rs _ _ (hr.kept hk1)).mono ?_
    rintro e w2 ⟨rfl, hk2⟩
    go_wp2_with fail
    go_ret
    exact ⟨rfl, hk1.trans hk2⟩
end Go.Proofs.Ytmdlfngdmlhpmaa.followCloseDone
