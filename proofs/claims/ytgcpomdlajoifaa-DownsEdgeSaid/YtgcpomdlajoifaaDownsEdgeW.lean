/- DownsEdge: the walk of the statement. -/
import Derived.Test.YtgcpomdlajoifaaDowns
namespace Go.Proofs.Ytgcpomdlajoifaa.downsEdgeDone
open Go Go.RowKit
set_option linter.unusedVariables false

set_option maxHeartbeats 1000000 in
theorem downsEdge_walk (n : Int) (A : Option Addr) (len cp : Nat) (ps : List Pr) (s : BitVec 32) (w : World) (_wn : (Lit.int .i64 n).wf = true) (hl : len ≤ maxLen) (hf : SlP w A len ps) :
    Calls Try.prog 9 #[.int .i64 n, .slice A len cp, .int .u32 (W s)] w fun e w' => e = .returned (.bool true) ∧ Kept w w' := by
  by_cases hc : ordF n ps = 0
  · obtain ⟨⟨hn1, hn6, hlen⟩, hrng, hanti⟩ := ordF_zero hc
    obtain ⟨nn, rfl⟩ := Int.eq_ofNat_of_zero_le (show 0 ≤ n by omega)
    have hn32 : nn < 32 := by omega
    have HC := Lib.hid hc
    have ha : Anti2 nn ps := hanti
    have hlen2 : len ≤ 20 := by rw [← hf.2]; exact hlen
    by_cases hs : fitB nn s = true
    · have HF := Lib.hid (show fillR nn ps s = (0, dnW nn ps s) by unfold fillR; rw [hs]; rfl)
      have HS := Lib.hid hs
      have HFG := Lib.hid (show fillR nn ps (edW nn ps (dnW nn ps s)) = (0, dnW nn ps s) by unfold fillR; rw [edW_fit (by omega), dn_ed (by omega) ha (dnW_idem (by omega))]; rfl)
      have HD := Lib.hid (show fitB nn (dnW nn ps s) = true from dnW_fit (by omega))
      have HI := Lib.hid (show dnW nn ps (dnW nn ps s) = dnW nn ps s from dnW_idem (by omega))
      have H1 := Lib.hid (show subB s (dnW nn ps s) = true from dnW_sub (by omega) hs)
      have H2 := Lib.hid (show subB (edW nn ps (dnW nn ps s)) s = true from ed_in (by omega) hs)
      have H3 := Lib.hid (show freeF nn ps (edW nn ps (dnW nn ps s)) = true from ed_free (by omega))
      clear hc hrng hanti hlen hs ha
      go_enter Try.func9, Try.ntmps9
      go_wp2_with fail
      refine (fillX_ok nn _ _ _ ps s _ hf HC.out).mono ?_
      rintro e w1 ⟨rfl, k1⟩
      rw [HF.out]
      go_wp2_with fail
      refine (ordered_any nn _ _ _ ps _ (hf.kept k1)).mono ?_
      rintro e w2 ⟨rfl, k2⟩
      rw [HC.out]
      have q2 := k1.trans k2
      go_wp2_with fail
      refine (fitsS_any nn hn32 s _).mono ?_
      rintro e w3 ⟨rfl, rfl⟩
      rw [HS.out]
      go_wp2_with fail
      refine (edgeX_ok nn _ _ _ ps (dnW nn ps s) _ (hf.kept q2) HC.out HD.out HI.out).mono ?_
      rintro e w4 ⟨rfl, k4⟩
      have q4 := q2.trans k4
      go_wp2_with fail
      refine (fillX_ok nn _ _ _ ps (edW nn ps (dnW nn ps s)) _ (hf.kept q4) HC.out).mono ?_
      rintro e w5 ⟨rfl, k5⟩
      rw [HFG.out]
      have q5 := q4.trans k5
      generalize edW nn ps (dnW nn ps s) = g at H2 H3
      generalize dnW nn ps s = d at H1
      have hbeq : (d == d) = true := by simp
      go_wp2_with fail
      refine (inS_is s d true H1.out _).mono ?_
      rintro e w6 ⟨rfl, rfl⟩
      go_wp2_with fail
      refine (inS_is g s true H2.out _).mono ?_
      rintro e w7 ⟨rfl, rfl⟩
      go_wp2_with fail
      refine (freeS_any nn (by omega) _ _ _ ps g _ (hf.kept q5) (by omega)).mono ?_
      rintro e w8 ⟨rfl, k8⟩
      rw [H3.out]
      go_wp2_with fail
      go_ret
      exact ⟨rfl, q5.trans k8⟩
    · rw [Bool.not_eq_true] at hs
      have HF := Lib.hid (show fillR nn ps s = (4, 0#32) by unfold fillR; rw [hs]; rfl)
      have HS := Lib.hid hs
      clear hc hrng hanti hlen hs ha
      go_enter Try.func9, Try.ntmps9
      go_wp2_with fail
      refine (fillX_ok nn _ _ _ ps s _ hf HC.out).mono ?_
      rintro e w1 ⟨rfl, k1⟩
      rw [HF.out]
      go_wp2_with fail
      refine (ordered_any nn _ _ _ ps _ (hf.kept k1)).mono ?_
      rintro e w2 ⟨rfl, k2⟩
      rw [HC.out]
      go_wp2_with fail
      refine (fitsS_any nn hn32 s _).mono ?_
      rintro e w3 ⟨rfl, rfl⟩
      rw [HS.out]
      go_wp2_with fail
      go_ret
      exact ⟨rfl, k1.trans k2⟩
  · have hne : (ordF n ps != 0) = true := by simpa using hc
    have hnz : (ordF n ps == 0) = false := by simpa using hc
    clear hc
    go_enter Try.func9, Try.ntmps9
    go_wp2_with fail
    refine (fillX_no n _ _ _ ps s _ hf hne).mono ?_
    rintro e w1 ⟨rfl, k1⟩
    go_wp2_with fail
    refine (ordered_any n _ _ _ ps _ (hf.kept k1)).mono ?_
    rintro e w2 ⟨rfl, k2⟩
    go_wp2_with fail
    go_ret
    exact ⟨rfl, k1.trans k2⟩
end Go.Proofs.Ytgcpomdlajoifaa.downsEdgeDone
