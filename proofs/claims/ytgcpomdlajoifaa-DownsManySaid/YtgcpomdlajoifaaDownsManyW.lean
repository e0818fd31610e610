/- DownsMany: the walk of the statement. -/
import Derived.Test.YtgcpomdlajoifaaTurned
namespace Go.Proofs.Ytgcpomdlajoifaa.downsManyDone
open Go Go.RowKit
set_option linter.unusedVariables false

/-- the sets apart among the first k words -/
noncomputable def freesTo (n : Nat) (ps : List Pr) (k : Nat) : Nat := (((words n).take k).filter (freeF n ps)).length
theorem freesTo_succ (n : Nat) (ps : List Pr) (k : Nat) (h : k < (words n).length) : freesTo n ps (k + 1) = if freeF n ps (words n)[k] then freesTo n ps k + 1 else freesTo n ps k := by
  unfold freesTo
  rw [filter_snoc _ _ _ h, List.length_append]
  split <;> simp
theorem freesTo_le (n : Nat) (ps : List Pr) (k : Nat) : freesTo n ps k ≤ k := len_filter_le _ _ _

set_option maxHeartbeats 1000000 in
theorem downsMany_walk (n : Int) (A : Option Addr) (len cp : Nat) (ps : List Pr) (w : World) (_wn : (Lit.int .i64 n).wf = true) (hl : len ≤ maxLen) (hf : SlP w A len ps) :
    Calls Try.prog 8 #[.int .i64 n, .slice A len cp] w fun e w' => e = .returned (.bool true) ∧ Kept w w' := by
  by_cases hc : ordF n ps = 0
  · obtain ⟨⟨hn1, hn6, hlen⟩, hrng, hanti⟩ := ordF_zero hc
    obtain ⟨nn, rfl⟩ := Int.eq_ofNat_of_zero_le (show 0 ≤ n by omega)
    have hn32 : nn < 32 := by omega
    have hpl := pow_le nn (by omega)
    have HC := Lib.hid hc
    have HCT := Lib.hid (turn_ord hc)
    have ha : Anti2 nn ps := hanti
    have hlen2 : len ≤ 20 := by rw [← hf.2]; exact hlen
    have HT := Lib.hid (downs_turn (n := nn) (ps := ps) hn32)
    have HFR := Lib.hid (show (downsL nn ps).length = freesTo nn ps (2 ^ nn) by rw [downs_frees hn32 ha]; unfold freesTo freesL; rw [take_all _ _ (by rw [words_length]; omega)])
    have hk := downs_most hn32 ha
    clear hc hrng hanti hlen ha
    go_enter Try.func8, Try.ntmps8
    go_wp2_with fail
    refine (many_ok nn _ _ _ ps _ hf HC.out).mono ?_
    rintro e w1 ⟨rfl, k1⟩
    go_wp2_with fail
    refine (ordered_any nn _ _ _ ps _ (hf.kept k1)).mono ?_
    rintro e w2 ⟨rfl, k2⟩
    rw [HC.out]
    have q2 := k1.trans k2
    go_wp2_with fail
    refine (turned_any _ _ _ ps _ (hf.kept q2) (by omega)).mono ?_
    rintro e w3 ⟨A3, c3, rfl, htr, k3⟩
    go_wp2_with fail
    refine (many_ok nn _ _ _ (turnP ps) _ htr HCT.out).mono ?_
    rintro e w4 ⟨rfl, k4⟩
    rw [HT.out]
    have q4 := (q2.trans k3).trans k4
    clear k1 k2 k3 k4 q2 htr
    have hcount := freesTo_le nn ps (2 ^ nn)
    rw [← HFR.out] at hcount
    generalize (downsL nn ps).length = m at HFR hk hcount
    go_wp2_with fail
    go_loopw [9, 10] (fun c t wr => ∃ k : Nat, k ≤ 2 ^ nn ∧ t = .int .u32 (W (BitVec.ofNat 32 k)) ∧ c = .int .i64 (freesTo nn ps k) ∧ Kept w wr) (fun _ t _ => 2 ^ nn - (intOf t).toNat)
    case atStart => exact ⟨0, Nat.zero_le _, rfl, rfl, q4⟩
    case round =>
      obtain ⟨k, hkn, rfl, rfl, hkw⟩ := hrel
      by_cases hlt : k < 2 ^ nn
      · have hy := word_yes (show nn < 32 by omega) hlt
        have hkl : k < (words nn).length := by rw [words_length]; exact hlt
        have HS := Lib.hid (freesTo_succ nn ps k hkl)
        have HW := Lib.hid (words_at hkl)
        have hle := freesTo_le nn ps k
        go_wp2_with fail
        refine (freeS_any nn (by omega) _ _ _ ps _ _ (hf.kept hkw) (by omega)).mono ?_
        rintro e w5 ⟨rfl, k5⟩
        cases hfr : freeF nn ps (BitVec.ofNat 32 k)
        · have HF := Lib.hid hfr
          go_wp2_with fail
          go_roundw
          case rel => exact ⟨k + 1, by omega, by rw [word_succ], by rw [HS.out, HW.out, HF.out]; rfl, hkw.trans k5⟩
          case measure => simp only [intOf]; rw [word_succ]; exact word_meas (by omega) hlt
        · have HF := Lib.hid hfr
          go_wp2_with fail
          go_roundw
          case rel => exact ⟨k + 1, by omega, by rw [word_succ], by rw [HS.out, HW.out, HF.out, if_pos rfl]; go_num, hkw.trans k5⟩
          case measure => simp only [intOf]; rw [word_succ]; exact word_meas (by omega) hlt
      · have hkk : k = 2 ^ nn := by omega
        have hy := word_no (show nn < 32 by omega) hkk
        have HK := Lib.hid (show freesTo nn ps k = m by rw [hkk]; exact HFR.out.symm)
        have hm1 : ((m : Int) == (m : Int)) = true := by simp
        have hge : decide ((nn : Int) + 1 ≤ (m : Int)) = true := by simp; omega
        clear hkk
        rw [HK.out]
        go_wp2_with fail
        go_ret
        exact ⟨rfl, hkw⟩
  · have hne : (ordF n ps != 0) = true := by simpa using hc
    have hnz : (ordF n ps == 0) = false := by simpa using hc
    clear hc
    go_enter Try.func8, Try.ntmps8
    go_wp2_with fail
    refine (many_no n _ _ _ ps _ hf hne).mono ?_
    rintro e w1 ⟨rfl, k1⟩
    go_wp2_with fail
    refine (ordered_any n _ _ _ ps _ (hf.kept k1)).mono ?_
    rintro e w2 ⟨rfl, k2⟩
    go_wp2_with fail
    go_ret
    exact ⟨rfl, k1.trans k2⟩
end Go.Proofs.Ytgcpomdlajoifaa.downsManyDone
