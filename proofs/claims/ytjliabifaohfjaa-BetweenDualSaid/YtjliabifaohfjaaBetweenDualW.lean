/- BetweenDual: the walk of the statement. -/
import Derived.Test.YtjliabifaohfjaaBetween2
namespace Go.Proofs.Ytjliabifaohfjaa.betweenDualDone
open Go Go.RowKit
set_option linter.unusedVariables false

theorem tabTo_not (f : List Bool) (k : Nat) (h : f.length = k) : tabTo (fun s => !bat f s) k = notL f := by unfold tabTo notL; rw [h]
set_option maxHeartbeats 2000000 in
set_option maxRecDepth 100000 in
theorem yes (n : Nat) (A : Option Addr) (len cp : Nat) (f : List Bool) (keep : BitVec 32) (w : World) (hl : len ≤ maxLen) (hf : SlB w A len f) (hc : btF n f keep = 0) :
    Calls Try.prog 8 #[.int .i64 n, .slice A len cp, .int .u32 (W keep)] w fun e w' => e = .returned (.bool true) ∧ Kept w w' := by
  have hbz := btF_zero hc
  have hz := truthF_zero hbz.1
  rw [Int.toNat_natCast] at hz
  have hfit : fitB n keep = true := by have := hbz.2; rwa [Int.toNat_natCast] at this
  have hfl : f.length = 2 ^ n := hz.2.2
  have hlen : len = 2 ^ n := hf.2.symm.trans hfl
  have hn4 : n ≤ 4 := by omega
  have hl16 : len ≤ 16 := by rw [hlen]; exact pow_le4 n hn4
  have hlp : 0 < len := by have : 0 < 2 ^ n := Nat.pow_pos (by omega); omega
  have HC := Lib.hid hc
  have HT := Lib.hid hbz.1
  have HFIT := Lib.hid hfit
  have HFL := Lib.hid hf.2
  have HNL := Lib.hid (show (notL f).length = len by rw [notL_length, hf.2])
  have HCN := Lib.hid (show btF n (notL f) keep = 0 from btF_ok (truthF_ok hn4 (by rw [notL_length]; exact hfl)) (by rw [Int.toNat_natCast]; exact hfit))
  have HLA := Lib.hid (show (leastL n f keep).length = len by rw [leastL_length, hf.2])
  have HLB := Lib.hid (show (mostL n f keep).length = len by rw [mostL_length, hf.2])
  have HLC := Lib.hid (show (leastL n (notL f) keep).length = len by rw [leastL_length, notL_length, hf.2])
  have HB := Lib.hid (show ∀ s, s < len → bat (mostL n f keep) s = !bat (leastL n (notL f) keep) s from fun s hs => bat_mostL (by rw [HFL.out]; exact hs))
  have HMS := Lib.hid (show ∀ s, s < len → bat (leastL n (notL f) keep) s = false → bat f s = true from fun s hs h => mostL_sub hfl (by omega) (by rw [HB.out s hs, h]; rfl))
  have HEX := Lib.hid (show ∀ s, s < len → bat f s = true → bat (leastL n f keep) s = true from fun s hs h => leastL_ext hfl (by omega) h)
  have dl : ((len : Int) != (len : Int)) = false := by simp
  clear hc hbz hz hlen hfit hfl
  go_enter Try.func8, Try.ntmps8
  go_wp2_with fail
  refine (leastX_ok n _ _ _ f keep _ hl hf HC.out).mono ?_
  rintro e w1 ⟨A1, c1, rfl, hs1, _, k1⟩
  rw [Int.toNat_natCast, HLA.out] at hs1 ⊢
  go_wp2_with fail
  refine (mostX_ok n _ _ _ f keep _ hl (hf.kept k1) HC.out).mono ?_
  rintro e w2 ⟨A2, c2, rfl, hs2, _, k2⟩
  rw [Int.toNat_natCast, HLB.out] at hs2 ⊢
  have q2 := k1.trans k2
  go_wp2_with fail
  refine (stated_any _ _ _ _ f _ hl (hf.kept q2)).mono ?_
  rintro e w3 ⟨rfl, rfl⟩
  rw [HT.out]
  go_wp2_with fail
  refine (fitsT_any n (by omega) keep _).mono ?_
  rintro e w4 ⟨rfl, rfl⟩
  rw [HFIT.out]
  have hs1' := hs1.kept k2
  clear hs1 k1 k2
  go_wp2_with fail
  go_loopw [11, 49] (fun v t wr => ∃ k : Nat, k ≤ len ∧ t = .int .i64 k ∧ Own w2 wr 4 1 v k ((tabTo (fun s => !bat f s) k).map bv)) (fun _ t _ => len - (intOf t).toNat)
  case atStart => exact ⟨0, Nat.zero_le _, rfl, Own.start (Kept.refl _)⟩
  case round =>
    obtain ⟨k, hk, rfl, hown⟩ := hrel
    by_cases hlt : k < len
    · obtain ⟨b1, o1, rfl, _, cf⟩ := (hf.kept (q2.trans hown.2)).getN k hlt
      have HS := Lib.hid (tabTo_succ (fun s => !bat f s) k)
      generalize bat f k = p at cf HS
      go_wp2_with (at_builtin; refine wpList_push rfl _ _ 22 rfl 4 Try.underlying22 info_bool rfl (by decide) (by decide) _ _ _ _ hown #[.bool (!p)] _ _ 1 1 rfl rfl rfl rfl (one_bool _) (by omega) ?_; intro v' w7 hown7 _)
      go_roundw
      case rel => exact ⟨k + 1, by omega, by go_num, by rw [HS.out]; simpa [bv] using hown7⟩
      case measure => simp [intOf]; omega
    · have HK := Lib.hid (show k = len by omega)
      have HTN := Lib.hid (tabTo_not f len HFL.out)
      rw [HK.out, HTN.out] at hown
      obtain ⟨Ad, cd, rfl, hsd, _⟩ := hown.form
      have hno : SlB wr Ad len (notL f) := ⟨hsd, HNL.out⟩
      have q5 := q2.trans hown.2
      have ha5 := hs1'.kept hown.2
      have hb5 := hs2.kept hown.2
      clear hsd hown hs1' hs2
      go_wp2_with fail
      refine (leastX_ok n _ _ _ (notL f) keep _ hl hno HCN.out).mono ?_
      rintro e w6 ⟨A6, c6, rfl, hs6, _, k6⟩
      rw [Int.toNat_natCast, HLC.out] at hs6 ⊢
      have q6 := q5.trans k6
      obtain ⟨ba, oa, rfl, hba, hca⟩ := (ha5.kept k6).open_ hlp
      obtain ⟨bb, ob, rfl, hbb, hcb⟩ := (hb5.kept k6).open_ hlp
      obtain ⟨bc, oc, rfl, hbc, hcc⟩ := hs6.open_ hlp
      obtain ⟨bf, off, rfl, hbf, hcf⟩ := (hf.kept q6).open_ hlp
      have HCA := Lib.hid hca
      have HCB := Lib.hid hcb
      have HCC := Lib.hid hcc
      have HCF := Lib.hid hcf
      clear hca hcb hcc hcf hno ha5 hb5 k6 q5
      go_wp2_with fail
      clear dl
      go_loopw [16] (fun t wr => ∃ s : Nat, s ≤ len ∧ t = .int .i64 s ∧ Kept w6 wr) (fun t _ => len - (intOf t).toNat)
      case atStart => exact ⟨0, Nat.zero_le _, rfl, Kept.refl _⟩
      case round =>
        obtain ⟨s, hs, rfl, hkw⟩ := hrel
        by_cases hlt : s < len
        · have ca := (hkw.cell (p := ⟨ba, oa + s, none⟩) hba).trans (HCA.out s hlt)
          have cb := (hkw.cell (p := ⟨bb, ob + s, none⟩) hbb).trans (HCB.out s hlt)
          have cc := (hkw.cell (p := ⟨bc, oc + s, none⟩) hbc).trans (HCC.out s hlt)
          have cf := (hkw.cell (p := ⟨bf, off + s, none⟩) hbf).trans (HCF.out s hlt)
          rw [HB.out s hlt] at cb
          have h1 := HMS.out s hlt
          have h2 := HEX.out s hlt
          generalize bat (leastL n f keep) s = q at ca h2
          generalize bat (leastL n (notL f) keep) s = y at cb cc h1
          generalize bat f s = p at cf h1 h2
          have hi1 : (0 : Int) ≤ (s : Int) := by omega
          have hi2 : (s : Int) < (len : Int) := by omega
          cases y
          · have hp := h1 rfl
            subst hp
            have hq := h2 rfl
            subst hq
            clear h1 h2
            simp only [Bool.not_false] at cb
            go_wp2_with fail
            go_quiet (fail)
            go_wp2_with fail
            go_roundw
            case rel => exact ⟨s + 1, by omega, by go_num, hkw.drewN nq⟩
            case measure => simp [intOf]; omega
          · clear h1
            simp only [Bool.not_true] at cb
            cases p
            · clear h2
              go_wp2_with fail
              go_quiet (fail)
              go_wp2_with fail
              go_roundw
              case rel => exact ⟨s + 1, by omega, by go_num, hkw.drewN nq⟩
              case measure => simp [intOf]; omega
            · have hq := h2 rfl
              subst hq
              clear h2
              go_wp2_with fail
              go_quiet (fail)
              go_wp2_with fail
              go_roundw
              case rel => exact ⟨s + 1, by omega, by go_num, hkw.drewN nq⟩
              case measure => simp [intOf]; omega
        · go_wp2_with fail
          go_ret
          exact ⟨rfl, q6.trans hkw⟩
set_option maxHeartbeats 1000000 in
theorem betweenDual_walk (n : Int) (A : Option Addr) (len cp : Nat) (f : List Bool) (keep : BitVec 32) (w : World) (_wn : (Lit.int .i64 n).wf = true) (hl : len ≤ maxLen) (hf : SlB w A len f) :
    Calls Try.prog 8 #[.int .i64 n, .slice A len cp, .int .u32 (W keep)] w fun e w' => e = .returned (.bool true) ∧ Kept w w' := by
  by_cases hc : btF n f keep = 0
  · obtain ⟨nn, rfl⟩ := Int.eq_ofNat_of_zero_le (truthF_zero (btF_zero hc).1).1
    exact yes nn A len cp f keep w hl hf hc
  · have hne : (btF n f keep != 0) = true := by simpa using hc
    have HNO := Lib.hid hc
    rcases btF_no hc with ⟨h1, h9⟩ | ⟨h1, h2, h9⟩
    · have hnz : (truthF n f == 0) = false := by simpa using h1
      clear hc h1 h9
      go_enter Try.func8, Try.ntmps8
      go_wp2_with fail
      refine (leastX_no n _ _ _ f keep _ hl hf HNO.out).mono ?_
      rintro e w1 ⟨rfl, rfl⟩
      go_wp2_with fail
      refine (mostX_no n _ _ _ f keep _ hl hf HNO.out).mono ?_
      rintro e w2 ⟨rfl, rfl⟩
      go_wp2_with fail
      refine (stated_any _ _ _ _ f _ hl hf).mono ?_
      rintro e w3 ⟨rfl, rfl⟩
      go_wp2_with fail
      go_ret
      exact ⟨rfl, Kept.refl _⟩
    · have hz := truthF_zero h1
      obtain ⟨nn, rfl⟩ := Int.eq_ofNat_of_zero_le hz.1
      rw [Int.toNat_natCast] at h2
      have HT := Lib.hid h1
      have HF := Lib.hid h2
      have hn4 : nn ≤ 4 := by omega
      clear hc h1 h2 hz h9
      go_enter Try.func8, Try.ntmps8
      go_wp2_with fail
      refine (leastX_no nn _ _ _ f keep _ hl hf HNO.out).mono ?_
      rintro e w1 ⟨rfl, rfl⟩
      go_wp2_with fail
      refine (mostX_no nn _ _ _ f keep _ hl hf HNO.out).mono ?_
      rintro e w2 ⟨rfl, rfl⟩
      go_wp2_with fail
      refine (stated_any _ _ _ _ f _ hl hf).mono ?_
      rintro e w3 ⟨rfl, rfl⟩
      rw [HT.out]
      go_wp2_with fail
      refine (fitsT_any nn (by omega) keep _).mono ?_
      rintro e w4 ⟨rfl, rfl⟩
      rw [HF.out]
      go_wp2_with fail
      go_ret
      exact ⟨rfl, Kept.refl _⟩
end Go.Proofs.Ytjliabifaohfjaa.betweenDualDone
