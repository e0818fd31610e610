/- LabelNumber: the walk of the statement. -/
import Derived.Test.YtnnddjanbfamkaaLabel
namespace Go.Proofs.Ytnnddjanbfamkaa.labelNumberDone
open Go Go.RowKit
set_option linter.unusedVariables false

theorem number_nat {l : Int} {p : BitVec 32} (h : labOk (l, p) = true) : ∃ k : Nat, l * 32 + W p = (k : Int) ∧ k < 128 ∧ (k : Int) / 32 = l ∧ BitVec.ofNat 32 (k % 32) = p := by
  obtain ⟨h0, h3, hf⟩ := labOk_iff.1 h
  have h32 := W_ge32 hf
  have hp1 : W p < 32 := by simpa using h32
  have hp0 := W_nonneg p
  refine ⟨(l * 32 + W p).toNat, by omega, by omega, by omega, ?_⟩
  apply BitVec.eq_of_toNat_eq
  rw [BitVec.toNat_ofNat]
  unfold W at hp1 hp0 ⊢
  omega

theorem fit_small {k : Nat} (h : k < 32) : fitB 5 (BitVec.ofNat 32 k) = true := by
  rw [fitB_lt (by omega), decide_eq_true_eq, BitVec.lt_def, BitVec.toNat_ofNat]
  simp
  omega

set_option maxHeartbeats 1000000 in
theorem labelNumber_walk (a : Int × BitVec 32) (k : Int) (w : World) (_wa : (Lit.int .i64 a.1).wf = true) (_wk : (Lit.int .i64 k).wf = true) :
    Calls Try.prog 3 #[.agg #[.int .i64 a.1, .int .u32 (W a.2)], .int .i64 k] w fun e w' => e = .returned (.bool true) ∧ Kept w w' := by
  obtain ⟨l, p⟩ := a
  show Calls Try.prog 3 #[.agg #[.int .i64 l, .int .u32 (W p)], .int .i64 k] w fun e w' => e = .returned (.bool true) ∧ Kept w w'
  cases hok : labOk (l, p)
  · have HOK := Lib.hid hok
    clear hok
    go_enter Try.func3, Try.ntmps3
    go_wp2_with fail
    refine (number_no _ _ _ HOK.out).mono ?_
    rintro e w1 ⟨rfl, k1⟩
    have q1 : Kept w w1 := ((Kept.refl w).alloc _).trans k1
    have x0 := boxes1 k1
    have c0 := x0.at_ 0 rfl
    have c1 := x0.at_ 1 rfl
    clear k1
    go_wp2_with fail
    refine (refLabCheck_any _ _ _).mono ?_
    rintro e w2 ⟨rfl, k2⟩
    rw [labF_four HOK.out]
    have q2 := q1.trans k2
    clear k2 q1 c0 c1 x0
    go_wp2_with fail
    by_cases hk : k < 0 ∨ 128 ≤ k
    · refine (label_no k _ hk).mono ?_
      rintro e w3 ⟨rfl, k3⟩
      clear hk
      go_wp2_with fail
      go_ret
      exact ⟨rfl, (q2.trans k3).alloc _⟩
    · obtain ⟨kn, rfl⟩ := Int.eq_ofNat_of_zero_le (show 0 ≤ k by omega)
      have hkn : kn < 128 := by omega
      have hok2 : labOk (((kn : Int) / 32), BitVec.ofNat 32 (kn % 32)) = true := labOk_iff.2 ⟨by omega, by omega, (fit_small (by omega))⟩
      have HOK2 := Lib.hid hok2
      have HKK := Lib.hid (show (kn : Int) / 32 * 32 + W (BitVec.ofNat 32 (kn % 32)) = (kn : Int) by
        unfold W
        rw [BitVec.toNat_ofNat]
        omega)
      clear hk hok2
      refine (label_ok kn _ hkn).mono ?_
      rintro e w3 ⟨rfl, k3⟩
      have q3 := q2.trans k3
      clear k3
      go_wp2_with fail
      refine (number_ok _ _ _ HOK2.out).mono ?_
      rintro e w4 ⟨rfl, k4⟩
      rw [HKK.out]
      have q4 := (q3.alloc _).trans k4
      clear k4
      go_wp2_with fail
      go_ret
      exact ⟨rfl, q4⟩
  · obtain ⟨kn0, e0, hk0, ea, eb⟩ := number_nat hok
    have HOK := Lib.hid hok
    have HE0 := Lib.hid e0
    have HEA := Lib.hid ea
    have HEB := Lib.hid eb
    clear hok e0 ea eb
    go_enter Try.func3, Try.ntmps3
    go_wp2_with fail
    refine (number_ok _ _ _ HOK.out).mono ?_
    rintro e w1 ⟨rfl, k1⟩
    rw [HE0.out]
    have q1 : Kept w w1 := ((Kept.refl w).alloc _).trans k1
    have x0 := boxes1 k1
    have c0 := x0.at_ 0 rfl
    have c1 := x0.at_ 1 rfl
    clear k1
    go_wp2_with fail
    refine (refLabCheck_any _ _ _).mono ?_
    rintro e w2 ⟨rfl, k2⟩
    rw [labF_zero HOK.out]
    have q2 := q1.trans k2
    have x1 := x0.kept k2
    clear k2 q1 c0 c1 x0
    go_wp2_with fail
    refine (label_ok kn0 _ hk0).mono ?_
    rintro e w3 ⟨rfl, k3⟩
    rw [HEA.out, HEB.out]
    have q3 := q2.trans k3
    have x2 := x1.kept k3
    have c0 := x2.at_ 0 rfl
    have c1 := x2.at_ 1 rfl
    have hsz := x2.1
    clear k3 q2 x1 x2
    go_wp2_with fail
    have q5 := q3.alloc (.cells #[.int .i64 l, .int .u32 (W p)] 24)
    by_cases hk : k < 0 ∨ 128 ≤ k
    · refine (label_no k _ hk).mono ?_
      rintro e w3 ⟨rfl, k3⟩
      clear hk
      go_wp2_with fail
      go_ret
      exact ⟨rfl, (q5.trans k3).alloc _⟩
    · obtain ⟨kn, rfl⟩ := Int.eq_ofNat_of_zero_le (show 0 ≤ k by omega)
      have hkn : kn < 128 := by omega
      have hok2 : labOk (((kn : Int) / 32), BitVec.ofNat 32 (kn % 32)) = true := labOk_iff.2 ⟨by omega, by omega, (fit_small (by omega))⟩
      have HOK2 := Lib.hid hok2
      have HKK := Lib.hid (show (kn : Int) / 32 * 32 + W (BitVec.ofNat 32 (kn % 32)) = (kn : Int) by
        unfold W
        rw [BitVec.toNat_ofNat]
        omega)
      clear hk hok2
      refine (label_ok kn _ hkn).mono ?_
      rintro e w3 ⟨rfl, k3⟩
      have q3 := q5.trans k3
      clear k3
      go_wp2_with fail
      refine (number_ok _ _ _ HOK2.out).mono ?_
      rintro e w4 ⟨rfl, k4⟩
      rw [HKK.out]
      have q4 := (q3.alloc _).trans k4
      clear k4
      go_wp2_with fail
      go_ret
      exact ⟨rfl, q4⟩
end Go.Proofs.Ytnnddjanbfamkaa.labelNumberDone
