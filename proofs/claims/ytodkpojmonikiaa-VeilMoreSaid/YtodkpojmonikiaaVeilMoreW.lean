/- VeilMore: the walk of the statement. -/
import Derived.Test.YtodkpojmonikiaaVeil
namespace Go.Proofs.Ytodkpojmonikiaa.veilMoreDone
open Go Go.RowKit
set_option linter.unusedVariables false

set_option maxHeartbeats 2000000 in
theorem veilMore_walk (A : Option Addr) (len cp : Nat) (rs : List Rv) (a b : BitVec 32) (w : World) (hl : len ≤ maxLen) (hf : SlM w A len rs) :
    Calls Try.prog 9 #[.slice A len cp, .int .u32 (W a), .int .u32 (W b)] w fun e w' => e = .returned (.bool true) ∧ Kept w w' := by
  by_cases hc : veilF rs a = 0
  · have hz := veilF_zero hc
    have hm6 := hz.1.2.2
    have hl1 : 1 ≤ len := by have := hz.1.1; rw [hf.len] at this; exact this
    have hl8 : len ≤ 8 := by have := hz.1.2.1; rw [hf.len] at this; exact this
    have HVL := Lib.hid (show (vnums rs).length = len by rw [vnums_len, hf.len])
    have HC := Lib.hid hc
    have HALL := Lib.hid (veilF_ok hc (full_fit (show wid rs < 32 by omega)))
    have HCA := Lib.hid (show crowdN (wid rs) (vnums rs) (1#32 <<< wid rs - 1#32) = len by
      unfold crowdN
      rw [crowdTo_all (fun i hi => by rw [full_bit _ _ (by omega)]; simpa using hi), HVL.out])
    have hx1 : 1 ≤ crowdN (wid rs) (vnums rs) a := crowdTo_pos (by rw [HVL.out]; exact hl1) _ (Nat.le_refl _)
    have hx2 : crowdN (wid rs) (vnums rs) a ≤ crowdN (wid rs) (vnums rs) (a ||| b) := crowdTo_mono (subB_or_left a b) _
    have hx3 : crowdN (wid rs) (vnums rs) a ≤ 8 := by have := crowdTo_le (wid rs) (vnums rs) a (vnums rs).length; rw [HVL.out] at this; unfold crowdN; rw [HVL.out]; omega
    have hx4 : crowdN (wid rs) (vnums rs) (a ||| b) ≤ 8 := by have := crowdTo_le (wid rs) (vnums rs) (a ||| b) (vnums rs).length; rw [HVL.out] at this; unfold crowdN; rw [HVL.out]; omega
    clear hc hz
    obtain ⟨b1, o1, A1, c1, rfl, hb1, hcell⟩ := hf.first hl1
    go_enter Try.func9, Try.ntmps9
    go_wp2_with fail
    refine (crowdX_ok _ _ _ rs a _ hf HC.out).mono ?_
    rintro e w1 ⟨rfl, k1⟩
    have hc1 := (k1.cell (p := ⟨b1, o1, none⟩) hb1).trans hcell
    go_wp2_with fail
    refine (veiled_any _ _ _ rs a _ (hf.kept k1)).mono ?_
    rintro e w2 ⟨rfl, rfl⟩
    rw [HC.out]
    go_wp2_with fail
    refine (crowdX_ok _ _ _ rs (1#32 <<< wid rs - 1#32) _ (hf.kept k1) HALL.out).mono ?_
    rintro e w3 ⟨rfl, k3⟩
    rw [HCA.out]
    have q3 := k1.trans k3
    have d1 : ((len : Int) != (len : Int)) = false := by simp
    clear hc1 hcell
    generalize hX : crowdN (wid rs) (vnums rs) a = x at hx1 hx2 hx3 ⊢
    clear hX
    have d2 : decide ((x : Int) < 1) = false := by simp; omega
    go_wp2_with fail
    by_cases hab : veilF rs (a ||| b) = 0
    · have HAB := Lib.hid hab
      clear hab
      refine (crowdX_ok _ _ _ rs (a ||| b) _ (hf.kept q3) HAB.out).mono ?_
      rintro e w4 ⟨rfl, k4⟩
      have q4 := q3.trans k4
      generalize crowdN (wid rs) (vnums rs) (a ||| b) = y at hx2 hx4
      have d3 : decide ((x : Int) ≤ (y : Int)) = true := by simp; omega
      go_wp2_with fail
      refine (veiled_any _ _ _ rs (a ||| b) _ (hf.kept q4)).mono ?_
      rintro e w5 ⟨rfl, rfl⟩
      rw [HAB.out]
      go_wp2_with fail
      go_ret
      exact ⟨rfl, q4⟩
    · have hne : (veilF rs (a ||| b) != 0) = true := by simpa using hab
      have hnz : (veilF rs (a ||| b) == 0) = false := by simpa using hab
      clear hab
      refine (crowdX_no _ _ _ rs (a ||| b) _ (hf.kept q3) hne).mono ?_
      rintro e w4 ⟨rfl, k4⟩
      have q4 := q3.trans k4
      go_wp2_with fail
      refine (veiled_any _ _ _ rs (a ||| b) _ (hf.kept q4)).mono ?_
      rintro e w5 ⟨rfl, rfl⟩
      go_wp2_with fail
      go_ret
      exact ⟨rfl, q4⟩
  · have hne : (veilF rs a != 0) = true := by simpa using hc
    have hnz : (veilF rs a == 0) = false := by simpa using hc
    clear hc
    go_enter Try.func9, Try.ntmps9
    go_wp2_with fail
    refine (crowdX_no _ _ _ rs a _ hf hne).mono ?_
    rintro e w1 ⟨rfl, k1⟩
    go_wp2_with fail
    refine (veiled_any _ _ _ rs a _ (hf.kept k1)).mono ?_
    rintro e w2 ⟨rfl, rfl⟩
    go_wp2_with fail
    go_ret
    exact ⟨rfl, k1⟩
end Go.Proofs.Ytodkpojmonikiaa.veilMoreDone
