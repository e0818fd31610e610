/- OrderLong: the walk of the statement. -/
import Derived.Test.YtgcpomdlajoifaaApart
import Derived.Test.YtgcpomdlajoifaaTurned
import Derived.Test.YtgcpomdlajoifaaRolesApartW
namespace Go.Proofs.Ytgcpomdlajoifaa
open Go Go.RowKit
set_option linter.unusedVariables false

theorem Longest.small {n : Nat} {ps : List Pr} {m : Nat} (h : Longest n ps m) : m ≤ n := by
  obtain ⟨_, lv, hv⟩ := h
  exact hv.few
set_option maxRecDepth 100000 in
set_option maxHeartbeats 4000000 in
theorem orderLong_yes (nn : Nat) (A : Option Addr) (len cp : Nat) (ps : List Pr) (w : World) (hp : SlP w A len ps) (hc : ordF nn ps = 0) :
    Calls Try.prog 6 #[.int .i64 nn, .slice A len cp] w fun e w' => e = .returned (.bool true) ∧ Kept w w' := by
  obtain ⟨⟨hn1, hn6, hlen⟩, hrng, hanti⟩ := ordF_zero hc
  have hl20 : len ≤ 20 := by rw [← hp.2]; exact hlen
  have HC := Lib.hid hc
  have HCT := Lib.hid (show ordF nn (turnP ps) = 0 from turn_ord hc)
  have HP := Lib.hid hp
  have HAT := Lib.hid (apart_turn nn ps)
  clear hc hrng hanti hlen hp
  go_enter Try.func6, Try.ntmps6
  go_wp2_with fail
  refine (chain_yes nn A len cp ps _ HP.out HC.out).mono ?_
  rintro e w1 ⟨k1, B1, m1, c1, rfl, hL1⟩
  have HL1 := Lib.hid hL1
  have HK1 := Lib.hid k1
  clear hL1 k1
  go_wp2_with fail
  refine (apart_yes nn A len cp ps _ (HP.out.kept HK1.out) HC.out).mono ?_
  rintro e w2 ⟨rfl, k2⟩
  have HK2 := Lib.hid (HK1.out.trans k2)
  clear k2
  go_wp2_with fail
  refine (ordered_any nn A len cp ps _ (HP.out.kept HK2.out)).mono ?_
  rintro e w3 ⟨rfl, k3⟩
  rw [HC.out]
  have HK3 := Lib.hid (HK2.out.trans k3)
  clear k3
  go_wp2_with fail
  refine (turned_any A len cp ps _ (HP.out.kept HK3.out) (by omega)).mono ?_
  rintro e w4 ⟨A4, c4, rfl, hs4, k4⟩
  have HS4 := Lib.hid hs4
  have HK4 := Lib.hid (HK3.out.trans k4)
  clear hs4 k4
  go_wp2_with fail
  refine (chain_yes nn A4 len c4 (turnP ps) _ HS4.out HCT.out).mono ?_
  rintro e w5 ⟨k5, B5, m5, c5, rfl, hL5⟩
  have hm51 : m5 = m1 := HL1.out.turn hL5
  subst hm51
  have HK5 := Lib.hid (HK4.out.trans k5)
  clear hL5 k5
  go_wp2_with fail
  refine (turned_any A len cp ps _ (HP.out.kept HK5.out) (by omega)).mono ?_
  rintro e w6 ⟨A6, c6, rfl, hs6, k6⟩
  have HS6 := Lib.hid hs6
  have HK6 := Lib.hid (HK5.out.trans k6)
  clear hs6 k6
  go_wp2_with fail
  refine (apart_yes nn A6 len c6 (turnP ps) _ HS6.out HCT.out).mono ?_
  rintro e w7 ⟨rfl, k7⟩
  rw [HAT.out]
  have HK7 := Lib.hid (HK6.out.trans k7)
  have hmul := HL1.out.mul (by omega)
  have hsm := HL1.out.small
  have hbl := rolesApartDone.bitsN_le (apartS nn ps) 32
  have HSZ := Lib.hid (fun W => rolesApartDone.size_any (apartS nn ps) W)
  generalize apartS nn ps = ap at hmul hbl HSZ ⊢
  generalize bitsN ap 32 = bb at hmul hbl HSZ
  have hpr : m5 * bb ≤ 6 * 32 := Nat.mul_le_mul (by omega) hbl
  have ecast : ((m5 : Int) * (bb : Int)) = ((m5 * bb : Nat) : Int) := by rw [Int.natCast_mul]
  have hw1 : wrap64 ((m5 : Int) * (bb : Int)) = (m5 : Int) * (bb : Int) := by rw [ecast]; exact IntWalk.wrap64_in _ ⟨by omega, by omega⟩
  have hw2 : IntKind.i64.wrap ((m5 : Int) * (bb : Int)) = (m5 : Int) * (bb : Int) := (IntWalk.i64_left _).trans hw1
  have hge : decide ((nn : Int) ≤ (m5 : Int) * (bb : Int)) = true := by rw [decide_eq_true_eq, ecast]; omega
  have hge2 : (nn : Int) ≤ (m5 : Int) * (bb : Int) := by rw [ecast]; omega
  have HPR := Lib.hid hpr
  clear k7 hmul hsm hbl hpr ecast
  go_wp2_with fail
  refine (HSZ.out _).mono ?_
  rintro e w8 ⟨rfl, rfl⟩
  go_wp2_with fail
  go_ret
  exact ⟨rfl, HK7.out⟩
set_option maxRecDepth 100000 in
theorem orderLong_walk (n : Int) (A : Option Addr) (len cp : Nat) (ps : List Pr) (w : World) (_wn : (Lit.int .i64 n).wf = true) (hl : len ≤ maxLen) (hp : SlP w A len ps) :
    Calls Try.prog 6 #[.int .i64 n, .slice A len cp] w fun e w' => e = .returned (.bool true) ∧ Kept w w' := by
  by_cases hc : ordF n ps = 0
  · obtain ⟨⟨hn1, hn6, _⟩, _, _⟩ := ordF_zero hc
    obtain ⟨nn, rfl⟩ := Int.eq_ofNat_of_zero_le (show 0 ≤ n by omega)
    exact orderLong_yes nn A len cp ps w hp hc
  · have HC := Lib.hid hc
    have HP := Lib.hid hp
    have hne : (ordF n ps != 0) = true := by rw [bne_iff_ne]; exact hc
    have hnb : (ordF n ps == 0) = false := by rw [beq_eq_false_iff_ne]; exact hc
    clear hc hp
    go_enter Try.func6, Try.ntmps6
    go_wp2_with fail
    refine (chain_no n A len cp ps _ HP.out HC.out).mono ?_
    rintro e w1 ⟨k1, rfl⟩
    have HK1 := Lib.hid k1
    clear k1
    go_wp2_with fail
    refine (apart_no n A len cp ps _ (HP.out.kept HK1.out) HC.out).mono ?_
    rintro e w2 ⟨rfl, k2⟩
    have HK2 := Lib.hid (HK1.out.trans k2)
    clear k2
    go_wp2_with fail
    refine (ordered_any n A len cp ps _ (HP.out.kept HK2.out)).mono ?_
    rintro e w3 ⟨rfl, k3⟩
    rw [hnb]
    have HK3 := Lib.hid (HK2.out.trans k3)
    clear k3
    go_wp2_with fail
    go_ret
    exact ⟨rfl, HK3.out⟩
end Go.Proofs.Ytgcpomdlajoifaa
