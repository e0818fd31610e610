/- LabelLaws: the walk of the statement. -/
import Derived.Test.YtnnddjanbfamkaaLabel
namespace Go.Proofs.Ytnnddjanbfamkaa.labelLawsDone
open Go Go.RowKit
set_option linter.unusedVariables false

theorem ok_join {la lb : Int} {pa pb : BitVec 32} (ha : labOk (la, pa) = true) (hb : labOk (lb, pb) = true) : labOk (max la lb, pa ||| pb) = true := by
  rw [labOk_iff] at ha hb ⊢
  exact ⟨by omega, by omega, by rw [fitB_or, ha.2.2, hb.2.2]; rfl⟩
theorem ok_meet {la lb : Int} {pa pb : BitVec 32} (ha : labOk (la, pa) = true) (hb : labOk (lb, pb) = true) : labOk (min la lb, pa &&& pb) = true := by
  rw [labOk_iff] at ha hb ⊢
  exact ⟨by omega, by omega, fitB_sub (subB_iff.2 fun i hi => by rw [BitVec.getLsbD_and, Bool.and_eq_true] at hi; exact hi.1) ha.2.2⟩
theorem ok2 {a b : Lab} (ha : labOk a = true) (hb : labOk b = true) : (labOk a && labOk b) = true := by rw [ha, hb]; rfl
theorem le_join {la lb lc : Int} {pa pb pc : BitVec 32} : leB (max la lb, pa ||| pb) (lc, pc) = (leB (la, pa) (lc, pc) && leB (lb, pb) (lc, pc)) := by
  unfold leB
  rw [subB_or]
  have e : decide (max la lb ≤ lc) = (decide (la ≤ lc) && decide (lb ≤ lc)) := by
    rw [Bool.eq_iff_iff]; simp; omega
  rw [e]
  cases decide (la ≤ lc) <;> cases decide (lb ≤ lc) <;> cases subB pa pc <;> cases subB pb pc <;> rfl
theorem le_meet {la lb lc : Int} {pa pb pc : BitVec 32} : leB (lc, pc) (min la lb, pa &&& pb) = (leB (lc, pc) (la, pa) && leB (lc, pc) (lb, pb)) := by
  unfold leB
  rw [subB_and]
  have e : decide (lc ≤ min la lb) = (decide (lc ≤ la) && decide (lc ≤ lb)) := by
    rw [Bool.eq_iff_iff]; simp; omega
  rw [e]
  cases decide (lc ≤ la) <;> cases decide (lc ≤ lb) <;> cases subB pc pa <;> cases subB pc pb <;> rfl
theorem dist_l {la lb lc : Int} : max (min lc la) (min lc lb) = min lc (max la lb) := by omega
theorem dist_p {pa pb pc : BitVec 32} : pc &&& pa ||| pc &&& pb = pc &&& (pa ||| pb) := by
  apply BitVec.eq_of_getLsbD_eq
  intro i _
  simp only [BitVec.getLsbD_or, BitVec.getLsbD_and]
  cases pa.getLsbD i <;> cases pb.getLsbD i <;> cases pc.getLsbD i <;> rfl

set_option maxRecDepth 100000 in
set_option maxHeartbeats 4000000 in
theorem yes (la lb lc : Int) (pa pb pc : BitVec 32) (w : World) (ha : labOk (la, pa) = true) (hb : labOk (lb, pb) = true) (hc : labOk (lc, pc) = true) :
    Calls Try.prog 4 #[.agg #[.int .i64 la, .int .u32 (W pa)], .agg #[.int .i64 lb, .int .u32 (W pb)], .agg #[.int .i64 lc, .int .u32 (W pc)]] w fun e w' => e = .returned (.bool true) ∧ Kept w w' := by
  have HA := Lib.hid ha
  have HB := Lib.hid hb
  have HC := Lib.hid hc
  have HJ := Lib.hid (ok_join ha hb)
  have HM := Lib.hid (ok_meet ha hb)
  have HCA := Lib.hid (ok_meet hc ha)
  have HCB := Lib.hid (ok_meet hc hb)
  have HLJ := Lib.hid (le_join (la := la) (lb := lb) (lc := lc) (pa := pa) (pb := pb) (pc := pc))
  have HLM := Lib.hid (le_meet (la := la) (lb := lb) (lc := lc) (pa := pa) (pb := pb) (pc := pc))
  have HDL := Lib.hid (dist_l (la := la) (lb := lb) (lc := lc))
  have HDP := Lib.hid (dist_p (pa := pa) (pb := pb) (pc := pc))
  clear ha hb hc
  go_enter Try.func4, Try.ntmps4
  go_wp2_with fail
  refine (join_ok la lb pa pb _ (ok2 HA.out HB.out)).mono ?_
  rintro e w1 ⟨rfl, k1⟩
  have q1 : Kept w w1 := ((((Kept.refl w).alloc _).alloc _).alloc _).trans k1
  obtain ⟨xa, xb, xc⟩ := boxes3 k1
  have ca0 := xa.at_ 0 rfl
  have ca1 := xa.at_ 1 rfl
  have sa := xa.1
  have cb0 := xb.at_ 0 rfl
  have cb1 := xb.at_ 1 rfl
  have sb := xb.1
  have cc0 := xc.at_ 0 rfl
  have cc1 := xc.at_ 1 rfl
  have sc := xc.1
  clear k1
  go_wp2_with fail
  refine (meet_ok la lb pa pb _ (ok2 HA.out HB.out)).mono ?_
  rintro e w2 ⟨rfl, k2⟩
  have q2 : Kept w w2 := q1.trans (((Kept.refl _).alloc _).trans k2)
  replace xa := xa.kept (((Kept.refl _).alloc _).trans k2)
  replace xb := xb.kept (((Kept.refl _).alloc _).trans k2)
  replace xc := xc.kept (((Kept.refl _).alloc _).trans k2)
  have xj := boxes1 k2
  clear ca0 ca1 sa cb0 cb1 sb cc0 cc1 sc
  have ca0 := xa.at_ 0 rfl
  have ca1 := xa.at_ 1 rfl
  have sa := xa.1
  have cb0 := xb.at_ 0 rfl
  have cb1 := xb.at_ 1 rfl
  have sb := xb.1
  have cc0 := xc.at_ 0 rfl
  have cc1 := xc.at_ 1 rfl
  have sc := xc.1
  have cj0 := xj.at_ 0 rfl
  have cj1 := xj.at_ 1 rfl
  have sj := xj.1
  clear k2 q1
  go_wp2_with fail
  refine (refLabCheck_any la pa _).mono ?_
  rintro e w3 ⟨rfl, k3⟩
  rw [labF_zero HA.out]
  have q3 : Kept w w3 := q2.trans (((Kept.refl _).alloc _).trans k3)
  replace xa := xa.kept (((Kept.refl _).alloc _).trans k3)
  replace xb := xb.kept (((Kept.refl _).alloc _).trans k3)
  replace xc := xc.kept (((Kept.refl _).alloc _).trans k3)
  replace xj := xj.kept (((Kept.refl _).alloc _).trans k3)
  have xm := boxes1 k3
  clear ca0 ca1 sa cb0 cb1 sb cc0 cc1 sc cj0 cj1 sj
  have ca0 := xa.at_ 0 rfl
  have ca1 := xa.at_ 1 rfl
  have sa := xa.1
  have cb0 := xb.at_ 0 rfl
  have cb1 := xb.at_ 1 rfl
  have sb := xb.1
  have cc0 := xc.at_ 0 rfl
  have cc1 := xc.at_ 1 rfl
  have sc := xc.1
  have cj0 := xj.at_ 0 rfl
  have cj1 := xj.at_ 1 rfl
  have sj := xj.1
  have cm0 := xm.at_ 0 rfl
  have cm1 := xm.at_ 1 rfl
  have sm := xm.1
  clear k3 q2
  go_wp2_with fail
  refine (refLabCheck_any lb pb _).mono ?_
  rintro e w4 ⟨rfl, k4⟩
  rw [labF_zero HB.out]
  have q4 : Kept w w4 := q3.trans (k4)
  replace xa := xa.kept (k4)
  replace xb := xb.kept (k4)
  replace xc := xc.kept (k4)
  replace xj := xj.kept (k4)
  replace xm := xm.kept (k4)
  clear ca0 ca1 sa cb0 cb1 sb cc0 cc1 sc cj0 cj1 sj cm0 cm1 sm
  have ca0 := xa.at_ 0 rfl
  have ca1 := xa.at_ 1 rfl
  have sa := xa.1
  have cb0 := xb.at_ 0 rfl
  have cb1 := xb.at_ 1 rfl
  have sb := xb.1
  have cc0 := xc.at_ 0 rfl
  have cc1 := xc.at_ 1 rfl
  have sc := xc.1
  have cj0 := xj.at_ 0 rfl
  have cj1 := xj.at_ 1 rfl
  have sj := xj.1
  have cm0 := xm.at_ 0 rfl
  have cm1 := xm.at_ 1 rfl
  have sm := xm.1
  clear k4 q3
  go_wp2_with fail
  refine (refLabCheck_any lc pc _).mono ?_
  rintro e w5 ⟨rfl, k5⟩
  rw [labF_zero HC.out]
  have q5 : Kept w w5 := q4.trans (k5)
  replace xa := xa.kept (k5)
  replace xb := xb.kept (k5)
  replace xc := xc.kept (k5)
  replace xj := xj.kept (k5)
  replace xm := xm.kept (k5)
  clear ca0 ca1 sa cb0 cb1 sb cc0 cc1 sc cj0 cj1 sj cm0 cm1 sm
  have ca0 := xa.at_ 0 rfl
  have ca1 := xa.at_ 1 rfl
  have sa := xa.1
  have cb0 := xb.at_ 0 rfl
  have cb1 := xb.at_ 1 rfl
  have sb := xb.1
  have cc0 := xc.at_ 0 rfl
  have cc1 := xc.at_ 1 rfl
  have sc := xc.1
  have cj0 := xj.at_ 0 rfl
  have cj1 := xj.at_ 1 rfl
  have sj := xj.1
  have cm0 := xm.at_ 0 rfl
  have cm1 := xm.at_ 1 rfl
  have sm := xm.1
  clear k5 q4
  go_wp2_with fail
  refine (under_ok la lc pa pc _ (ok2 HA.out HC.out)).mono ?_
  rintro e w6 ⟨rfl, k6⟩
  have q6 : Kept w w6 := q5.trans (k6)
  replace xa := xa.kept (k6)
  replace xb := xb.kept (k6)
  replace xc := xc.kept (k6)
  replace xj := xj.kept (k6)
  replace xm := xm.kept (k6)
  clear ca0 ca1 sa cb0 cb1 sb cc0 cc1 sc cj0 cj1 sj cm0 cm1 sm
  have ca0 := xa.at_ 0 rfl
  have ca1 := xa.at_ 1 rfl
  have sa := xa.1
  have cb0 := xb.at_ 0 rfl
  have cb1 := xb.at_ 1 rfl
  have sb := xb.1
  have cc0 := xc.at_ 0 rfl
  have cc1 := xc.at_ 1 rfl
  have sc := xc.1
  have cj0 := xj.at_ 0 rfl
  have cj1 := xj.at_ 1 rfl
  have sj := xj.1
  have cm0 := xm.at_ 0 rfl
  have cm1 := xm.at_ 1 rfl
  have sm := xm.1
  clear k6 q5
  go_wp2_with fail
  refine (under_ok lb lc pb pc _ (ok2 HB.out HC.out)).mono ?_
  rintro e w7 ⟨rfl, k7⟩
  have q7 : Kept w w7 := q6.trans (k7)
  replace xa := xa.kept (k7)
  replace xb := xb.kept (k7)
  replace xc := xc.kept (k7)
  replace xj := xj.kept (k7)
  replace xm := xm.kept (k7)
  clear ca0 ca1 sa cb0 cb1 sb cc0 cc1 sc cj0 cj1 sj cm0 cm1 sm
  have ca0 := xa.at_ 0 rfl
  have ca1 := xa.at_ 1 rfl
  have sa := xa.1
  have cb0 := xb.at_ 0 rfl
  have cb1 := xb.at_ 1 rfl
  have sb := xb.1
  have cc0 := xc.at_ 0 rfl
  have cc1 := xc.at_ 1 rfl
  have sc := xc.1
  have cj0 := xj.at_ 0 rfl
  have cj1 := xj.at_ 1 rfl
  have sj := xj.1
  have cm0 := xm.at_ 0 rfl
  have cm1 := xm.at_ 1 rfl
  have sm := xm.1
  clear k7 q6
  go_wp2_with fail
  refine (under_ok _ lc _ pc _ (ok2 HJ.out HC.out)).mono ?_
  rintro e w8 ⟨rfl, k8⟩
  rw [HLJ.out]
  have q8 : Kept w w8 := q7.trans (k8)
  replace xa := xa.kept (k8)
  replace xb := xb.kept (k8)
  replace xc := xc.kept (k8)
  replace xj := xj.kept (k8)
  replace xm := xm.kept (k8)
  clear ca0 ca1 sa cb0 cb1 sb cc0 cc1 sc cj0 cj1 sj cm0 cm1 sm
  have ca0 := xa.at_ 0 rfl
  have ca1 := xa.at_ 1 rfl
  have sa := xa.1
  have cb0 := xb.at_ 0 rfl
  have cb1 := xb.at_ 1 rfl
  have sb := xb.1
  have cc0 := xc.at_ 0 rfl
  have cc1 := xc.at_ 1 rfl
  have sc := xc.1
  have cj0 := xj.at_ 0 rfl
  have cj1 := xj.at_ 1 rfl
  have sj := xj.1
  have cm0 := xm.at_ 0 rfl
  have cm1 := xm.at_ 1 rfl
  have sm := xm.1
  clear k8 q7
  go_wp2_with fail
  refine (under_ok lc _ pc _ _ (ok2 HC.out HM.out)).mono ?_
  rintro e w9 ⟨rfl, k9⟩
  rw [HLM.out]
  have q9 : Kept w w9 := q8.trans (k9)
  replace xa := xa.kept (k9)
  replace xb := xb.kept (k9)
  replace xc := xc.kept (k9)
  replace xj := xj.kept (k9)
  replace xm := xm.kept (k9)
  clear ca0 ca1 sa cb0 cb1 sb cc0 cc1 sc cj0 cj1 sj cm0 cm1 sm
  have ca0 := xa.at_ 0 rfl
  have ca1 := xa.at_ 1 rfl
  have sa := xa.1
  have cb0 := xb.at_ 0 rfl
  have cb1 := xb.at_ 1 rfl
  have sb := xb.1
  have cc0 := xc.at_ 0 rfl
  have cc1 := xc.at_ 1 rfl
  have sc := xc.1
  have cj0 := xj.at_ 0 rfl
  have cj1 := xj.at_ 1 rfl
  have sj := xj.1
  have cm0 := xm.at_ 0 rfl
  have cm1 := xm.at_ 1 rfl
  have sm := xm.1
  clear k9 q8
  go_wp2_with fail
  refine (under_ok lc la pc pa _ (ok2 HC.out HA.out)).mono ?_
  rintro e w10 ⟨rfl, k10⟩
  have q10 : Kept w w10 := q9.trans (k10)
  replace xa := xa.kept (k10)
  replace xb := xb.kept (k10)
  replace xc := xc.kept (k10)
  replace xj := xj.kept (k10)
  replace xm := xm.kept (k10)
  clear ca0 ca1 sa cb0 cb1 sb cc0 cc1 sc cj0 cj1 sj cm0 cm1 sm
  have ca0 := xa.at_ 0 rfl
  have ca1 := xa.at_ 1 rfl
  have sa := xa.1
  have cb0 := xb.at_ 0 rfl
  have cb1 := xb.at_ 1 rfl
  have sb := xb.1
  have cc0 := xc.at_ 0 rfl
  have cc1 := xc.at_ 1 rfl
  have sc := xc.1
  have cj0 := xj.at_ 0 rfl
  have cj1 := xj.at_ 1 rfl
  have sj := xj.1
  have cm0 := xm.at_ 0 rfl
  have cm1 := xm.at_ 1 rfl
  have sm := xm.1
  clear k10 q9
  go_wp2_with fail
  refine (under_ok lc lb pc pb _ (ok2 HC.out HB.out)).mono ?_
  rintro e w11 ⟨rfl, k11⟩
  have q11 : Kept w w11 := q10.trans (k11)
  replace xa := xa.kept (k11)
  replace xb := xb.kept (k11)
  replace xc := xc.kept (k11)
  replace xj := xj.kept (k11)
  replace xm := xm.kept (k11)
  clear ca0 ca1 sa cb0 cb1 sb cc0 cc1 sc cj0 cj1 sj cm0 cm1 sm
  have ca0 := xa.at_ 0 rfl
  have ca1 := xa.at_ 1 rfl
  have sa := xa.1
  have cb0 := xb.at_ 0 rfl
  have cb1 := xb.at_ 1 rfl
  have sb := xb.1
  have cc0 := xc.at_ 0 rfl
  have cc1 := xc.at_ 1 rfl
  have sc := xc.1
  have cj0 := xj.at_ 0 rfl
  have cj1 := xj.at_ 1 rfl
  have sj := xj.1
  have cm0 := xm.at_ 0 rfl
  have cm1 := xm.at_ 1 rfl
  have sm := xm.1
  clear k11 q10
  go_wp2_with fail
  refine (meet_ok lc _ pc _ _ (ok2 HC.out HJ.out)).mono ?_
  rintro e w12 ⟨rfl, k12⟩
  have q12 : Kept w w12 := q11.trans (k12)
  replace xa := xa.kept (k12)
  replace xb := xb.kept (k12)
  replace xc := xc.kept (k12)
  replace xj := xj.kept (k12)
  replace xm := xm.kept (k12)
  clear ca0 ca1 sa cb0 cb1 sb cc0 cc1 sc cj0 cj1 sj cm0 cm1 sm
  have ca0 := xa.at_ 0 rfl
  have ca1 := xa.at_ 1 rfl
  have sa := xa.1
  have cb0 := xb.at_ 0 rfl
  have cb1 := xb.at_ 1 rfl
  have sb := xb.1
  have cc0 := xc.at_ 0 rfl
  have cc1 := xc.at_ 1 rfl
  have sc := xc.1
  have cj0 := xj.at_ 0 rfl
  have cj1 := xj.at_ 1 rfl
  have sj := xj.1
  have cm0 := xm.at_ 0 rfl
  have cm1 := xm.at_ 1 rfl
  have sm := xm.1
  clear k12 q11
  go_wp2_with fail
  refine (meet_ok lc la pc pa _ (ok2 HC.out HA.out)).mono ?_
  rintro e w13 ⟨rfl, k13⟩
  have q13 : Kept w w13 := q12.trans (((Kept.refl _).alloc _).trans k13)
  replace xa := xa.kept (((Kept.refl _).alloc _).trans k13)
  replace xb := xb.kept (((Kept.refl _).alloc _).trans k13)
  replace xc := xc.kept (((Kept.refl _).alloc _).trans k13)
  replace xj := xj.kept (((Kept.refl _).alloc _).trans k13)
  replace xm := xm.kept (((Kept.refl _).alloc _).trans k13)
  have xp := boxes1 k13
  clear ca0 ca1 sa cb0 cb1 sb cc0 cc1 sc cj0 cj1 sj cm0 cm1 sm
  have ca0 := xa.at_ 0 rfl
  have ca1 := xa.at_ 1 rfl
  have sa := xa.1
  have cb0 := xb.at_ 0 rfl
  have cb1 := xb.at_ 1 rfl
  have sb := xb.1
  have cc0 := xc.at_ 0 rfl
  have cc1 := xc.at_ 1 rfl
  have sc := xc.1
  have cj0 := xj.at_ 0 rfl
  have cj1 := xj.at_ 1 rfl
  have sj := xj.1
  have cm0 := xm.at_ 0 rfl
  have cm1 := xm.at_ 1 rfl
  have sm := xm.1
  have cp0 := xp.at_ 0 rfl
  have cp1 := xp.at_ 1 rfl
  have sp := xp.1
  clear k13 q12
  go_wp2_with fail
  refine (meet_ok lc lb pc pb _ (ok2 HC.out HB.out)).mono ?_
  rintro e w14 ⟨rfl, k14⟩
  have q14 : Kept w w14 := q13.trans (((Kept.refl _).alloc _).trans k14)
  replace xa := xa.kept (((Kept.refl _).alloc _).trans k14)
  replace xb := xb.kept (((Kept.refl _).alloc _).trans k14)
  replace xc := xc.kept (((Kept.refl _).alloc _).trans k14)
  replace xj := xj.kept (((Kept.refl _).alloc _).trans k14)
  replace xm := xm.kept (((Kept.refl _).alloc _).trans k14)
  replace xp := xp.kept (((Kept.refl _).alloc _).trans k14)
  have xr := boxes1 k14
  clear ca0 ca1 sa cb0 cb1 sb cc0 cc1 sc cj0 cj1 sj cm0 cm1 sm cp0 cp1 sp
  have ca0 := xa.at_ 0 rfl
  have ca1 := xa.at_ 1 rfl
  have sa := xa.1
  have cb0 := xb.at_ 0 rfl
  have cb1 := xb.at_ 1 rfl
  have sb := xb.1
  have cc0 := xc.at_ 0 rfl
  have cc1 := xc.at_ 1 rfl
  have sc := xc.1
  have cj0 := xj.at_ 0 rfl
  have cj1 := xj.at_ 1 rfl
  have sj := xj.1
  have cm0 := xm.at_ 0 rfl
  have cm1 := xm.at_ 1 rfl
  have sm := xm.1
  have cp0 := xp.at_ 0 rfl
  have cp1 := xp.at_ 1 rfl
  have sp := xp.1
  have cr0 := xr.at_ 0 rfl
  have cr1 := xr.at_ 1 rfl
  have sr := xr.1
  clear k14 q13
  go_wp2_with fail
  refine (join_ok _ _ _ _ _ (ok2 HCA.out HCB.out)).mono ?_
  rintro e w15 ⟨rfl, k15⟩
  rw [HDL.out, HDP.out]
  have q15 : Kept w w15 := q14.trans (((Kept.refl _).alloc _).trans k15)
  replace xp := xp.kept (((Kept.refl _).alloc _).trans k15)
  clear ca0 ca1 sa cb0 cb1 sb cc0 cc1 sc cj0 cj1 sj cm0 cm1 sm cp0 cp1 sp cr0 cr1 sr
  have cp0 := xp.at_ 0 rfl
  have cp1 := xp.at_ 1 rfl
  have hsz := xp.1
  clear k15 q14 HLJ HLM HDL HDP HA HB HC HJ HM HCA HCB xa xb xc xj xm xr xp
  generalize leB (la, pa) (lc, pc) = x
  generalize leB (lb, pb) (lc, pc) = y
  generalize leB (lc, pc) (la, pa) = v
  generalize leB (lc, pc) (lb, pb) = u
  cases x <;> cases v <;> simp only [Bool.true_and, Bool.false_and]
  all_goals
    go_wp2_with fail
    go_ret
    exact ⟨rfl, q15.alloc _⟩

set_option maxRecDepth 100000 in
set_option maxHeartbeats 4000000 in
theorem third (la lb lc : Int) (pa pb pc : BitVec 32) (w : World) (ha : labOk (la, pa) = true) (hb : labOk (lb, pb) = true) (hc : labOk (lc, pc) = false) :
    Calls Try.prog 4 #[.agg #[.int .i64 la, .int .u32 (W pa)], .agg #[.int .i64 lb, .int .u32 (W pb)], .agg #[.int .i64 lc, .int .u32 (W pc)]] w fun e w' => e = .returned (.bool true) ∧ Kept w w' := by
  have HA := Lib.hid ha
  have HB := Lib.hid hb
  have HC := Lib.hid hc
  clear ha hb hc
  go_enter Try.func4, Try.ntmps4
  go_wp2_with fail
  refine (join_ok la lb pa pb _ (ok2 HA.out HB.out)).mono ?_
  rintro e w1 ⟨rfl, k1⟩
  have q1 : Kept w w1 := ((((Kept.refl w).alloc _).alloc _).alloc _).trans k1
  obtain ⟨xa, xb, xc⟩ := boxes3 k1
  have ca0 := xa.at_ 0 rfl
  have ca1 := xa.at_ 1 rfl
  have sa := xa.1
  have cb0 := xb.at_ 0 rfl
  have cb1 := xb.at_ 1 rfl
  have sb := xb.1
  have cc0 := xc.at_ 0 rfl
  have cc1 := xc.at_ 1 rfl
  have sc := xc.1
  clear k1
  go_wp2_with fail
  refine (meet_ok la lb pa pb _ (ok2 HA.out HB.out)).mono ?_
  rintro e w2 ⟨rfl, k2⟩
  have q2 : Kept w w2 := q1.trans (((Kept.refl _).alloc _).trans k2)
  replace xa := xa.kept (((Kept.refl _).alloc _).trans k2)
  replace xb := xb.kept (((Kept.refl _).alloc _).trans k2)
  replace xc := xc.kept (((Kept.refl _).alloc _).trans k2)
  have xj := boxes1 k2
  clear ca0 ca1 sa cb0 cb1 sb cc0 cc1 sc
  have ca0 := xa.at_ 0 rfl
  have ca1 := xa.at_ 1 rfl
  have sa := xa.1
  have cb0 := xb.at_ 0 rfl
  have cb1 := xb.at_ 1 rfl
  have sb := xb.1
  have cc0 := xc.at_ 0 rfl
  have cc1 := xc.at_ 1 rfl
  have sc := xc.1
  have cj0 := xj.at_ 0 rfl
  have cj1 := xj.at_ 1 rfl
  have sj := xj.1
  clear k2 q1
  go_wp2_with fail
  refine (refLabCheck_any la pa _).mono ?_
  rintro e w3 ⟨rfl, k3⟩
  rw [labF_zero HA.out]
  have q3 : Kept w w3 := q2.trans (((Kept.refl _).alloc _).trans k3)
  replace xa := xa.kept (((Kept.refl _).alloc _).trans k3)
  replace xb := xb.kept (((Kept.refl _).alloc _).trans k3)
  replace xc := xc.kept (((Kept.refl _).alloc _).trans k3)
  replace xj := xj.kept (((Kept.refl _).alloc _).trans k3)
  have xm := boxes1 k3
  clear ca0 ca1 sa cb0 cb1 sb cc0 cc1 sc cj0 cj1 sj
  have ca0 := xa.at_ 0 rfl
  have ca1 := xa.at_ 1 rfl
  have sa := xa.1
  have cb0 := xb.at_ 0 rfl
  have cb1 := xb.at_ 1 rfl
  have sb := xb.1
  have cc0 := xc.at_ 0 rfl
  have cc1 := xc.at_ 1 rfl
  have sc := xc.1
  have cj0 := xj.at_ 0 rfl
  have cj1 := xj.at_ 1 rfl
  have sj := xj.1
  have cm0 := xm.at_ 0 rfl
  have cm1 := xm.at_ 1 rfl
  have sm := xm.1
  clear k3 q2
  go_wp2_with fail
  refine (refLabCheck_any lb pb _).mono ?_
  rintro e w4 ⟨rfl, k4⟩
  rw [labF_zero HB.out]
  have q4 : Kept w w4 := q3.trans (k4)
  replace xa := xa.kept (k4)
  replace xb := xb.kept (k4)
  replace xc := xc.kept (k4)
  replace xj := xj.kept (k4)
  replace xm := xm.kept (k4)
  clear ca0 ca1 sa cb0 cb1 sb cc0 cc1 sc cj0 cj1 sj cm0 cm1 sm
  have ca0 := xa.at_ 0 rfl
  have ca1 := xa.at_ 1 rfl
  have sa := xa.1
  have cb0 := xb.at_ 0 rfl
  have cb1 := xb.at_ 1 rfl
  have sb := xb.1
  have cc0 := xc.at_ 0 rfl
  have cc1 := xc.at_ 1 rfl
  have sc := xc.1
  have cj0 := xj.at_ 0 rfl
  have cj1 := xj.at_ 1 rfl
  have sj := xj.1
  have cm0 := xm.at_ 0 rfl
  have cm1 := xm.at_ 1 rfl
  have sm := xm.1
  clear k4 q3
  go_wp2_with fail
  refine (refLabCheck_any lc pc _).mono ?_
  rintro e w5 ⟨rfl, k5⟩
  rw [labF_four HC.out]
  have q5 : Kept w w5 := q4.trans (k5)
  replace xa := xa.kept (k5)
  replace xb := xb.kept (k5)
  replace xc := xc.kept (k5)
  replace xj := xj.kept (k5)
  replace xm := xm.kept (k5)
  clear ca0 ca1 sa cb0 cb1 sb cc0 cc1 sc cj0 cj1 sj cm0 cm1 sm
  have ca0 := xa.at_ 0 rfl
  have ca1 := xa.at_ 1 rfl
  have sa := xa.1
  have cb0 := xb.at_ 0 rfl
  have cb1 := xb.at_ 1 rfl
  have sb := xb.1
  have cc0 := xc.at_ 0 rfl
  have cc1 := xc.at_ 1 rfl
  have sc := xc.1
  have cj0 := xj.at_ 0 rfl
  have cj1 := xj.at_ 1 rfl
  have sj := xj.1
  have cm0 := xm.at_ 0 rfl
  have cm1 := xm.at_ 1 rfl
  have sm := xm.1
  clear k5 q4
  go_wp2_with fail
  go_ret
  exact ⟨rfl, q5⟩

set_option maxRecDepth 100000 in
set_option maxHeartbeats 4000000 in
theorem first (la lb lc : Int) (pa pb pc : BitVec 32) (w : World) (ha : labOk (la, pa) = false) :
    Calls Try.prog 4 #[.agg #[.int .i64 la, .int .u32 (W pa)], .agg #[.int .i64 lb, .int .u32 (W pb)], .agg #[.int .i64 lc, .int .u32 (W pc)]] w fun e w' => e = .returned (.bool true) ∧ Kept w w' := by
  have HA := Lib.hid ha
  have HAB := Lib.hid (show (labOk (la, pa) && labOk (lb, pb)) = false by rw [ha]; rfl)
  clear ha
  go_enter Try.func4, Try.ntmps4
  go_wp2_with fail
  refine (join_no la lb pa pb _ HAB.out).mono ?_
  rintro e w1 ⟨rfl, k1⟩
  have q1 : Kept w w1 := ((((Kept.refl w).alloc _).alloc _).alloc _).trans k1
  obtain ⟨xa, xb, xc⟩ := boxes3 k1
  have ca0 := xa.at_ 0 rfl
  have ca1 := xa.at_ 1 rfl
  have sa := xa.1
  have cb0 := xb.at_ 0 rfl
  have cb1 := xb.at_ 1 rfl
  have sb := xb.1
  have cc0 := xc.at_ 0 rfl
  have cc1 := xc.at_ 1 rfl
  have sc := xc.1
  clear k1
  go_wp2_with fail
  refine (meet_no la lb pa pb _ HAB.out).mono ?_
  rintro e w2 ⟨rfl, k2⟩
  have q2 : Kept w w2 := q1.trans (((Kept.refl _).alloc _).trans k2)
  replace xa := xa.kept (((Kept.refl _).alloc _).trans k2)
  replace xb := xb.kept (((Kept.refl _).alloc _).trans k2)
  replace xc := xc.kept (((Kept.refl _).alloc _).trans k2)
  have xj := boxes1 k2
  clear ca0 ca1 sa cb0 cb1 sb cc0 cc1 sc
  have ca0 := xa.at_ 0 rfl
  have ca1 := xa.at_ 1 rfl
  have sa := xa.1
  have cb0 := xb.at_ 0 rfl
  have cb1 := xb.at_ 1 rfl
  have sb := xb.1
  have cc0 := xc.at_ 0 rfl
  have cc1 := xc.at_ 1 rfl
  have sc := xc.1
  have cj0 := xj.at_ 0 rfl
  have cj1 := xj.at_ 1 rfl
  have sj := xj.1
  clear k2 q1
  go_wp2_with fail
  refine (refLabCheck_any la pa _).mono ?_
  rintro e w3 ⟨rfl, k3⟩
  rw [labF_four HA.out]
  have q3 : Kept w w3 := q2.trans (((Kept.refl _).alloc _).trans k3)
  replace xa := xa.kept (((Kept.refl _).alloc _).trans k3)
  replace xb := xb.kept (((Kept.refl _).alloc _).trans k3)
  replace xc := xc.kept (((Kept.refl _).alloc _).trans k3)
  replace xj := xj.kept (((Kept.refl _).alloc _).trans k3)
  have xm := boxes1 k3
  clear ca0 ca1 sa cb0 cb1 sb cc0 cc1 sc cj0 cj1 sj
  have ca0 := xa.at_ 0 rfl
  have ca1 := xa.at_ 1 rfl
  have sa := xa.1
  have cb0 := xb.at_ 0 rfl
  have cb1 := xb.at_ 1 rfl
  have sb := xb.1
  have cc0 := xc.at_ 0 rfl
  have cc1 := xc.at_ 1 rfl
  have sc := xc.1
  have cj0 := xj.at_ 0 rfl
  have cj1 := xj.at_ 1 rfl
  have sj := xj.1
  have cm0 := xm.at_ 0 rfl
  have cm1 := xm.at_ 1 rfl
  have sm := xm.1
  clear k3 q2
  go_wp2_with fail
  go_ret
  exact ⟨rfl, q3⟩

set_option maxRecDepth 100000 in
set_option maxHeartbeats 4000000 in
theorem second (la lb lc : Int) (pa pb pc : BitVec 32) (w : World) (ha : labOk (la, pa) = true) (hb : labOk (lb, pb) = false) :
    Calls Try.prog 4 #[.agg #[.int .i64 la, .int .u32 (W pa)], .agg #[.int .i64 lb, .int .u32 (W pb)], .agg #[.int .i64 lc, .int .u32 (W pc)]] w fun e w' => e = .returned (.bool true) ∧ Kept w w' := by
  have HA := Lib.hid ha
  have HAB := Lib.hid (show (labOk (la, pa) && labOk (lb, pb)) = false by rw [ha, hb]; rfl)
  have HB := Lib.hid hb
  clear hb
  clear ha
  go_enter Try.func4, Try.ntmps4
  go_wp2_with fail
  refine (join_no la lb pa pb _ HAB.out).mono ?_
  rintro e w1 ⟨rfl, k1⟩
  have q1 : Kept w w1 := ((((Kept.refl w).alloc _).alloc _).alloc _).trans k1
  obtain ⟨xa, xb, xc⟩ := boxes3 k1
  have ca0 := xa.at_ 0 rfl
  have ca1 := xa.at_ 1 rfl
  have sa := xa.1
  have cb0 := xb.at_ 0 rfl
  have cb1 := xb.at_ 1 rfl
  have sb := xb.1
  have cc0 := xc.at_ 0 rfl
  have cc1 := xc.at_ 1 rfl
  have sc := xc.1
  clear k1
  go_wp2_with fail
  refine (meet_no la lb pa pb _ HAB.out).mono ?_
  rintro e w2 ⟨rfl, k2⟩
  have q2 : Kept w w2 := q1.trans (((Kept.refl _).alloc _).trans k2)
  replace xa := xa.kept (((Kept.refl _).alloc _).trans k2)
  replace xb := xb.kept (((Kept.refl _).alloc _).trans k2)
  replace xc := xc.kept (((Kept.refl _).alloc _).trans k2)
  have xj := boxes1 k2
  clear ca0 ca1 sa cb0 cb1 sb cc0 cc1 sc
  have ca0 := xa.at_ 0 rfl
  have ca1 := xa.at_ 1 rfl
  have sa := xa.1
  have cb0 := xb.at_ 0 rfl
  have cb1 := xb.at_ 1 rfl
  have sb := xb.1
  have cc0 := xc.at_ 0 rfl
  have cc1 := xc.at_ 1 rfl
  have sc := xc.1
  have cj0 := xj.at_ 0 rfl
  have cj1 := xj.at_ 1 rfl
  have sj := xj.1
  clear k2 q1
  go_wp2_with fail
  refine (refLabCheck_any la pa _).mono ?_
  rintro e w3 ⟨rfl, k3⟩
  rw [labF_zero HA.out]
  have q3 : Kept w w3 := q2.trans (((Kept.refl _).alloc _).trans k3)
  replace xa := xa.kept (((Kept.refl _).alloc _).trans k3)
  replace xb := xb.kept (((Kept.refl _).alloc _).trans k3)
  replace xc := xc.kept (((Kept.refl _).alloc _).trans k3)
  replace xj := xj.kept (((Kept.refl _).alloc _).trans k3)
  have xm := boxes1 k3
  clear ca0 ca1 sa cb0 cb1 sb cc0 cc1 sc cj0 cj1 sj
  have ca0 := xa.at_ 0 rfl
  have ca1 := xa.at_ 1 rfl
  have sa := xa.1
  have cb0 := xb.at_ 0 rfl
  have cb1 := xb.at_ 1 rfl
  have sb := xb.1
  have cc0 := xc.at_ 0 rfl
  have cc1 := xc.at_ 1 rfl
  have sc := xc.1
  have cj0 := xj.at_ 0 rfl
  have cj1 := xj.at_ 1 rfl
  have sj := xj.1
  have cm0 := xm.at_ 0 rfl
  have cm1 := xm.at_ 1 rfl
  have sm := xm.1
  clear k3 q2
  go_wp2_with fail
  refine (refLabCheck_any lb pb _).mono ?_
  rintro e w4 ⟨rfl, k4⟩
  rw [labF_four HB.out]
  have q4 : Kept w w4 := q3.trans (k4)
  replace xa := xa.kept (k4)
  replace xb := xb.kept (k4)
  replace xc := xc.kept (k4)
  replace xj := xj.kept (k4)
  replace xm := xm.kept (k4)
  clear ca0 ca1 sa cb0 cb1 sb cc0 cc1 sc cj0 cj1 sj cm0 cm1 sm
  have ca0 := xa.at_ 0 rfl
  have ca1 := xa.at_ 1 rfl
  have sa := xa.1
  have cb0 := xb.at_ 0 rfl
  have cb1 := xb.at_ 1 rfl
  have sb := xb.1
  have cc0 := xc.at_ 0 rfl
  have cc1 := xc.at_ 1 rfl
  have sc := xc.1
  have cj0 := xj.at_ 0 rfl
  have cj1 := xj.at_ 1 rfl
  have sj := xj.1
  have cm0 := xm.at_ 0 rfl
  have cm1 := xm.at_ 1 rfl
  have sm := xm.1
  clear k4 q3
  go_wp2_with fail
  go_ret
  exact ⟨rfl, q4⟩

theorem labelLaws_walk (a b c : Int × BitVec 32) (w : World) (_wa : (Lit.int .i64 a.1).wf = true) (_wb : (Lit.int .i64 b.1).wf = true) (_wc : (Lit.int .i64 c.1).wf = true) :
    Calls Try.prog 4 #[.agg #[.int .i64 a.1, .int .u32 (W a.2)], .agg #[.int .i64 b.1, .int .u32 (W b.2)], .agg #[.int .i64 c.1, .int .u32 (W c.2)]] w fun e w' => e = .returned (.bool true) ∧ Kept w w' := by
  cases ha : labOk (a.1, a.2)
  · exact first a.1 b.1 c.1 a.2 b.2 c.2 w ha
  · cases hb : labOk (b.1, b.2)
    · exact second a.1 b.1 c.1 a.2 b.2 c.2 w ha hb
    · cases hc : labOk (c.1, c.2)
      · exact third a.1 b.1 c.1 a.2 b.2 c.2 w ha hb hc
      · exact yes a.1 b.1 c.1 a.2 b.2 c.2 w ha hb hc
end Go.Proofs.Ytnnddjanbfamkaa.labelLawsDone
