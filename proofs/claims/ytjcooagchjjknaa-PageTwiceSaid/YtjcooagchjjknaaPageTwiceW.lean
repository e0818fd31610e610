/- PageTwice: the walk of the statement. -/
import Derived.Test.YtjcooagchjjknaaPage3
namespace Go.Proofs.Ytjcooagchjjknaa
open Go Go.RowKit
set_option linter.unusedVariables false

theorem pageF_view {ls : List Lf} (h : pageF ls = 0) (who : Lab) : pageF (viewL ls who) = 0 := pageF_zero.2 (viewL_ok (pageF_zero.1 h) who)
theorem page40 {ls : List Lf} (h : pageF ls = 0) : ls.length ≤ 40 := (pageF_zero.1 h).1
theorem pagedB_view {ls : List Lf} {a b : Lab} (h : pageF ls = 0) : pagedB (viewL ls a) b = pagedB ls b := by
  unfold pagedB
  rw [h, pageF_view h]
theorem labOk_meet {la lb : Int} {pa pb : BitVec 32} (ha : labOk (la, pa) = true) (hb : labOk (lb, pb) = true) : labOk (min la lb, pa &&& pb) = true := by
  rw [labOk_iff] at ha hb ⊢
  exact ⟨by omega, by omega, fitB_sub (subB_iff.2 fun i hi => by rw [BitVec.getLsbD_and, Bool.and_eq_true] at hi; exact hi.1) ha.2.2⟩

namespace pageTwiceDone
set_option maxHeartbeats 4000000 in
theorem pageTwice_walk (A : Option Addr) (n c : Nat) (ls : List Lf) (a b : Lab) (w : World) (hn : n ≤ maxLen) (hs : SlL w A n ls) (wa : (Lit.int .i64 a.1).wf = true) (wb : (Lit.int .i64 b.1).wf = true) :
    Calls Try.prog 3 #[.slice A n c, .agg #[.int .i64 a.1, .int .u32 (W a.2)], .agg #[.int .i64 b.1, .int .u32 (W b.2)]] w fun e w' => e = .returned (.bool true) ∧ Below w.heap.size w w' := by
  suffices h : Calls Try.prog 3 #[.slice A n c, .agg #[.int .i64 a.1, .int .u32 (W a.2)], .agg #[.int .i64 b.1, .int .u32 (W b.2)]] w fun e w' => e = .returned (.bool true) ∧ Kept w w' from h.mono fun e w' ⟨h1, h2⟩ => ⟨h1, h2.below⟩
  obtain ⟨la, pa⟩ := a
  obtain ⟨lb, pb⟩ := b
  clear wa wb
  have k0 : Kept w ((w.alloc (.cells #[.int .i64 la, .int .u32 (W pa)] 25)).alloc (.cells #[.int .i64 lb, .int .u32 (W pb)] 25)) := ((Kept.refl _).alloc _).alloc _
  have hb2 := boxes2 (Kept.refl ((w.alloc (.cells #[.int .i64 la, .int .u32 (W pa)] 25)).alloc (.cells #[.int .i64 lb, .int .u32 (W pb)] 25)))
  have e0 := hb2.1.at_ 0 rfl
  have e1 := hb2.1.at_ 1 rfl
  have hHN := Lib.hid hn
  cases hpa : pagedB ls (la, pa)
  · have hne : viewF ls (la, pa) ≠ 0 := fun h => by rw [viewF_iff.1 h] at hpa; cases hpa
    have hneb : (viewF ls (la, pa) != 0) = true := by simpa using hne
    have HP := Lib.hid hpa
    clear hpa
    go_enter Try.func3, Try.ntmps3
    go_wp2_with fail
    refine (viewX_no A n c ls la pa _ (hs.kept k0) hn hne).mono ?_
    rintro e w1 ⟨rfl, k1⟩
    clear e0 e1
    have b1 := hb2.1.kept k1
    have e0 := b1.at_ 0 rfl
    have e1 := b1.at_ 1 rfl
    clear hb2
    go_wp2_with fail
    refine (paged_any A n c ls la pa _ (hs.kept (k0.trans k1)) hHN.out).mono ?_
    rintro e w2 ⟨rfl, k2⟩
    rw [HP.out]
    go_wp2_with fail
    go_ret
    exact ⟨rfl, (k0.trans k1).trans k2⟩
  · have hpf := (pagedB_iff.1 hpa).1
    have hla := (pagedB_iff.1 hpa).2
    have HP := Lib.hid hpa
    have HPF := Lib.hid hpf
    have HLA := Lib.hid hla
    have HV := Lib.hid (pageF_view hpf (la, pa))
    have HVL := Lib.hid (viewL_le ls (la, pa))
    have HV40 := Lib.hid (page40 HV.out)
    have HLN := Lib.hid hs.2
    clear hpa hpf hla
    go_enter Try.func3, Try.ntmps3
    go_wp2_with fail
    refine (viewX_ok A n c ls la pa _ (hs.kept k0) HPF.out HLA.out).mono ?_
    rintro e w1 ⟨A1, c1, rfl, hv1, k1⟩
    clear e0 e1
    have b1 := hb2.1.kept k1
    have b2 := hb2.2.kept k1
    have e0 := b1.at_ 0 rfl
    have e1 := b1.at_ 1 rfl
    clear hb2
    have hle : (viewL ls (la, pa)).length ≤ n := by rw [← HLN.out]; exact HVL.out
    have h40 : (viewL ls (la, pa)).length ≤ maxLen := by have := HV40.out; unfold maxLen; omega
    have hnl : decide (n < (viewL ls (la, pa)).length) = false := by simpa using hle
    generalize hLN : (viewL ls (la, pa)).length = m at hv1 hle h40 hnl
    have HLM := Lib.hid hLN
    clear hLN
    go_wp2_with fail
    refine (paged_any A n c ls la pa _ (hs.kept (k0.trans k1)) hHN.out).mono ?_
    rintro e w2 ⟨rfl, k2⟩
    rw [HP.out]
    have q2 := (k0.trans k1).trans k2
    replace hv1 := hv1.kept k2
    replace b1 := b1.kept k2
    replace b2 := b2.kept k2
    clear k0 k1 k2 e0 e1
    have HHN := Lib.hid hn
    go_wp2_with fail
    refine (pageCheck_any _ _ _ (viewL ls (la, pa)) _ hv1 h40).mono ?_
    rintro e w3 ⟨rfl, k3⟩
    rw [HV.out]
    have q3 := q2.trans k3
    replace hv1 := hv1.kept k3
    replace b1 := b1.kept k3
    replace b2 := b2.kept k3
    clear q2 k3
    have e0 := b2.at_ 0 rfl
    have e1 := b2.at_ 1 rfl
    cases hpb : pagedB ls (lb, pb)
    · have hne : viewF (viewL ls (la, pa)) (lb, pb) ≠ 0 := fun h => by rw [viewF_iff.1 h |> (pagedB_view HPF.out).symm.trans] at hpb; cases hpb
      have hneb : (viewF (viewL ls (la, pa)) (lb, pb) != 0) = true := by simpa using hne
      have HPB := Lib.hid hpb
      clear hpb
      go_wp2_with fail
      refine (viewX_no _ _ _ (viewL ls (la, pa)) lb pb _ hv1 h40 hne).mono ?_
      rintro e w4 ⟨rfl, k4⟩
      replace b2 := b2.kept k4
      clear e0 e1
      have e0 := b2.at_ 0 rfl
      have e1 := b2.at_ 1 rfl
      go_wp2_with fail
      refine (paged_any A n c ls lb pb _ (hs.kept (q3.trans k4)) hHN.out).mono ?_
      rintro e w5 ⟨rfl, k5⟩
      rw [HPB.out]
      go_wp2_with fail
      go_ret
      exact ⟨rfl, (q3.trans k4).trans k5⟩
    · have HPB := Lib.hid hpb
      have HLB := Lib.hid (pagedB_iff.1 hpb).2
      have HTW := Lib.hid (viewL_twice ls (la, pa) (lb, pb))
      have HW := Lib.hid (page40 (pageF_view HV.out (lb, pb)))
      clear hpb
      go_wp2_with fail
      refine (viewX_ok _ _ _ (viewL ls (la, pa)) lb pb _ hv1 HV.out HLB.out).mono ?_
      rintro e w4 ⟨A4, c4, rfl, hv4, k4⟩
      replace b1 := b1.kept k4
      replace b2 := b2.kept k4
      clear e0 e1
      have e0 := b2.at_ 0 rfl
      have e1 := b2.at_ 1 rfl
      have q4 := q3.trans k4
      go_wp2_with fail
      refine (paged_any A n c ls lb pb _ (hs.kept q4) hHN.out).mono ?_
      rintro e w5 ⟨rfl, k5⟩
      rw [HPB.out]
      have q5 := q4.trans k5
      replace b1 := b1.kept k5
      replace b2 := b2.kept k5
      replace hv4 := hv4.kept k5
      clear e0 e1 q4 k5 k4 q3
      have e0 := b2.at_ 0 rfl
      have e1 := b2.at_ 1 rfl
      have f0 := b1.at_ 0 rfl
      have f1 := b1.at_ 1 rfl
      go_wp2_with fail
      refine (common_any la lb pa pb _).mono ?_
      rintro e w6 ⟨rfl, k6⟩
      have q6 := q5.trans k6
      go_wp2_with fail
      refine (viewX_ok A n c ls (min la lb) (pa &&& pb) _ (hs.kept q6) HPF.out (labOk_meet HLA.out HLB.out)).mono ?_
      rintro e w7 ⟨A7, c7, rfl, hv7, k7⟩
      replace hv4 := (hv4.kept k6).kept k7
      have q7 := q6.trans k7
      have HM : viewL ls (min la lb, pa &&& pb) = viewL (viewL ls (la, pa)) (lb, pb) := HTW.out.symm
      rw [HM] at hv7 ⊢
      have HW2 := HW.out
      generalize viewL (viewL ls (la, pa)) (lb, pb) = ll at hv4 hv7 HW2 ⊢
      have HW3 := Lib.hid HW2
      clear HW2 HW
      go_wp2_with fail
      refine (leaves_same _ _ _ _ _ ll _ hv4 hv7 (by have := HW3.out; omega)).mono ?_
      rintro e w8 ⟨rfl, k8⟩
      go_wp2_with fail
      go_ret
      exact ⟨rfl, q7.trans k8⟩
end pageTwiceDone
end Go.Proofs.Ytjcooagchjjknaa
