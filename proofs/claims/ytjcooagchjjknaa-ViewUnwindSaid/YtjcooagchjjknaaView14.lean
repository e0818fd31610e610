/- The walk of view.Parts, of a machine that may be. -/
import Derived.Test.YtjcooagchjjknaaView13
namespace Go.Proofs.Ytjcooagchjjknaa
open Go Go.RowKit
set_option linter.unusedVariables false
set_option linter.unusedSimpArgs false

theorem Row.newZ {w0 w : World} (h : Kept w0 w) (n B : Nat) (hB : w.heap.size = B) : Row w0 (w.alloc (.cells (rep n (.int .i64 0)) 3)) B 3 (prV (fun _ => 0) n) := by
  have := Row.new h 3 (prV (fun _ => 0) n) B hB
  rw [show (prV (fun _ => 0) n).toArray = rep n (.int .i64 0) by rw [← prV_zero]] at this
  exact this
set_option maxRecDepth 100000 in
set_option maxHeartbeats 8000000 in
theorem parts_any (m : Mc) (N U A : Nat) (hid : BitVec 32) (w : World) (hok : McOk w m) (h : MachG w m N U A) (h0 : wrongF m hid = 0) :
    Calls Try.prog 28 #[.agg (mcA m), .int .u32 (W hid)] w (RetPart w m N U A hid) := by
  have hka : Kept w (w.alloc (.cells (mcA m) 63)) := (Kept.refl _).alloc _
  have bx := Box.new w (mcA m) 63 w.heap.size rfl
  have HM := Lib.hid (h.kept hka)
  have HOK := Lib.hid (hok.kept hka)
  have HKA := Lib.hid hka
  obtain ⟨w1, hw1⟩ : ∃ w1, w.alloc (.cells (mcA m) 63) = w1 := ⟨_, rfl⟩
  rw [hw1] at bx HM HKA HOK
  have HBX := Lib.hid bx
  have b0 : w1.cell? ⟨w.heap.size, 0, none⟩ = some (.int .i64 m.n) := bx.at_ 0 rfl
  have b1 : w1.cell? ⟨w.heap.size, 1, none⟩ = some (.int .i64 m.us) := bx.at_ 1 rfl
  have b2 : w1.cell? ⟨w.heap.size, 2, none⟩ = some (.int .i64 m.as) := bx.at_ 2 rfl
  have b3 := bx.at_ 3 (u := .slice m.next.1 m.next.2.1 m.next.2.2.1) rfl
  have b4 := bx.at_ 4 (u := .slice m.sees.1 m.sees.2.1 m.sees.2.2.1) rfl
  have HC := Lib.hid (vwrong_any m hid w1 HOK.out)
  clear h hok hka bx
  rw [h0] at HC
  clear h0
  have HSAME := Lib.hid (fun W (hW : MachG W m N U A) s t hs ht => same_any m N U A hid s t hs ht W hW)
  have e0 := HM.out.n
  have e1 := HM.out.us
  have e2 := HM.out.as
  have e3 := HM.out.ln
  obtain ⟨b, o, en, hb, hcn⟩ := HM.out.next
  have hn6 := HM.out.n1.2
  have hn1 := HM.out.n1.1
  have hu3 := HM.out.u1.2
  have ha2 := HM.out.a1.2
  have hmk := run_make1 (P := Try.prog) 34 3 Try.underlying34 info_i64 rfl (by decide) N (by omega)
  unfold mcA at hw1 HC HSAME ⊢
  rw [e0, e1, e2, e3, en] at hw1 HC HSAME ⊢
  rw [e0] at b0
  rw [e1] at b1
  rw [e2] at b2
  rw [e3, en] at b3
  clear e0 e1 e2 e3 en
  have HN := Lib.hid hcn
  have HB0 := Lib.hid b0
  have HB1 := Lib.hid b1
  have HB2 := Lib.hid b2
  have HB3 := Lib.hid b3
  have HB4 := Lib.hid b4
  clear hb hcn
  go_enter Try.func28, Try.ntmps28
  go_wp2_with fail
  refine HC.out.mono ?_
  rintro e w2 ⟨rfl, hk2⟩
  have HK2 := Lib.hid hk2
  have c0 := (hk2.cell (cell_lt b0)).trans b0
  have hrow := Row.newZ hk2 N w2.heap.size rfl
  have HR0 := Lib.hid (show PtR w1 m N U A hid (N - fixN N fun _ => 0) (.slice (some ⟨w2.heap.size, 0, none⟩) N N) (w2.alloc (.cells (rep N (.int .i64 0)) 3)) from ⟨fun _ => 0, w2.heap.size, rfl, rfl, hrow, fun s _ => ⟨Nat.zero_le _, rfl⟩⟩)
  obtain ⟨M, hM⟩ := measure_ofV (PtR w1 m N U A hid)
  have HMM := Lib.hid hM
  clear b0 b1 b2 b3 b4 hk2 hrow hM
  go_wp2_with fail
  clear c0
  go_loopw [7] (fun v wr => ∃ n, PtR w1 m N U A hid n v wr) (fun v wr => M v wr)
  case atStart => exact ⟨_, HR0.out⟩
  case round =>
    obtain ⟨n0, hn0⟩ := hrel
    obtain ⟨hmin, _⟩ := HMM.out _ _ _ hn0
    obtain ⟨p, Bp, hn, rfl, hprow, hcan⟩ := hmin
    have HMN := Lib.hid hn
    have HPR := Lib.hid hprow
    have HCAN := Lib.hid hcan
    have HKR := Lib.hid hprow.kept0
    have HPC := Lib.hid (fun k (hk : k < N) => hprow.cell k (prV_at p hk))
    have d0 := (HKR.out.cell (cell_lt HB0.out)).trans HB0.out
    have hka2 : Kept wr (wr.alloc (.cells (rep N (.int .i64 0)) 3)) := (Kept.refl _).alloc _
    have d0' := (hka2.cell (cell_lt d0)).trans d0
    obtain ⟨g, hg⟩ : ∃ g, nextP U A (nxF m) (seF m) hid p = g := ⟨_, rfl⟩
    have HG0 := Lib.hid hg
    obtain ⟨Q, hQ⟩ : ∃ Q, alike U A (nxF m) (seF m) hid p = Q := ⟨_, rfl⟩
    have HGS := Lib.hid (show ∀ s, g s = leastF (Q s) s s from fun s => by rw [← hg, ← hQ]; rfl)
    have HQ := Lib.hid (show ∀ s t, Q s t = ((p s == p t && sameTo (seF m) hid s t U) && alikeTo A (nxF m) hid p s t U 0) from fun s t => by rw [← hQ]; rfl)
    clear hg hQ
    have hnrow := Row.newZ (Kept.refl wr) N wr.heap.size rfl
    rw [nxI_none g] at hnrow
    obtain ⟨wP, hwP⟩ : ∃ wP, wP = wr := ⟨_, rfl⟩
    have HNR := Lib.hid (show Row wP (wr.alloc (.cells (rep N (.int .i64 0)) 3)) wr.heap.size 3 (prV (nxI g 0) N) from by rw [hwP]; exact hnrow)
    rw [← hwP] at HPR HKR HPC
    clear hprow hn hcan hn0 hka2 hnrow hwP
    go_wp2_with fail
    clear d0 d0'
    generalize hBn : wr.heap.size = Bn at HNR ⊢
    clear hBn
    go_loopw [28] (fun t wz => ∃ s : Nat, s ≤ N ∧ t = .int .i64 (s : Nat) ∧ Row wP wz Bn 3 (prV (nxI g s) N)) (fun t _ => N - (intOf t).toNat)
    case atStart => exact ⟨0, Nat.zero_le _, rfl, HNR.out⟩
    case round =>
      clear HNR
      obtain ⟨s, hs, rfl, hrow⟩ := hrel
      by_cases hlt : s < N
      · obtain ⟨q0, qf⟩ := hrow.at0 (u := .int .i64 (nxI g s s : Nat)) s (prV_at _ hlt)
        have hrow2 : Row wP (wr.setCell ⟨Bn, s, none⟩ (.int .i64 (s : Int))) Bn 3 (prV (nxJ g s (leastF (Q s) s (s - s))) N) := by
          have := hrow.set s (.int .i64 (s : Int))
          rw [nxI_set] at this
          rw [Nat.sub_self]
          exact this
        have HR2 := Lib.hid hrow2
        have i1 : (0 : Int) ≤ (s : Int) := by omega
        have i2 : (s : Int) < (N : Int) := by omega
        have HLTS := Lib.hid hlt
        clear hrow2 hrow
        go_wp2_with fail
        clear q0 qf
        go_loopw [10] (fun t wz => ∃ r : Nat, r ≤ s ∧ t = .int .i64 ((r : Int) - 1) ∧ Row wP wz Bn 3 (prV (nxJ g s (leastF (Q s) s (s - r))) N)) (fun t _ => (intOf t + 1).toNat)
        case atStart => exact ⟨s, Nat.le_refl _, rfl, HR2.out⟩
        case round =>
          clear HR2
          obtain ⟨r, hr, rfl, hrow3⟩ := hrel
          rcases r with _ | t0
          · have HF3 := Lib.hid (show Row wP wr Bn 3 (prV (nxI g (s + 1)) N) from by
              rw [← nxJ_done, HGS.out s]
              exact hrow3)
            clear hrow3
            rw [show (((0 : Nat) : Int) - 1) = -1 from rfl]
            go_wp2_with fail
            go_roundw
            case rel => exact ⟨s + 1, by omega, by go_num, HF3.out⟩
            case measure => have := HLTS.out; simp [intOf]; omega
          · rw [show (((t0 + 1 : Nat) : Int) - 1) = (t0 : Int) by omega]
            have hK3 := hrow3.kept0
            have HR3 := Lib.hid hrow3
            have hK1 := HKR.out.trans hK3
            have HK3 := Lib.hid hK3
            have HK1 := Lib.hid hK1
            have ht0 : t0 < N := by omega
            have HT0 := Lib.hid ht0
            have i3 : (0 : Int) ≤ (t0 : Int) := by omega
            have i4 : (t0 : Int) < (N : Int) := by omega
            have kp1 := kw_cell ((hK3.cell (cell_lt (HPC.out s hlt))).trans (HPC.out s hlt))
            have kp2 := kw_cell ((hK3.cell (cell_lt (HPC.out t0 ht0))).trans (HPC.out t0 ht0))
            have m0 := kw_cell ((hK1.cell (cell_lt HB0.out)).trans HB0.out)
            have m1 := kw_cell ((hK1.cell (cell_lt HB1.out)).trans HB1.out)
            have m2 := kw_cell ((hK1.cell (cell_lt HB2.out)).trans HB2.out)
            have m3 := kw_cell ((hK1.cell (cell_lt HB3.out)).trans HB3.out)
            have m4 := kw_cell ((hK1.cell (cell_lt HB4.out)).trans HB4.out)
            clear hrow3 hK3 hK1
            go_upto_region 13 with fail
            go_cut [11] from 37 to 112 (fun s11 wx => s11 = .bool (p s == p t0 && sameTo (seF m) hid s t0 U) ∧ Kept wr wx)
            case first =>
              cases hpe : (p s == p t0) with
              | false =>
                have hpi : ((p s : Int) == (p t0 : Int)) = false := by rw [beq_eq_false_iff_ne] at hpe ⊢; omega
                have HPE := Lib.hid hpe
                clear hpe
                refine wp_region_kept (by kernel_rfl) (by kernel_rfl) ?_
                repeat (go_big_quiet_step (fail))
                refine wpQuiet_nil ?_
                intro w5 k5
                go_wp2_with fail
                go_meet
                exact ⟨by rw [HPE.out]; rfl, k5⟩
              | true =>
                have hpi : ((p s : Int) == (p t0 : Int)) = true := by rw [beq_iff_eq] at hpe ⊢; omega
                have HPE := Lib.hid hpe
                clear hpe
                refine wp_region_kept (by kernel_rfl) (by kernel_rfl) ?_
                repeat (go_big_quiet_step ((go_at_call 47; exact kept_of (HSAME.out _ (HM.out.kept (HK1.out.trans (KW.kept _))) s t0 HLTS.out HT0.out))))
                refine wpQuiet_nil ?_
                intro w5 k5
                go_wp2_with fail
                go_meet
                exact ⟨by rw [HPE.out]; rfl, k5⟩
            case rest =>
              clear kp1 kp2 m0 m1 m2 m3 m4
              obtain ⟨rfl, hkc⟩ := hcut
              have HKC := Lib.hid hkc
              have HKCP := Lib.hid (HK3.out.trans hkc)
              have HKC1 := Lib.hid (HK1.out.trans hkc)
              have HQST := Lib.hid (HQ.out s t0)
              generalize (p s == p t0 && sameTo (seF m) hid s t0 U) = bb at HQST ⊢
              have m1 := (HKC1.out.cell (cell_lt HB1.out)).trans HB1.out
              clear hkc
              go_wp2_with fail
              clear m1
              go_loopw [11, 59] (fun v t wq => ∃ c : Nat, c ≤ U ∧ t = .int .i64 (c : Nat) ∧ v = .bool (bb && alikeTo A (nxF m) hid p s t0 c 0) ∧ Kept wc wq) (fun _ t _ => U - (intOf t).toNat)
              case atStart => exact ⟨0, Nat.zero_le _, rfl, by rw [show alikeTo A (nxF m) hid p s t0 0 0 = true from rfl, Bool.and_true], Kept.refl _⟩
              case round =>
                obtain ⟨c, hc, rfl, rfl, hkq⟩ := hrel
                by_cases hlc : c < U
                · have m2 := ((HKC1.out.trans hkq).cell (cell_lt HB2.out)).trans HB2.out
                  have HLC := Lib.hid hlc
                  have HUSER := Lib.hid (alikeTo_user A (nxF m) hid p s t0 c)
                  have HKQ := Lib.hid hkq
                  generalize hb1 : (bb && alikeTo A (nxF m) hid p s t0 c 0) = b1
                  have HB1' := Lib.hid hb1
                  clear hkq hb1
                  go_wp2_with fail
                  clear m2
                  go_loopw [11, 64] (fun v t wy => ∃ d : Nat, d ≤ A ∧ t = .int .i64 (d : Nat) ∧ v = .bool (bb && alikeTo A (nxF m) hid p s t0 c d) ∧ Kept wc wy) (fun _ t _ => A - (intOf t).toNat)
                  case atStart => exact ⟨0, Nat.zero_le _, rfl, by rw [HB1'.out], HKQ.out⟩
                  case round =>
                    obtain ⟨d, hd, rfl, rfl, hky⟩ := hrel
                    by_cases hld : d < A
                    · have HLD := Lib.hid hld
                      have HNB := Lib.hid (show (bb && alikeTo A (nxF m) hid p s t0 c (d + 1)) = ((bb && alikeTo A (nxF m) hid p s t0 c d) && (hid.getLsbD c || p (nxF m s c d) == p (nxF m t0 c d))) by rw [alikeTo_act, Bool.and_assoc])
                      generalize hnb : (bb && alikeTo A (nxF m) hid p s t0 c (d + 1)) = nb at HNB
                      have HNBX := Lib.hid hnb
                      clear hnb
                      generalize (bb && alikeTo A (nxF m) hid p s t0 c d) = ob at HNB ⊢
                      have hKY := HKC1.out.trans hky
                      have hKYP := HKCP.out.trans hky
                      obtain ⟨sb, so, sc, hsb, k1, hk1⟩ := HN.out s HLTS.out
                      obtain ⟨sb2, so2, sc2, hsb2, k2, hk2⟩ := hk1 c hlc
                      have k3 := hk2 d hld
                      obtain ⟨tb, to', tc, htb, k4, hk4⟩ := HN.out t0 HT0.out
                      obtain ⟨tb2, to2, tc2, htb2, k5, hk5⟩ := hk4 c hlc
                      have k6 := hk5 d hld
                      have hx1 := HM.out.lt s c d HLTS.out hlc hld
                      have hx2 := HM.out.lt t0 c d HT0.out hlc hld
                      have z3 := kw_cell ((hKY.cell (cell_lt HB3.out)).trans HB3.out)
                      have z4 := kw_cell ((hKY.cell (cell_lt k1)).trans k1)
                      have z5 := kw_cell ((hKY.cell (cell_lt k2)).trans k2)
                      have z6 := kw_cell ((hKY.cell (cell_lt k3)).trans k3)
                      have z7 := kw_cell ((hKY.cell (cell_lt k4)).trans k4)
                      have z8 := kw_cell ((hKY.cell (cell_lt k5)).trans k5)
                      have z9 := kw_cell ((hKY.cell (cell_lt k6)).trans k6)
                      have y1 := kw_cell ((hKYP.cell (cell_lt (HPC.out _ hx1))).trans (HPC.out _ hx1))
                      have y2 := kw_cell ((hKYP.cell (cell_lt (HPC.out _ hx2))).trans (HPC.out _ hx2))
                      have i5 : (0 : Int) ≤ (c : Int) := by omega
                      have i6 : (c : Int) < (U : Int) := by omega
                      have i7 : (0 : Int) ≤ (d : Int) := by omega
                      have i8 : (d : Int) < (A : Int) := by omega
                      generalize nxF m s c d = n1 at z6 y1 hx1 HNB
                      generalize nxF m t0 c d = n2 at z9 y2 hx2 HNB
                      have i9 : (0 : Int) ≤ (n1 : Int) := by omega
                      have i10 : (n1 : Int) < (N : Int) := by omega
                      have i11 : (0 : Int) ≤ (n2 : Int) := by omega
                      have i12 : (n2 : Int) < (N : Int) := by omega
                      generalize p n1 = p1 at y1 HNB
                      generalize p n2 = p2 at y2 HNB
                      have HKY := Lib.hid hky
                      clear hKY hKYP hk1 hk2 hk4 hk5 k1 k2 k3 k4 k5 k6 hsb hsb2 htb htb2 hx1 hx2 hky
                      cases ob with
                      | false =>
                        have HV := Lib.hid (show nb = false by rw [HNB.out]; rfl)
                        clear HNB
                        go_wp2_with fail
                        refine wp_region_kept (by kernel_rfl) (by kernel_rfl) ?_
                        repeat (go_big_quiet_step (fail))
                        refine wpQuiet_nil ?_
                        intro w6 k6
                        clear z3 z4 z5 z6 z7 z8 z9 y1 y2
                        have K6 := Lib.hid (HKY.out.trans k6)
                        clear k6
                        go_wp2_with fail
                        go_roundw
                        case rel => exact ⟨d + 1, HLD.out, by go_num, by rw [HNBX.out, HV.out], K6.out⟩
                        case measure => have := HLD.out; simp [intOf]; omega
                      | true =>
                        cases hbit : hid.getLsbD c with
                        | true =>
                          have HV := Lib.hid (show nb = true by rw [HNB.out, hbit]; rfl)
                          clear HNB
                          go_wp2_with fail
                          refine wp_region_kept (by kernel_rfl) (by kernel_rfl) ?_
                          repeat (go_big_quiet_step (fail))
                          refine wpQuiet_nil ?_
                          intro w6 k6
                          clear z3 z4 z5 z6 z7 z8 z9 y1 y2
                          have K6 := Lib.hid (HKY.out.trans k6)
                          clear k6
                          go_wp2_with fail
                          go_roundw
                          case rel => exact ⟨d + 1, HLD.out, by go_num, by rw [HNBX.out, HV.out], K6.out⟩
                          case measure => have := HLD.out; simp [intOf]; omega
                        | false =>
                          cases hpp : (p1 == p2) with
                          | true =>
                            have hpi : ((p1 : Int) == (p2 : Int)) = true := by rw [beq_iff_eq] at hpp ⊢; omega
                            have HV := Lib.hid (show nb = true by rw [HNB.out, hbit, hpp]; rfl)
                            clear HNB hpp
                            go_wp2_with fail
                            refine wp_region_kept (by kernel_rfl) (by kernel_rfl) ?_
                            repeat (go_big_quiet_step (fail))
                            refine wpQuiet_nil ?_
                            intro w6 k6
                            clear z3 z4 z5 z6 z7 z8 z9 y1 y2
                            have K6 := Lib.hid (HKY.out.trans k6)
                            clear k6
                            go_wp2_with fail
                            go_roundw
                            case rel => exact ⟨d + 1, HLD.out, by go_num, by rw [HNBX.out, HV.out], K6.out⟩
                            case measure => have := HLD.out; simp [intOf]; omega
                          | false =>
                            have hpi : ((p1 : Int) == (p2 : Int)) = false := by rw [beq_eq_false_iff_ne] at hpp ⊢; omega
                            have HV := Lib.hid (show nb = false by rw [HNB.out, hbit, hpp]; rfl)
                            clear HNB hpp
                            go_wp2_with fail
                            refine wp_region_kept (by kernel_rfl) (by kernel_rfl) ?_
                            repeat (go_big_quiet_step (fail))
                            refine wpQuiet_nil ?_
                            intro w6 k6
                            clear z3 z4 z5 z6 z7 z8 z9 y1 y2
                            have K6 := Lib.hid (HKY.out.trans k6)
                            clear k6
                            go_wp2_with fail
                            go_roundw
                            case rel => exact ⟨d + 1, HLD.out, by go_num, by rw [HNBX.out, HV.out], K6.out⟩
                            case measure => have := HLD.out; simp [intOf]; omega
                    · obtain rfl : d = A := by omega
                      have HKY := Lib.hid hky
                      have HV := Lib.hid (show (bb && alikeTo d (nxF m) hid p s t0 (c + 1) 0) = (bb && alikeTo d (nxF m) hid p s t0 c d) by rw [HUSER.out])
                      generalize (bb && alikeTo d (nxF m) hid p s t0 c d) = b2 at HV ⊢
                      clear hky
                      go_wp2_with fail
                      go_roundw
                      case rel => exact ⟨c + 1, HLC.out, by go_num, by rw [HV.out], HKY.out⟩
                      case measure => have := HLC.out; simp [intOf]; omega
                · obtain rfl : c = U := by omega
                  have hrq := HR3.out.kept (HKC.out.trans hkq)
                  have HRQ := Lib.hid hrq
                  obtain ⟨q0, qf⟩ := hrq.at0 s (prV_at _ HLTS.out)
                  have HST := Lib.hid (HGS.out s)
                  have HQS := Lib.hid (show Q s t0 = (bb && alikeTo A (nxF m) hid p s t0 c 0) from HQST.out)
                  generalize (bb && alikeTo A (nxF m) hid p s t0 c 0) = qb at HQS ⊢
                  have HLF := Lib.hid (show leastF (Q s) s (s - t0) = if Q s t0 = true then t0 else leastF (Q s) s (s - (t0 + 1)) by
                    have := leastF_succ (Q s) s (s - (t0 + 1))
                    rw [show s - (t0 + 1) + 1 = s - t0 by omega, show s - (s - t0) = t0 by omega] at this
                    exact this)
                  have HTS := Lib.hid (show t0 < s by omega)
                  clear hrq hkq
                  cases qb with
                  | false =>
                    have HRN := Lib.hid (show Row wP wr Bn 3 (prV (nxJ g s (leastF (Q s) s (s - t0))) N) by
                      rw [HLF.out, HQS.out]
                      exact HRQ.out)
                    clear q0 qf
                    go_wp2_with fail
                    go_roundw
                    case rel => first | exact ⟨t0, Nat.le_of_lt HTS.out, rfl, HRN.out⟩ | exact ⟨_, ⟨t0, Nat.le_of_lt HTS.out, rfl, HRN.out⟩, rfl⟩ | ((repeat apply Exists.intro); exact ⟨⟨t0, Nat.le_of_lt HTS.out, rfl, HRN.out⟩, rfl⟩)
                    case measure => simp [intOf]
                  | true =>
                    have HRN := Lib.hid (show Row wP (wr.setCell ⟨Bn, s, none⟩ (.int .i64 (t0 : Int))) Bn 3 (prV (nxJ g s (leastF (Q s) s (s - t0))) N) by
                      have := HRQ.out.set s (.int .i64 (t0 : Int))
                      rw [nxJ_set] at this
                      rw [HLF.out, HQS.out]
                      exact this)
                    go_wp2_with fail
                    go_roundw
                    case rel => first | exact ⟨t0, Nat.le_of_lt HTS.out, rfl, HRN.out⟩ | exact ⟨_, ⟨t0, Nat.le_of_lt HTS.out, rfl, HRN.out⟩, rfl⟩ | ((repeat apply Exists.intro); exact ⟨⟨t0, Nat.le_of_lt HTS.out, rfl, HRN.out⟩, rfl⟩)
                    case measure => simp [intOf]
      · obtain rfl : s = N := by omega
        have hrow' : Row wP wr Bn 3 (prV g s) := by rw [← nxI_all g s]; exact hrow
        have HRF := Lib.hid hrow'
        have hKF := hrow'.kept0
        have HE := Lib.hid (equalP_any g p s Bn Bp s s wr (hrow'.sl s (prV_len _ _)) ((HPR.out.kept hKF).sl s (prV_len _ _)) (by omega))
        have HKF := Lib.hid (HKR.out.trans hKF)
        clear hrow hrow' hKF
        cases hall : (List.range s).all (fun i => g i == p i) with
        | true =>
          have HFX := Lib.hid (show ∀ i, i < s → g i = p i from fun i hi => by
            have := List.all_eq_true.1 hall i (List.mem_range.2 hi)
            simpa using this)
          rw [hall] at HE
          clear hall
          go_wp2_with fail
          refine HE.out.mono ?_
          rintro e w5 ⟨rfl, hk5⟩
          go_wp2_with fail
          go_ret2
          refine ⟨HKA.out.trans (HKF.out.trans hk5), p, Bp, s, ⟨HCAN.out, fun i hi => by rw [HG0.out]; exact HFX.out i hi⟩, rfl, ?_⟩
          exact ((HPR.out.kept HRF.out.kept0).sl s (prV_len _ _)).kept hk5
        | false =>
          have HFX := Lib.hid (show ¬ ∀ i, i < s → g i = p i from fun h => by
            rw [List.all_eq_false] at hall
            obtain ⟨i, hi, hh⟩ := hall
            rw [h i (List.mem_range.1 hi)] at hh
            simp at hh)
          rw [hall] at HE
          clear hall
          go_wp2_with fail
          refine HE.out.mono ?_
          rintro e w5 ⟨rfl, hk5⟩
          have HNEW := Lib.hid (show PtR w1 m s U A hid (s - fixN s g) (.slice (some ⟨Bn, 0, none⟩) s s) w5 from ⟨g, Bn, rfl, rfl, by
            have hr := HRF.out.kept hk5
            exact ⟨hr.1, Nat.le_trans HKR.out.size hr.2.1, HKR.out.trans hr.2.2⟩, by rw [← HG0.out]; exact nextP_can⟩)
          have HMORE := Lib.hid (show fixN s p < fixN s g by
            have h := nextP_more (U := U) (A := A) (nx := nxF m) (se := seF m) (hid := hid) HCAN.out
            rw [HG0.out] at h
            rcases Nat.lt_or_ge (fixN s p) (fixN s g) with hlt | hge
            · exact hlt
            · exact absurd (h.2 (by omega)) HFX.out)
          clear hk5
          go_wp2_with fail
          go_roundw
          case rel => exact ⟨_, HNEW.out⟩
          case measure =>
            have h1 := (HMM.out _ _ _ HNEW.out).2
            have h2 := HMN.out
            have h3 := HMORE.out
            have h4 := fixN_le s g
            simp at h1 h2 ⊢
            omega
end Go.Proofs.Ytjcooagchjjknaa
