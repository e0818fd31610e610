/- FlowRaise: the walk of the statement. -/
import Derived.Test.YtnnddjanbfamkaaFlow8
import Derived.Test.YtnnddjanbfamkaaQuiet
import Derived.BigRegion
namespace Go.Proofs.Ytnnddjanbfamkaa
open Go Go.RowKit
set_option linter.unusedVariables false
set_option linter.unusedSimpArgs false

theorem labOf_out {ls : List Lab} {i : Nat} (h : ls.length ≤ i) : labOf ls i = (0, 0#32) := by
  unfold labOf
  rw [List.getD_eq_getElem?_getD, List.getElem?_eq_none h]
  rfl
def lsOf (n : Nat) (lab : Nat → Lab) : List Lab := (List.range n).map lab
theorem lsOf_len (n : Nat) (lab : Nat → Lab) : (lsOf n lab).length = n := by simp [lsOf]
theorem lsOf_at {n : Nat} (lab : Nat → Lab) {i : Nat} (h : i < (lsOf n lab).length) : (lsOf n lab)[i] = lab i := by simp [lsOf]
theorem labOf_lsOf {n : Nat} {lab : Nat → Lab} (h : ∀ j : Nat, (n : Int) ≤ (j : Int) → lab j = (0, 0#32)) : labOf (lsOf n lab) = lab := by
  funext i
  by_cases hi : i < n
  · rw [labOf_at (by rw [lsOf_len]; exact hi), lsOf_at]
  · rw [labOf_out (by rw [lsOf_len]; omega), h i (by omega)]
theorem LabO.sl {w0 w : World} {L n cl : Nat} {lab : Nat → Lab} (h : LabO w0 w L n cl lab) : SlLab w (some ⟨L, 0, none⟩) n (lsOf n lab) := by
  obtain ⟨A, c, e, hs, _⟩ := Own.form h
  injection e with e
  subst e
  exact ⟨hs, lsOf_len n lab⟩
/-- the first i labels of the one list lie below those of the other -/
def abT (ls ms : List Lab) (n i : Nat) : Bool := (ms.length == n) && (List.range i).all fun j => leB (labOf ls j) (labOf ms j)
theorem abT_succ (ls ms : List Lab) (n i : Nat) : abT ls ms n (i + 1) = (abT ls ms n i && leB (labOf ls i) (labOf ms i)) := by
  unfold abT
  rw [List.range_succ, List.all_append, Bool.and_assoc]
  simp
theorem abT_more {ls ms : List Lab} {n i : Nat} (h : abT ls ms n i = false) : ∀ d, abT ls ms n (i + d) = false := by
  intro d
  induction d with
  | zero => exact h
  | succ d ih => rw [show i + (d + 1) = i + d + 1 by omega, abT_succ, ih]; rfl
theorem abT_all {ls ms : List Lab} {n : Nat} (hl : ls.length = n) (h : abT ls ms n n = true) : ms.length = n ∧ LeL (labOf ls) (labOf ms) := by
  unfold abT at h
  rw [Bool.and_eq_true, beq_iff_eq, List.all_eq_true] at h
  refine ⟨h.1, fun i => ?_⟩
  by_cases hi : i < n
  · exact h.2 i (List.mem_range.2 hi)
  · rw [labOf_out (by omega), labOf_out (by omega)]
    exact leB_refl _
set_option maxRecDepth 100000 in
set_option maxHeartbeats 8000000 in
theorem flowRaise_good (nn : Nat) (ls : List Lab) (A2 : Option Addr) (l2 c2 : Nat) (p : Ln) (A : Option Addr) (c : Nat) (ms : List Lab) (A3 : Option Addr) (l3 c3 : Nat) (w : World) (hl : SlLab w A2 l2 ls) (hs : SlLn w A p) (hm : SlLab w A3 l3 ms) (hml : l3 ≤ maxLen) (h0 : lbF nn ls p = 0) :
    Calls Try.prog 9 #[.int .i64 nn, .slice A2 l2 c2, .slice A p.len c, .slice A3 l3 c3] w fun e w' => e = .returned (.bool true) ∧ Kept w w' := by
  have HRA := Lib.hid (flowRaise_any nn ls A2 l2 c2 p A c w hl hs)
  have HPC := Lib.hid (fun w' (k : Kept w w') => progCheck_any nn p A c w' (hs.kept k))
  obtain ⟨hw, hlen, hok⟩ := lbF_ok h0
  obtain ⟨hn1, hn6, hln⟩ := wrF_ok hw
  rw [hw] at HPC
  have hl2 : l2 = nn := by have := hl.2; omega
  subst hl2
  have HL := Lib.hid hl
  have HS := Lib.hid hs
  have HM := Lib.hid hm
  have H0 := Lib.hid h0
  have HW := Lib.hid hw
  have HLEN := Lib.hid (show ls.length = l2 by omega)
  have hp1 : 1 ≤ l2 := by omega
  have hp6 : l2 ≤ 6 := by omega
  have hnn : ((l2 : Int) != (l2 : Int)) = false := by simp
  have hml2 : l3 ≤ 9223372036854775807 := hml
  clear hl hs hm h0 hw hlen hok hn1 hn6 hln hml
  go_enter Try.func9, Try.ntmps9
  go_wp2_with fail
  refine HRA.out.mono ?_
  rintro e w1 ⟨k1, ⟨hb, rfl⟩ | ⟨_, nn', L, cl, lab, hn', rfl, hlo, hri, hcl⟩⟩
  case inl => exact absurd H0.out hb
  have hn2 : nn' = l2 := by omega
  subst hn2
  have HK1 := Lib.hid k1
  have HLO := Lib.hid hlo
  have HRI := Lib.hid hri
  have HLS := Lib.hid (show labOf (lsOf nn' lab) = lab from labOf_lsOf fun j hj => by rw [hri.out j hj, labOf_out (by have := HLEN.out; omega)])
  have HLB := Lib.hid (show lbF (nn' : Int) (lsOf nn' lab) p = 0 from lbF_eq HW.out (by rw [lsOf_len]) fun x hx => by
    obtain ⟨i, hi, rfl⟩ := List.mem_map.1 hx
    exact hri.ok i (by have := List.mem_range.1 hi; omega))
  have HCL := Lib.hid hcl
  clear k1 hlo hri hcl
  go_wp2_with fail
  refine (HPC.out _ HK1.out).mono ?_
  rintro e w2 ⟨rfl, k2⟩
  have HK2 := Lib.hid (HK1.out.trans k2)
  have HLO2 := Lib.hid (HLO.out.kept k2)
  clear k2
  have HC1 := Lib.hid (flowClean_any nn' (lsOf nn' lab) (some ⟨L, 0, none⟩) nn' cl p A c w2 HLO2.out.sl (HS.out.kept HK2.out))
  unfold RetClean at HC1
  rw [if_pos HLB.out, HLB.out, HLS.out, HCL.out] at HC1
  go_wp2_with fail
  refine HC1.out.mono ?_
  rintro e w3 ⟨rfl, k3⟩
  have HK3 := Lib.hid (HK2.out.trans k3)
  have HLO3 := Lib.hid (HLO2.out.kept k3)
  clear k3
  obtain ⟨eq3, heq3⟩ : ∃ b, (l3 == nn') = b := ⟨_, rfl⟩
  have heq4 : ((l3 : Int) == (nn' : Int)) = eq3 := by rw [← heq3]; cases h : (l3 == nn') <;> simp at h ⊢ <;> omega
  have HA0 := Lib.hid (show abT ls ms nn' 0 = eq3 by unfold abT; rw [HM.out.2, heq3]; simp)
  clear heq3
  go_wp2_with fail
  clear heq4
  go_loopw [13, 14] (fun bv t wr => ∃ i : Nat, i ≤ nn' ∧ t = .int .i64 (i : Nat) ∧ bv = .bool (abT ls ms nn' i) ∧ Kept w3 wr) (fun _ t _ => nn' - (intOf t).toNat)
  case atStart => exact ⟨0, Nat.zero_le _, rfl, by rw [HA0.out], Kept.refl _⟩
  case round =>
    obtain ⟨i, hi, rfl, rfl, hkw⟩ := hrel
    by_cases hlt : i < nn'
    · cases hab : abT ls ms nn' i with
      | true =>
        have HM3 := Lib.hid (show l3 = nn' by
          unfold abT at hab
          rw [Bool.and_eq_true, beq_iff_eq] at hab
          have := hab.1
          have := HM.out.2
          omega)
        have HKX := Lib.hid (HK3.out.trans hkw)
        obtain ⟨b1, o1, hk1, e1, _, a0, a1⟩ := (HL.out.kept HKX.out).get i hlt
        subst e1
        rw [← labOf_at hk1] at a0 a1
        obtain ⟨b2, o2, hk2, e2, _, d0, d1⟩ := (HM.out.kept HKX.out).get i (by rw [HM3.out]; exact hlt)
        subst e2
        rw [← labOf_at hk2] at d0 d1
        have HSU := Lib.hid (abT_succ ls ms nn' i)
        rw [hab] at HSU
        generalize labOf ls i = x at a0 a1 HSU
        generalize labOf ms i = y at d0 d1 HSU
        have HBL := Lib.hid (fun w' => below_any x.1 y.1 x.2 y.2 w')
        obtain ⟨bb, hbb⟩ : ∃ b, leB (x.1, x.2) (y.1, y.2) = b := ⟨_, rfl⟩
        rw [hbb] at HBL
        have HSV := Lib.hid (show abT ls ms nn' (i + 1) = bb by rw [HSU.out, ← hbb]; rfl)
        have j1 : (0 : Int) ≤ (i : Int) := by omega
        have j2 : (i : Int) < (nn' : Int) := by omega
        have j3 : (i : Int) < (l3 : Int) := by have := HM3.out; omega
        have qa0 := kw_cell a0
        have qa1 := kw_cell a1
        have qd0 := kw_cell d0
        have qd1 := kw_cell d1
        have HLTI := Lib.hid hlt
        have HKW := Lib.hid hkw
        clear hbb hab hlt hkw
        go_wp2_with fail
        refine wp_region_kept (by kernel_rfl) (by kernel_rfl) ?_
        repeat (go_big_quiet_step ((go_at_call 21; exact kept_of (HBL.out _))))
        refine wpQuiet_nil ?_
        intro w12 k12
        go_wp2_with fail
        go_roundw
        case rel => exact ⟨i + 1, HLTI.out, by go_num, by rw [HSV.out], HKW.out.trans k12⟩
        case measure => have := HLTI.out; simp [intOf]; omega
      | false =>
        clear hab
        go_wp2_with fail
        clear hlt
        go_loopw [15] (fun t wr => ∃ i : Nat, i ≤ nn' ∧ t = .int .i64 (i : Nat) ∧ Kept w3 wr) (fun t _ => nn' - (intOf t).toNat)
        case atStart => exact ⟨0, Nat.zero_le _, rfl, hkw⟩
        case round =>
          clear hkw
          obtain ⟨i, hi, rfl, hkw⟩ := hrel
          by_cases hlt : i < nn'
          · have HKX := Lib.hid (HK3.out.trans hkw)
            obtain ⟨b1, o1, hk1, e1, _, a0, a1⟩ := (HL.out.kept HKX.out).get i hlt
            subst e1
            rw [← labOf_at hk1] at a0 a1
            obtain ⟨d0, d1⟩ := (HLO3.out.kept hkw).at_ hlt
            have hb := HRI.out.ge i
            generalize labOf ls i = x at a0 a1 hb
            generalize lab i = y at d0 d1 hb
            have HBL := Lib.hid (fun w' => below_any x.1 y.1 x.2 y.2 w')
            rw [show leB (x.1, x.2) (y.1, y.2) = true from hb] at HBL
            have j1 : (0 : Int) ≤ (i : Int) := by omega
            have j2 : (i : Int) < (nn' : Int) := by omega
            have qa0 := kw_cell a0
            have qa1 := kw_cell a1
            have qd0 := kw_cell d0
            have qd1 := kw_cell d1
            have HLTI := Lib.hid hlt
            have HKW := Lib.hid hkw
            clear hb hlt hkw
            go_wp2_with fail
            refine wp_region_kept (by kernel_rfl) (by kernel_rfl) ?_
            repeat (go_big_quiet_step ((go_at_call 21; exact kept_of (HBL.out _))))
            refine wpQuiet_nil ?_
            intro w12 k12
            go_wp2_with fail
            go_roundw
            case rel => exact ⟨i + 1, HLTI.out, by go_num, HKW.out.trans k12⟩
            case measure => have := HLTI.out; simp [intOf]; omega
          · have HC2 := Lib.hid (flowClean_any nn' ms A3 l3 c3 p A c wr (HM.out.kept (HK3.out.trans hkw)) (HS.out.kept (HK3.out.trans hkw)))
            unfold RetClean at HC2
            have HKW := Lib.hid hkw
            clear hkw
            generalize (if lbF (nn' : Int) ms p = 0 then (rsL p (labOf ms) lab0).1 else false) = b2 at HC2
            generalize lbF (nn' : Int) ms p = g2 at HC2
            go_wp2_with fail
            refine HC2.out.mono ?_
            rintro e w4 ⟨rfl, k4⟩
            go_wp2_with fail
            go_ret
            exact ⟨rfl, HK3.out.trans (HKW.out.trans k4)⟩
    · have hin : nn' = i := by omega
      subst hin
      clear hlt
      cases hab : abT ls ms nn' nn' with
      | true =>
        have HABT := Lib.hid hab
        clear hab
        go_wp2_with fail
        go_loopw [15] (fun t wr => ∃ i : Nat, i ≤ nn' ∧ t = .int .i64 (i : Nat) ∧ Kept w3 wr) (fun t _ => nn' - (intOf t).toNat)
        case atStart => exact ⟨0, Nat.zero_le _, rfl, hkw⟩
        case round =>
          clear hkw
          obtain ⟨i, hi, rfl, hkw⟩ := hrel
          by_cases hlt : i < nn'
          · have HKX := Lib.hid (HK3.out.trans hkw)
            obtain ⟨b1, o1, hk1, e1, _, a0, a1⟩ := (HL.out.kept HKX.out).get i hlt
            subst e1
            rw [← labOf_at hk1] at a0 a1
            obtain ⟨d0, d1⟩ := (HLO3.out.kept hkw).at_ hlt
            have hb := HRI.out.ge i
            generalize labOf ls i = x at a0 a1 hb
            generalize lab i = y at d0 d1 hb
            have HBL := Lib.hid (fun w' => below_any x.1 y.1 x.2 y.2 w')
            rw [show leB (x.1, x.2) (y.1, y.2) = true from hb] at HBL
            have j1 : (0 : Int) ≤ (i : Int) := by omega
            have j2 : (i : Int) < (nn' : Int) := by omega
            have qa0 := kw_cell a0
            have qa1 := kw_cell a1
            have qd0 := kw_cell d0
            have qd1 := kw_cell d1
            have HLTI := Lib.hid hlt
            have HKW := Lib.hid hkw
            clear hb hlt hkw
            go_wp2_with fail
            refine wp_region_kept (by kernel_rfl) (by kernel_rfl) ?_
            repeat (go_big_quiet_step ((go_at_call 21; exact kept_of (HBL.out _))))
            refine wpQuiet_nil ?_
            intro w12 k12
            go_wp2_with fail
            go_roundw
            case rel => exact ⟨i + 1, HLTI.out, by go_num, HKW.out.trans k12⟩
            case measure => have := HLTI.out; simp [intOf]; omega
          · have HC2 := Lib.hid (flowClean_any nn' ms A3 l3 c3 p A c wr (HM.out.kept (HK3.out.trans hkw)) (HS.out.kept (HK3.out.trans hkw)))
            unfold RetClean at HC2
            have HKW := Lib.hid hkw
            clear hkw
            by_cases hg : lbF (nn' : Int) ms p = 0
            · rw [if_pos hg, hg] at HC2
              cases hcm : (rsL p (labOf ms) lab0).1 with
              | false =>
                rw [hcm] at HC2
                clear hg hcm
                go_wp2_with fail
                refine HC2.out.mono ?_
                rintro e w4 ⟨rfl, k4⟩
                go_wp2_with fail
                go_ret
                exact ⟨rfl, HK3.out.trans (HKW.out.trans k4)⟩
              | true =>
                rw [hcm] at HC2
                have HLEA := Lib.hid (HRI.out.least (labOf ms) (rsG_clean p lab0 (true, labOf ms) hcm).2.2 (abT_all HLEN.out HABT.out).2)
                have HM3 := Lib.hid (show l3 = nn' by have := (abT_all HLEN.out HABT.out).1; have := HM.out.2; omega)
                clear hg hcm
                go_wp2_with fail
                refine HC2.out.mono ?_
                rintro e w4 ⟨rfl, k4⟩
                have HK4 := Lib.hid (HKW.out.trans k4)
                clear k4
                go_wp2_with fail
                go_loopw [18] (fun t wr => ∃ i : Nat, i ≤ nn' ∧ t = .int .i64 (i : Nat) ∧ Kept w3 wr) (fun t _ => nn' - (intOf t).toNat)
                case atStart => exact ⟨0, Nat.zero_le _, rfl, HK4.out⟩
                case round =>
                  obtain ⟨i, hi, rfl, hkw⟩ := hrel
                  by_cases hlt : i < nn'
                  · have HKX := Lib.hid (HK3.out.trans hkw)
                    obtain ⟨b1, o1, hk1, e1, _, a0, a1⟩ := (HM.out.kept HKX.out).get i (by rw [HM3.out]; exact hlt)
                    subst e1
                    rw [← labOf_at hk1] at a0 a1
                    obtain ⟨d0, d1⟩ := (HLO3.out.kept hkw).at_ hlt
                    have hb := HLEA.out i
                    generalize labOf ms i = x at a0 a1 hb
                    generalize lab i = y at d0 d1 hb
                    have HBL := Lib.hid (fun w' => below_any y.1 x.1 y.2 x.2 w')
                    rw [show leB (y.1, y.2) (x.1, x.2) = true from hb] at HBL
                    have j1 : (0 : Int) ≤ (i : Int) := by omega
                    have j2 : (i : Int) < (nn' : Int) := by omega
                    have j3 : (i : Int) < (l3 : Int) := by have := HM3.out; omega
                    have qa0 := kw_cell a0
                    have qa1 := kw_cell a1
                    have qd0 := kw_cell d0
                    have qd1 := kw_cell d1
                    have HLTI := Lib.hid hlt
                    have HKW3 := Lib.hid hkw
                    clear hb hlt hkw
                    go_wp2_with fail
                    refine wp_region_kept (by kernel_rfl) (by kernel_rfl) ?_
                    repeat (go_big_quiet_step ((go_at_call 21; exact kept_of (HBL.out _))))
                    refine wpQuiet_nil ?_
                    intro w12 k12
                    go_wp2_with fail
                    go_roundw
                    case rel => exact ⟨i + 1, HLTI.out, by go_num, HKW3.out.trans k12⟩
                    case measure => have := HLTI.out; simp [intOf]; omega
                  · go_wp2_with fail
                    go_ret
                    exact ⟨rfl, HK3.out.trans hkw⟩
            · have hgn : (lbF (nn' : Int) ms p != 0) = true := by rw [bne_iff_ne]; exact hg
              rw [if_neg hg] at HC2
              clear hg
              generalize lbF (nn' : Int) ms p = g2 at HC2 hgn
              go_wp2_with fail
              refine HC2.out.mono ?_
              rintro e w4 ⟨rfl, k4⟩
              go_wp2_with fail
              go_ret
              exact ⟨rfl, HK3.out.trans (HKW.out.trans k4)⟩
      | false =>
        clear hab
        go_wp2_with fail
        go_loopw [15] (fun t wr => ∃ i : Nat, i ≤ nn' ∧ t = .int .i64 (i : Nat) ∧ Kept w3 wr) (fun t _ => nn' - (intOf t).toNat)
        case atStart => exact ⟨0, Nat.zero_le _, rfl, hkw⟩
        case round =>
          clear hkw
          obtain ⟨i, hi, rfl, hkw⟩ := hrel
          by_cases hlt : i < nn'
          · have HKX := Lib.hid (HK3.out.trans hkw)
            obtain ⟨b1, o1, hk1, e1, _, a0, a1⟩ := (HL.out.kept HKX.out).get i hlt
            subst e1
            rw [← labOf_at hk1] at a0 a1
            obtain ⟨d0, d1⟩ := (HLO3.out.kept hkw).at_ hlt
            have hb := HRI.out.ge i
            generalize labOf ls i = x at a0 a1 hb
            generalize lab i = y at d0 d1 hb
            have HBL := Lib.hid (fun w' => below_any x.1 y.1 x.2 y.2 w')
            rw [show leB (x.1, x.2) (y.1, y.2) = true from hb] at HBL
            have j1 : (0 : Int) ≤ (i : Int) := by omega
            have j2 : (i : Int) < (nn' : Int) := by omega
            have qa0 := kw_cell a0
            have qa1 := kw_cell a1
            have qd0 := kw_cell d0
            have qd1 := kw_cell d1
            have HLTI := Lib.hid hlt
            have HKW := Lib.hid hkw
            clear hb hlt hkw
            go_wp2_with fail
            refine wp_region_kept (by kernel_rfl) (by kernel_rfl) ?_
            repeat (go_big_quiet_step ((go_at_call 21; exact kept_of (HBL.out _))))
            refine wpQuiet_nil ?_
            intro w12 k12
            go_wp2_with fail
            go_roundw
            case rel => exact ⟨i + 1, HLTI.out, by go_num, HKW.out.trans k12⟩
            case measure => have := HLTI.out; simp [intOf]; omega
          · have HC2 := Lib.hid (flowClean_any nn' ms A3 l3 c3 p A c wr (HM.out.kept (HK3.out.trans hkw)) (HS.out.kept (HK3.out.trans hkw)))
            unfold RetClean at HC2
            have HKW := Lib.hid hkw
            clear hkw
            generalize (if lbF (nn' : Int) ms p = 0 then (rsL p (labOf ms) lab0).1 else false) = b2 at HC2
            generalize lbF (nn' : Int) ms p = g2 at HC2
            go_wp2_with fail
            refine HC2.out.mono ?_
            rintro e w4 ⟨rfl, k4⟩
            go_wp2_with fail
            go_ret
            exact ⟨rfl, HK3.out.trans (HKW.out.trans k4)⟩
theorem flowRaise_walk (n : Int) (A2 : Option Addr) (l2 c2 : Nat) (ls : List Lab) (A : Option Addr) (len c : Nat) (p : Ln) (A3 : Option Addr) (l3 c3 : Nat) (ms : List Lab) (w : World) (_wn : (Lit.int .i64 n).wf = true) (hl2 : l2 ≤ maxLen) (hl : SlLab w A2 l2 ls) (_hp : len ≤ maxLen) (hs : p.len = len ∧ SlLn w A p) (hml : l3 ≤ maxLen) (hm : SlLab w A3 l3 ms) :
    Calls Try.prog 9 #[.int .i64 n, .slice A2 l2 c2, .slice A len c, .slice A3 l3 c3] w fun e w' => e = .returned (.bool true) ∧ Below w.heap.size w w' := by
  suffices h : Calls Try.prog 9 #[.int .i64 n, .slice A2 l2 c2, .slice A len c, .slice A3 l3 c3] w fun e w' => e = .returned (.bool true) ∧ Kept w w' from h.mono fun e w' ⟨h1, h2⟩ => ⟨h1, h2.below⟩
  obtain ⟨rfl, hs⟩ := hs
  by_cases h0 : lbF n ls p = 0
  · obtain ⟨hw, _, _⟩ := lbF_ok h0
    obtain ⟨hn1, _, _⟩ := wrF_ok hw
    obtain ⟨nn, rfl⟩ := Int.eq_ofNat_of_zero_le (show 0 ≤ n by omega)
    exact flowRaise_good nn ls A2 l2 c2 p A c ms A3 l3 c3 w hl hs hm hml h0
  · have HRA := Lib.hid (flowRaise_any n ls A2 l2 c2 p A c w hl hs)
    have HPC := Lib.hid (fun w' (k : Kept w w') => progCheck_any n p A c w' (hs.kept k))
    have H0 := Lib.hid h0
    have hne : (lbF n ls p != 0) = true := by rw [bne_iff_ne]; exact h0
    have HLB := Lib.hid (show lbF n ls p = if wrF n p ≠ 0 then wrF n p else if (ls.length : Int) ≠ n then 3 else if ls.any (fun x => !labOk x) = true then 4 else 0 from rfl)
    have HLN := Lib.hid hl.2
    clear h0 hl hs hm hml _hp _wn
    by_cases hw : wrF n p = 0
    · rw [hw] at HPC
      have hd : ((l2 : Int) != n) = true ∨ ((l2 : Int) != n) = false := by cases ((l2 : Int) != n) <;> simp
      clear hw HLB
      rcases hd with hd | hd
      all_goals
        go_enter Try.func9, Try.ntmps9
        go_wp2_with fail
        refine HRA.out.mono ?_
        rintro e w1 ⟨k1, ⟨_, rfl⟩ | ⟨hz, _⟩⟩
        case inr => exact absurd hz H0.out
        have HK1 := Lib.hid k1
        clear k1
        go_wp2_with fail
        refine (HPC.out _ HK1.out).mono ?_
        rintro e w2 ⟨rfl, k2⟩
        have HK2 := Lib.hid (HK1.out.trans k2)
        clear k2
        go_wp2_with fail
        go_ret
        exact ⟨rfl, HK2.out⟩
    · have hwn : (wrF n p != 0) = true := by rw [bne_iff_ne]; exact hw
      clear hw HLB
      generalize wrF n p = ww at HPC hwn
      go_enter Try.func9, Try.ntmps9
      go_wp2_with fail
      refine HRA.out.mono ?_
      rintro e w1 ⟨k1, ⟨_, rfl⟩ | ⟨hz, _⟩⟩
      case inr => exact absurd hz H0.out
      have HK1 := Lib.hid k1
      clear k1
      go_wp2_with fail
      refine (HPC.out _ HK1.out).mono ?_
      rintro e w2 ⟨rfl, k2⟩
      have HK2 := Lib.hid (HK1.out.trans k2)
      clear k2
      go_wp2_with fail
      go_ret
      exact ⟨rfl, HK2.out⟩
end Go.Proofs.Ytnnddjanbfamkaa
