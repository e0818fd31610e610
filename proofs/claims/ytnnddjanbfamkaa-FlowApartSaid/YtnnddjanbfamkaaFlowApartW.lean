/- FlowApart: the walk of the statement. -/
import Derived.Test.YtnnddjanbfamkaaFlowB
import Derived.Test.YtnnddjanbfamkaaFlow8
import Derived.Test.YtnnddjanbfamkaaQuiet
import Derived.BigRegion
namespace Go.Proofs.Ytnnddjanbfamkaa
open Go Go.RowKit
set_option linter.unusedVariables false
set_option linter.unusedSimpArgs false

theorem labOf_outA {ls : List Lab} {i : Nat} (h : ls.length ≤ i) : labOf ls i = (0, 0#32) := by
  unfold labOf
  rw [List.getD_eq_getElem?_getD, List.getElem?_eq_none h]
  rfl
theorem eqW_of {ls : List Lab} {who : Lab} {xs ys : List Int} {n : Nat} (hx : xs.length = n) (hy : ys.length = n) (h : ∀ j, j < n → leB (labOf ls j) who = true → varOf xs j = varOf ys j) : EqW who (labOf ls) (varOf xs) (varOf ys) := fun i hi => by
  by_cases hn : i < n
  · exact h i hn hi
  · rw [varOf_out (by omega), varOf_out (by omega)]
set_option maxRecDepth 100000 in
set_option maxHeartbeats 8000000 in
theorem flowApart_good (nn : Nat) (ls : List Lab) (A2 : Option Addr) (l2 c2 : Nat) (p : Ln) (A : Option Addr) (c : Nat) (who : Lab) (xs : List Int) (A4 : Option Addr) (l4 c4 : Nat) (ys : List Int) (A5 : Option Addr) (l5 c5 : Nat) (w : World)
    (hl : SlLab w A2 l2 ls) (hs : SlLn w A p) (hx : SlI w A4 l4 xs) (hy : SlI w A5 l5 ys) (h0 : lbF nn ls p = 0) (h1 : rnF nn p xs = 0) (h2 : rnF nn p ys = 0) :
    Calls Try.prog 10 #[.int .i64 nn, .slice A2 l2 c2, .slice A p.len c, .agg #[.int .i64 who.1, .int .u32 (W who.2)], .slice A4 l4 c4, .slice A5 l5 c5] w fun e w' => e = .returned (.bool true) ∧ Kept w w' := by
  have hka : Kept w (w.alloc (.cells #[.int .i64 who.1, .int .u32 (W who.2)] 24)) := (Kept.refl _).alloc _
  have hbx := Box.new w #[.int .i64 who.1, .int .u32 (W who.2)] 24 w.heap.size rfl
  have HCL := Lib.hid (flowClean_any nn ls A2 l2 c2 p A c _ (hl.kept hka) (hs.kept hka))
  have HRX := Lib.hid (fun w' (k : Kept w w') => flowRun_any nn p A c xs A4 l4 c4 w' (hs.kept k) (hx.kept k))
  have HRY := Lib.hid (fun w' (k : Kept w w') => flowRun_any nn p A c ys A5 l5 c5 w' (hs.kept k) (hy.kept k))
  have HPC := Lib.hid (fun w' (k : Kept w w') => progCheck_any nn p A c w' (hs.kept k))
  obtain ⟨hw, hlen, hok⟩ := lbF_ok h0
  obtain ⟨hn1, hn6, hln⟩ := wrF_ok hw
  rw [hw] at HPC
  unfold RetClean at HCL
  rw [if_pos h0, h0] at HCL
  have hl2 : l2 = nn := by have := hl.2; omega
  have hl4 : l4 = nn := by have := hx.2; have := (rnF_ok h1).2.1; omega
  have hl5 : l5 = nn := by have := hy.2; have := (rnF_ok h2).2.1; omega
  have HXL := Lib.hid (show xs.length = nn by have := (rnF_ok h1).2.1; omega)
  have HYL := Lib.hid (show ys.length = nn by have := (rnF_ok h2).2.1; omega)
  have HLN := Lib.hid hln
  have HBX := Lib.hid hbx
  have HKA := Lib.hid hka
  have HL := Lib.hid hl
  have HX := Lib.hid hx
  have HY := Lib.hid hy
  have H1 := Lib.hid h1
  have H2 := Lib.hid h2
  have hp1 : 1 ≤ nn := by omega
  have hp6 : nn ≤ 6 := by omega
  have HCLP := Lib.hid (fun (h : (rsL p (labOf ls) lab0).1 = true) => (rsG_clean p lab0 (true, labOf ls) h).2.2)
  clear hl hs hx hy h0 h1 h2 hw hlen hok hn1 hn6 hln hbx hka
  subst hl2 hl4 hl5
  generalize (rsL p (labOf ls) lab0).1 = is at HCL HCLP
  have hnn : ((l5 : Int) != (l5 : Int)) = false := by simp
  go_enter Try.func10, Try.ntmps10
  go_wp2_with fail
  refine HCL.out.mono ?_
  rintro e w1 ⟨rfl, k1⟩
  have HK1 := Lib.hid (HKA.out.trans k1)
  have HB1 := Lib.hid (HBX.out.kept k1)
  clear k1
  go_wp2_with fail
  refine (HRX.out _ HK1.out).mono ?_
  rintro e w2 ⟨k2, ⟨hb, rfl⟩ | ⟨_, n2, V2, cv2, hn2, rfl, hv2⟩⟩
  case inl => exact absurd H1.out hb
  have hn2' : n2 = l5 := by omega
  subst hn2'
  have HK2 := Lib.hid (HK1.out.trans k2)
  have HB2 := Lib.hid (HB1.out.kept k2)
  have HV2 := Lib.hid hv2
  clear k2 hv2
  go_wp2_with fail
  refine (HRY.out _ HK2.out).mono ?_
  rintro e w3 ⟨k3, ⟨hb, rfl⟩ | ⟨_, n3, V3, cv3, hn3, rfl, hv3⟩⟩
  case inl => exact absurd H2.out hb
  have hn3' : n3 = n2 := by omega
  subst hn3'
  have HK3 := Lib.hid (HK2.out.trans k3)
  have HB3 := Lib.hid (HB2.out.kept k3)
  have HV23 := Lib.hid (HV2.out.kept k3)
  have HV3 := Lib.hid hv3
  clear k3 hv3
  go_wp2_with fail
  refine (HPC.out _ HK3.out).mono ?_
  rintro e w4 ⟨rfl, k4⟩
  have HK4 := Lib.hid (HK3.out.trans k4)
  have HB4 := Lib.hid (HB3.out.kept k4)
  have HV24 := Lib.hid (HV23.out.kept k4)
  have HV34 := Lib.hid (HV3.out.kept k4)
  clear k4
  go_wp2_with fail
  generalize w.heap.size = Z at HB4 ⊢
  go_loopw [19] (fun t wr => ∃ i : Nat, i ≤ n3 ∧ t = .int .i64 (i : Nat) ∧ Hid (∀ j, j < i → leB (labOf ls j) who = true → varOf xs j = varOf ys j) ∧ Kept w4 wr) (fun t _ => n3 - (intOf t).toNat)
  case atStart => exact ⟨0, Nat.zero_le _, rfl, Lib.hid fun j hj => by omega, Kept.refl _⟩
  case round =>
    obtain ⟨i, hi, rfl, HEQ, hkw⟩ := hrel
    by_cases hlt : i < n3
    · have HKX := Lib.hid (HK4.out.trans hkw)
      obtain ⟨b1, o1, hk1, e1, _, a0, a1⟩ := (HL.out.kept HKX.out).get i hlt
      subst e1
      rw [← labOf_at hk1] at a0 a1
      obtain ⟨b2, o2, hk2, e2, _, v0⟩ := (HX.out.kept HKX.out).get i hlt
      subst e2
      rw [← varOf_at hk2] at v0
      obtain ⟨b3, o3, hk3, e3, _, u0⟩ := (HY.out.kept HKX.out).get i hlt
      subst e3
      rw [← varOf_at hk3] at u0
      have z0 := (HB4.out.kept hkw).at_ 0 (u := .int .i64 who.1) rfl
      have z1 := (HB4.out.kept hkw).at_ 1 (u := .int .u32 (W who.2)) rfl
      have HNX := Lib.hid (fun (h : leB (labOf ls i) who = true → varOf xs i = varOf ys i) => show ∀ j, j < i + 1 → leB (labOf ls j) who = true → varOf xs j = varOf ys j from fun j hj => by
        by_cases e : j = i
        · subst e; exact h
        · exact HEQ.out j (by omega))
      generalize labOf ls i = x at a0 a1 HNX
      generalize varOf xs i = vx at v0 HNX
      generalize varOf ys i = vy at u0 HNX
      have HBL := Lib.hid (fun w' => below_any x.1 who.1 x.2 who.2 w')
      obtain ⟨bb, hbb⟩ : ∃ b, leB (x.1, x.2) (who.1, who.2) = b := ⟨_, rfl⟩
      rw [hbb] at HBL
      have HBB := Lib.hid (show leB x who = bb from hbb)
      have j1 : (0 : Int) ≤ (i : Int) := by omega
      have j2 : (i : Int) < (n3 : Int) := by omega
      have qa0 := kw_cell a0
      have qa1 := kw_cell a1
      have qv0 := kw_cell v0
      have qu0 := kw_cell u0
      have qz0 := kw_cell z0
      have qz1 := kw_cell z1
      have HLTI := Lib.hid hlt
      have HKW := Lib.hid hkw
      clear hbb hlt hkw
      obtain ⟨nb, hnb⟩ : ∃ b, (vx != vy) = b := ⟨_, rfl⟩
      have HNB := Lib.hid hnb
      cases bb
      all_goals
        cases nb
        all_goals
          go_wp2_with fail
          refine wp_region_kept (by kernel_rfl) (by kernel_rfl) ?_
          repeat (go_big_quiet_step ((go_at_call 21; exact kept_of (HBL.out _))))
          refine wpQuiet_nil ?_
          intro w12 k12
          go_wp2_with fail
      · go_roundw
        case rel => exact ⟨i + 1, HLTI.out, by go_num, Lib.hid (HNX.out fun h => by rw [HBB.out] at h; cases h), HKW.out.trans k12⟩
        case measure => have := HLTI.out; simp [intOf]; omega
      · go_roundw
        case rel => exact ⟨i + 1, HLTI.out, by go_num, Lib.hid (HNX.out fun h => by rw [HBB.out] at h; cases h), HKW.out.trans k12⟩
        case measure => have := HLTI.out; simp [intOf]; omega
      · go_roundw
        case rel => exact ⟨i + 1, HLTI.out, by go_num, Lib.hid (HNX.out fun _ => by have := HNB.out; simpa using this), HKW.out.trans k12⟩
        case measure => have := HLTI.out; simp [intOf]; omega
      · go_ret
        exact ⟨rfl, HK4.out.trans (HKW.out.trans k12)⟩
    · have hin : n3 = i := by omega
      have HEW := Lib.hid (eqW_of HXL.out HYL.out (by rw [hin]; exact HEQ.out))
      have HEND := Lib.hid (fun (h : is = true) => run_low p lab0 (HCLP.out h) HLN.out _ _ HEW.out)
      have HKW := Lib.hid hkw
      clear hkw hin
      go_wp2_with fail
      go_loopw [20] (fun t wr => ∃ i : Nat, i ≤ n3 ∧ t = .int .i64 (i : Nat) ∧ Kept w4 wr) (fun t _ => n3 - (intOf t).toNat)
      case atStart => exact ⟨0, Nat.zero_le _, rfl, HKW.out⟩
      case round =>
        clear HKW
        obtain ⟨i, hi, rfl, hkw⟩ := hrel
        by_cases hlt : i < n3
        · have HKX := Lib.hid (HK4.out.trans hkw)
          obtain ⟨b1, o1, hk1, e1, _, a0, a1⟩ := (HL.out.kept HKX.out).get i hlt
          subst e1
          rw [← labOf_at hk1] at a0 a1
          have v0 := (HV24.out.kept hkw).at_ hlt
          have u0 := (HV34.out.kept hkw).at_ hlt
          have z0 := (HB4.out.kept hkw).at_ 0 (u := .int .i64 who.1) rfl
          have z1 := (HB4.out.kept hkw).at_ 1 (u := .int .u32 (W who.2)) rfl
          have HEI := Lib.hid (fun (h : is = true) (hb : leB (labOf ls i) who = true) => HEND.out h i hb)
          generalize labOf ls i = x at a0 a1 HEI
          generalize runL p (varOf xs) i = vx at v0 HEI
          generalize runL p (varOf ys) i = vy at u0 HEI
          have HBL := Lib.hid (fun w' => below_any x.1 who.1 x.2 who.2 w')
          obtain ⟨bb, hbb⟩ : ∃ b, leB (x.1, x.2) (who.1, who.2) = b := ⟨_, rfl⟩
          rw [hbb] at HBL
          have HBB := Lib.hid (show leB x who = bb from hbb)
          have j1 : (0 : Int) ≤ (i : Int) := by omega
          have j2 : (i : Int) < (n3 : Int) := by omega
          have qa0 := kw_cell a0
          have qa1 := kw_cell a1
          have qv0 := kw_cell v0
          have qu0 := kw_cell u0
          have qz0 := kw_cell z0
          have qz1 := kw_cell z1
          have HLTI := Lib.hid hlt
          have HKW := Lib.hid hkw
          clear hbb hlt hkw
          cases is with
          | false =>
            go_wp2_with fail
            refine wp_region_kept (by kernel_rfl) (by kernel_rfl) ?_
            repeat (go_big_quiet_step ((go_at_call 21; exact kept_of (HBL.out _))))
            refine wpQuiet_nil ?_
            intro w12 k12
            go_wp2_with fail
            go_roundw
            case rel => exact ⟨i + 1, HLTI.out, by go_num, HKW.out.trans k12⟩
            case measure => have := HLTI.out; simp [intOf]; omega
          | true =>
            cases bb with
            | false =>
              go_wp2_with fail
              refine wp_region_kept (by kernel_rfl) (by kernel_rfl) ?_
              repeat (go_big_quiet_step ((go_at_call 21; exact kept_of (HBL.out _))))
              refine wpQuiet_nil ?_
              intro w12 k12
              go_wp2_with fail
              go_roundw
              case rel => exact ⟨i + 1, HLTI.out, by go_num, HKW.out.trans k12⟩
              case measure => have := HLTI.out; simp [intOf]; omega
            | true =>
              have hvv : vx = vy := HEI.out rfl HBB.out
              subst hvv
              have hne : (vx != vx) = false := by simp
              go_wp2_with fail
              refine wp_region_kept (by kernel_rfl) (by kernel_rfl) ?_
              repeat (go_big_quiet_step ((go_at_call 21; exact kept_of (HBL.out _))))
              refine wpQuiet_nil ?_
              intro w12 k12
              go_wp2_with fail
              go_roundw
              case rel => exact ⟨i + 1, HLTI.out, by go_num, HKW.out.trans k12⟩
              case measure => have := HLTI.out; simp [intOf]; omega
        · go_wp2_with fail
          go_ret
          exact ⟨rfl, HK4.out.trans hkw⟩
theorem RetFRun.code {w : World} {n : Int} {p : Ln} {xs : List Int} {e : Ending} {w' : World} (h : RetFRun w n p xs e w') : Kept w w' ∧ ∃ sv, e = .returned (.tuple #[sv, .int .i64 (rnF n p xs)]) := by
  obtain ⟨k, ⟨_, rfl⟩ | ⟨h0, nn, V, cv, _, rfl, _⟩⟩ := h
  · exact ⟨k, _, rfl⟩
  · exact ⟨k, _, by rw [h0]⟩
theorem codes_all {n : Int} {p : Ln} {ls : List Lab} {xs : List Int} (h : wrF n p ≠ 0) : lbF n ls p ≠ 0 ∧ rnF n p xs ≠ 0 := by
  unfold lbF rnF
  rw [if_pos h, if_pos h]
  exact ⟨h, h⟩
set_option maxRecDepth 100000 in
set_option maxHeartbeats 8000000 in
theorem flowApart_bad (n : Int) (ls : List Lab) (A2 : Option Addr) (l2 c2 : Nat) (p : Ln) (A : Option Addr) (c : Nat) (who : Lab) (xs : List Int) (A4 : Option Addr) (l4 c4 : Nat) (ys : List Int) (A5 : Option Addr) (l5 c5 : Nat) (w : World)
    (hl : SlLab w A2 l2 ls) (hs : SlLn w A p) (hx : SlI w A4 l4 xs) (hy : SlI w A5 l5 ys) (h : ¬ (lbF n ls p = 0 ∧ rnF n p xs = 0 ∧ rnF n p ys = 0)) :
    Calls Try.prog 10 #[.int .i64 n, .slice A2 l2 c2, .slice A p.len c, .agg #[.int .i64 who.1, .int .u32 (W who.2)], .slice A4 l4 c4, .slice A5 l5 c5] w fun e w' => e = .returned (.bool true) ∧ Kept w w' := by
  have hka : Kept w (w.alloc (.cells #[.int .i64 who.1, .int .u32 (W who.2)] 24)) := (Kept.refl _).alloc _
  have HCL := Lib.hid (flowClean_any n ls A2 l2 c2 p A c _ (hl.kept hka) (hs.kept hka))
  have HRX := Lib.hid (fun w' (k : Kept w w') => (flowRun_any n p A c xs A4 l4 c4 w' (hs.kept k) (hx.kept k)).mono fun _ _ => RetFRun.code)
  have HRY := Lib.hid (fun w' (k : Kept w w') => (flowRun_any n p A c ys A5 l5 c5 w' (hs.kept k) (hy.kept k)).mono fun _ _ => RetFRun.code)
  have HPC := Lib.hid (fun w' (k : Kept w w') => progCheck_any n p A c w' (hs.kept k))
  have HKA := Lib.hid hka
  unfold RetClean at HCL
  have hcon : (wrF n p != 0) = true → (lbF n ls p != 0) = true ∧ (rnF n p xs != 0) = true ∧ (rnF n p ys != 0) = true := fun hw => by
    have hw2 : wrF n p ≠ 0 := by simpa using hw
    have a := codes_all (ls := ls) (xs := xs) hw2
    have b := codes_all (ls := ls) (xs := ys) hw2
    exact ⟨by rw [bne_iff_ne]; exact a.1, by rw [bne_iff_ne]; exact a.2, by rw [bne_iff_ne]; exact b.2⟩
  have hsome : ¬ ((lbF n ls p != 0) = false ∧ (rnF n p xs != 0) = false ∧ (rnF n p ys != 0) = false) := fun ⟨a, b, d⟩ => h ⟨by simpa using a, by simpa using b, by simpa using d⟩
  have his : (lbF n ls p != 0) = true → (if lbF n ls p = 0 then (rsL p (labOf ls) lab0).1 else false) = false := fun hh => by
    rw [if_neg (by simpa using hh)]
  have heq : (lbF n ls p == 0) = !(lbF n ls p != 0) := by cases hh : (lbF n ls p == 0) <;> simp [bne, hh]
  generalize (if lbF n ls p = 0 then (rsL p (labOf ls) lab0).1 else false) = is at HCL his
  generalize lbF n ls p = eL at HCL hcon hsome his heq
  generalize rnF n p xs = eX at HRX hcon hsome
  generalize rnF n p ys = eY at HRY hcon hsome
  generalize wrF n p = ew at HPC hcon
  clear h hl hs hx hy hka
  cases hL : (eL != 0)
  all_goals
    rw [hL] at hcon hsome his heq
    cases hX : (eX != 0)
    all_goals
      rw [hX] at hcon hsome
      cases hY : (eY != 0)
      all_goals
        rw [hY] at hcon hsome
        cases hW : (ew != 0)
        all_goals
          rw [hW] at hcon
          first
          | (exfalso; simp at hcon hsome; done)
          | (exfalso; simp at hcon; done)
          | (exfalso; simp at hsome; done)
          | (simp only [Bool.not_true, Bool.not_false] at heq
             try (have his2 := his rfl; subst his2)
             clear hcon hsome his
             go_enter Try.func10, Try.ntmps10
             go_wp2_with fail
             refine HCL.out.mono ?_
             rintro e w1 ⟨rfl, k1⟩
             have HK1 := Lib.hid (HKA.out.trans k1)
             clear k1
             go_wp2_with fail
             refine (HRX.out _ HK1.out).mono ?_
             rintro e w2 ⟨k2, sv, rfl⟩
             have HK2 := Lib.hid (HK1.out.trans k2)
             clear k2
             go_wp2_with fail
             refine (HRY.out _ HK2.out).mono ?_
             rintro e w3 ⟨k3, sv2, rfl⟩
             have HK3 := Lib.hid (HK2.out.trans k3)
             clear k3
             go_wp2_with fail
             refine (HPC.out _ HK3.out).mono ?_
             rintro e w4 ⟨rfl, k4⟩
             have HK4 := Lib.hid (HK3.out.trans k4)
             clear k4
             go_wp2_with fail
             go_ret
             exact ⟨rfl, HK4.out⟩)
theorem flowApart_walk (n : Int) (A2 : Option Addr) (l2 c2 : Nat) (ls : List Lab) (A : Option Addr) (len c : Nat) (p : Ln) (who : Int × BitVec 32) (A4 : Option Addr) (l4 c4 : Nat) (xs : List Int) (A5 : Option Addr) (l5 c5 : Nat) (ys : List Int) (w : World)
    (_wn : (Lit.int .i64 n).wf = true) (_hl2 : l2 ≤ maxLen) (hl : SlLab w A2 l2 ls) (_hp : len ≤ maxLen) (hs : p.len = len ∧ SlLn w A p) (_wl : (Lit.int .i64 who.1).wf = true) (_hl4 : l4 ≤ maxLen) (hx : SlI w A4 l4 xs ∧ ∀ z ∈ xs, (Lit.int .i64 z).wf = true) (_hl5 : l5 ≤ maxLen) (hy : SlI w A5 l5 ys ∧ ∀ z ∈ ys, (Lit.int .i64 z).wf = true) :
    Calls Try.prog 10 #[.int .i64 n, .slice A2 l2 c2, .slice A len c, .agg #[.int .i64 who.1, .int .u32 (W who.2)], .slice A4 l4 c4, .slice A5 l5 c5] w fun e w' => e = .returned (.bool true) ∧ Below w.heap.size w w' := by
  suffices h : Calls Try.prog 10 #[.int .i64 n, .slice A2 l2 c2, .slice A len c, .agg #[.int .i64 who.1, .int .u32 (W who.2)], .slice A4 l4 c4, .slice A5 l5 c5] w fun e w' => e = .returned (.bool true) ∧ Kept w w' from h.mono fun e w' ⟨h1, h2⟩ => ⟨h1, h2.below⟩
  obtain ⟨rfl, hs⟩ := hs
  by_cases h0 : lbF n ls p = 0 ∧ rnF n p xs = 0 ∧ rnF n p ys = 0
  · obtain ⟨hw, _, _⟩ := lbF_ok h0.1
    obtain ⟨hn1, _, _⟩ := wrF_ok hw
    obtain ⟨nn, rfl⟩ := Int.eq_ofNat_of_zero_le (show 0 ≤ n by omega)
    exact flowApart_good nn ls A2 l2 c2 p A c who xs A4 l4 c4 ys A5 l5 c5 w hl hs hx.1 hy.1 h0.1 h0.2.1 h0.2.2
  · exact flowApart_bad n ls A2 l2 c2 p A c who xs A4 l4 c4 ys A5 l5 c5 w hl hs hx.1 hy.1 h0
end Go.Proofs.Ytnnddjanbfamkaa
