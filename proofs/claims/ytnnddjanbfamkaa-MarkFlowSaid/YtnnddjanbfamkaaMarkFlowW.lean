/- MarkFlow: the walk of the statement. -/
import Derived.Test.YtnnddjanbfamkaaMk8
import Derived.Test.YtnnddjanbfamkaaLabel
import Derived.BigQuiet
namespace Go.Proofs.Ytnnddjanbfamkaa.markFlowDone
open Go Go.RowKit
set_option linter.unusedVariables false

theorem marksF_zero {clear things : List Lab} {k : Nat} (h : marksF clear things k = 0) : 1 ≤ clear.length ∧ clear.length ≤ 5 ∧ things.length ≤ 8 ∧ k ≤ 30 := by
  unfold marksF at h
  split at h
  · cases h
  · omega
theorem labs_ok {clear things : List Lab} {k : Nat} (h : marksF clear things k = 0) : ∀ x ∈ clear, labOk x = true := by
  intro x hx
  unfold marksF at h
  split at h
  · cases h
  · split at h
    · cases h
    · rename_i h2
      have h3 : badL x = false := by
        cases hb : badL x
        · rfl
        · exact absurd (List.any_eq_true.2 ⟨x, List.mem_append_left _ hx, hb⟩) h2
      simpa [badL] using h3
theorem bit_is (x : BitVec 32) (i : Nat) (hi : i < 32) (b : Bool) (hb : x.getLsbD i = b) (w : World) : Calls Try.prog 22 #[.int .u32 (W x), .int .i64 i] w fun e w' => e = .returned (.bool b) ∧ w = w' := by
  rw [← hb]
  have h1 : decide (0 ≤ (i : Int)) = true := by simp
  have h2 : decide ((i : Int) < 32) = true := by simp; omega
  go_enter Try.func22, Try.ntmps22
  go_wp2
  go_ret
  exact ⟨rfl, rfl⟩
theorem below_is (x y : Lab) (h : leB x y = true) (w : World) : Calls Try.prog 21 #[.agg #[.int .i64 x.1, .int .u32 (W x.2)], .agg #[.int .i64 y.1, .int .u32 (W y.2)]] w fun e w' => e = .returned (.bool true) ∧ Kept w w' := by
  have := below_any x.1 y.1 x.2 y.2 w
  rw [show leB (x.1, x.2) (y.1, y.2) = true from h] at this
  exact this
theorem bad (A1 : Option Addr) (nc c1 : Nat) (clear : List Lab) (A2 : Option Addr) (nt c2 : Nat) (things : List Lab) (A3 : Option Addr) (nd c3 : Nat) (w : World) (s1 : SlLab w A1 nc clear) (s2 : SlLab w A2 nt things) (h : marksF clear things nd ≠ 0) :
    Calls Try.prog 5 #[.slice A1 nc c1, .slice A2 nt c2, .slice A3 nd c3] w fun e w' => e = .returned (.bool true) ∧ Kept w w' := by
  have HP := Lib.hid (mplay_bad A1 nc c1 clear A2 nt c2 things A3 nd c3 w s1 s2 h)
  have HK := Lib.hid (fun w' (k : Kept w w') => marked_any A1 nc c1 clear A2 nt c2 things nd w' (s1.kept k) (s2.kept k))
  have h1 : (marksF clear things nd == 0) = false := by simpa using h
  rw [h1] at HK
  clear h h1
  go_enter Try.func5, Try.ntmps5
  go_wp2_with fail
  refine HP.out.mono ?_
  rintro e w1 ⟨k1, code, hcode, rfl⟩
  have hc2 : (code != 0) = true := by simpa using hcode
  have k2 := k1.alloc (.cells #[.slice none 0 0, .slice none 0 0, .slice none 0 0] 41)
  go_wp2_with fail
  refine (HK.out _ k2).mono ?_
  rintro e w2 ⟨rfl, k3⟩
  go_wp2_with fail
  go_ret
  exact ⟨rfl, k2.trans k3⟩
set_option maxRecDepth 100000 in
set_option maxHeartbeats 16000000 in
theorem good (A1 : Option Addr) (nc c1 : Nat) (clear : List Lab) (A2 : Option Addr) (nt c2 : Nat) (things : List Lab) (A3 : Option Addr) (nd c3 : Nat) (ds : List De) (w : World) (s1 : SlLab w A1 nc clear) (s2 : SlLab w A2 nt things) (hd : SlD w A3 nd ds) (h0 : marksF clear things nd = 0) :
    Calls Try.prog 5 #[.slice A1 nc c1, .slice A2 nt c2, .slice A3 nd c3] w fun e w' => e = .returned (.bool true) ∧ Kept w w' := by
  obtain ⟨hn1, hn5, hn8, hn30⟩ := marksF_zero h0
  rw [s1.2] at hn1 hn5
  rw [s2.2] at hn8
  have HP := Lib.hid (mplay_good A1 nc c1 clear A2 nt c2 things A3 nd c3 ds w s1 s2 hd h0 hn1 hn5 hn8 hn30)
  have HK := Lib.hid (fun w' (k : Kept w w') => marked_any A1 nc c1 clear A2 nt c2 things nd w' (s1.kept k) (s2.kept k))
  have h2 : (marksF clear things nd == 0) = true := by rw [h0]; rfl
  rw [h2] at HK
  have hok : ∀ u, u < nc → labOk (lab clear u) = true := by
    intro u hu
    rw [← s1.2] at hu
    rw [lab_eq hu]
    exact labs_ok h0 _ (List.getElem_mem _)
  have HI := Lib.hid (stOf_inv (markDo nc nt (lab clear) (lab things)) (FlowInv nc nt (lab clear) (lab things)) (fun s d h => h.do hok d) ds mark0 (FlowInv.start hok hn8))
  generalize codesOf (markDo nc nt (lab clear) (lab things)) mark0 ds = codes at HP
  generalize stOf (markDo nc nt (lab clear) (lab things)) mark0 ds = sE at HP HI
  have n0 : ((nd : Int) != (nd : Int)) = false := by simp
  have n1 : ((nc : Int) != (nc : Int)) = false := by simp
  have n2 : ((nt : Int) != (nt : Int)) = false := by simp
  clear h2 h0
  go_enter Try.func5, Try.ntmps5
  go_wp2_with fail
  refine HP.out.mono ?_
  rintro e w1 ⟨k1, AC, AM, AF, cC, cM, cF, rfl, _, hM, hF⟩
  have kb := (Kept.refl w1).alloc (.cells #[.slice AC nd cC, .slice AM nc cM, .slice AF nt cF] 41)
  have bx := Box.new w1 #[.slice AC nd cC, .slice AM nc cM, .slice AF nt cF] 41 w1.heap.size rfl
  have HB := Lib.hid bx
  have K2 := Lib.hid (k1.trans kb)
  have HM := Lib.hid (hM.kept kb)
  have HF := Lib.hid (hF.kept kb)
  clear bx hM hF k1 kb
  go_wp2_with fail
  refine (HK.out _ K2.out).mono ?_
  rintro e w2 ⟨rfl, k2⟩
  have K3 := Lib.hid (K2.out.trans k2)
  have HM2 := Lib.hid (HM.out.kept k2)
  have HF2 := Lib.hid (HF.out.kept k2)
  have HB2 := Lib.hid (HB.out.kept k2)
  clear K2 HM HF HB k2
  obtain ⟨B, hB⟩ : ∃ B, w1.heap.size = B := ⟨_, rfl⟩
  rw [hB] at HB2 ⊢
  clear hB
  have b0 := HB2.out.at_ 0 rfl
  have b1 := HB2.out.at_ 1 rfl
  have b2 := HB2.out.at_ 2 rfl
  go_wp2_with fail
  go_loopw [58] (fun t wr => ∃ q : Nat, q ≤ nc ∧ t = .int .i64 q ∧ Kept w2 wr) (fun t _ => nc - (intOf t).toNat)
  case atStart => exact ⟨0, Nat.zero_le _, rfl, Kept.refl _⟩
  case round =>
    clear b0 b1 b2
    obtain ⟨q, hq, rfl, kq⟩ := hrel
    by_cases hltq : q < nc
    · obtain ⟨b, off, rfl, hb, c0, c1⟩ := (s1.kept (K3.out.trans kq)).lab_get q hltq
      have hq1 : (0 : Int) ≤ (q : Int) := by omega
      have hq2 : (q : Int) < (nc : Int) := by omega
      have kb := (Kept.refl wr).alloc (.cells #[.int .i64 (lab clear q).1, .int .u32 (W (lab clear q).2)] 24)
      have bx := Box.new wr #[.int .i64 (lab clear q).1, .int .u32 (W (lab clear q).2)] 24 wr.heap.size rfl
      obtain ⟨bm, fm, rfl, hbm, m0, m1⟩ := (HM2.out.kept (kq.trans kb)).lab_get q hltq
      have HLB := Lib.hid (fun w' => below_is (sE.marks q) (lab clear q) (HI.out.mark q hltq) w')
      have hlm : lab ((List.range nc).map sE.marks) q = sE.marks q := by rw [lab_eq (by simpa using hltq)]; simp
      rw [hlm] at m0 m1
      have b1 := (HB2.out.kept (kq.trans kb)).at_ 1 rfl
      have KQ := Lib.hid (kq.trans kb)
      generalize lab clear q = x at c0 c1 bx m0 m1 b1 HLB KQ
      generalize sE.marks q = y at m0 m1 HLB
      have x0 := bx.at_ 0 rfl
      have x1 := bx.at_ 1 rfl
      have z1 := kw_cell b1
      have z2 := kw_cell m0
      have z3 := kw_cell m1
      have z4 := kw_cell x0
      have z5 := kw_cell x1
      clear bx kb hlm hb hbm
      go_wp2_with fail
      refine wp_region_kept (by kernel_rfl) (by kernel_rfl) ?_
      repeat (go_big_quiet_step ((go_at_call 21; exact kept_of (HLB.out _))))
      refine wpQuiet_nil ?_
      intro w12 k12
      go_wp2_with fail
      go_roundw
      case rel => exact ⟨q + 1, by omega, by go_num, KQ.out.trans k12⟩
      case measure => simp [intOf]; omega
    · go_wp2_with fail
      go_loopw [74] (fun t wr => ∃ i : Nat, i ≤ nt ∧ t = .int .i64 i ∧ Kept w2 wr) (fun t _ => nt - (intOf t).toNat)
      case atStart => exact ⟨0, Nat.zero_le _, rfl, kq⟩
      case round =>
        clear kq
        obtain ⟨i, hi, rfl, ki⟩ := hrel
        by_cases hlti : i < nt
        · obtain ⟨b, off, rfl, hb, c0, c1⟩ := (s2.kept (K3.out.trans ki)).lab_get i hlti
          have hi1 : (0 : Int) ≤ (i : Int) := by omega
          have hi2 : (i : Int) < (nt : Int) := by omega
          have kb := (Kept.refl wr).alloc (.cells #[.int .i64 (lab things i).1, .int .u32 (W (lab things i).2)] 24)
          have HBX := Lib.hid (Box.new wr #[.int .i64 (lab things i).1, .int .u32 (W (lab things i).2)] 24 wr.heap.size rfl)
          have KI := Lib.hid (ki.trans kb)
          obtain ⟨bf, ff, rfl, _, cf⟩ := (HF2.out.kept (ki.trans kb)).getN i hlti
          rw [show nth ((List.range nt).map sE.from_) i = sE.from_ i by rw [nth_eq _ _ (by simpa using hlti)]; simp] at cf
          have b2 := (HB2.out.kept (ki.trans kb)).at_ 2 rfl
          have HBI := Lib.hid (fun w' => bit_is (sE.from_ i) i (by omega) true (HI.out.own i hlti) w')
          have HFI := Lib.hid (fun w' => labFits_any nt (by omega) (sE.from_ i) w')
          rw [HI.out.fit i hlti] at HFI
          clear kb ki
          go_wp2_with fail
          refine (HBI.out _).mono ?_
          rintro e w12 ⟨rfl, rfl⟩
          go_wp2_with fail
          refine (HFI.out _).mono ?_
          rintro e w12 ⟨rfl, rfl⟩
          go_wp2_with fail
          clear cf b2 HBI HFI
          obtain ⟨w5, hw5⟩ : ∃ w5, wr.alloc (.cells #[.int .i64 (lab things i).1, .int .u32 (W (lab things i).2)] 24) = w5 := ⟨_, rfl⟩
          rw [hw5] at HBX KI
          generalize wr.heap.size = X at HBX ⊢
          go_loopw [100] (fun t wr2 => ∃ j : Nat, j ≤ nt ∧ t = .int .i64 j ∧ Kept w5 wr2) (fun t _ => nt - (intOf t).toNat)
          case atStart => exact ⟨0, Nat.zero_le _, rfl, by first | exact Kept.refl _ | (rw [hw5]; exact Kept.refl _)⟩
          case round =>
            clear c0 c1 hw5
            obtain ⟨j, hj, rfl, kj⟩ := hrel
            by_cases hltj : j < nt
            · obtain ⟨b', off', e8, hb', c0, c1⟩ := (s2.kept (K3.out.trans (KI.out.trans kj))).lab_get j hltj
              cases e8
              have hj1 : (0 : Int) ≤ (j : Int) := by omega
              have hj2 : (j : Int) < (nt : Int) := by omega
              have kb := (Kept.refl wr).alloc (.cells #[.int .i64 (lab things j).1, .int .u32 (W (lab things j).2)] 24)
              have bx := Box.new wr #[.int .i64 (lab things j).1, .int .u32 (W (lab things j).2)] 24 wr.heap.size rfl
              have ob := HBX.out.kept (kj.trans kb)
              obtain ⟨bf', ff', e9, _, cf⟩ := (HF2.out.kept (KI.out.trans (kj.trans kb))).getN i hlti
              cases e9
              rw [show nth ((List.range nt).map sE.from_) i = sE.from_ i by rw [nth_eq _ _ (by simpa using hlti)]; simp] at cf
              have b2 := (HB2.out.kept (KI.out.trans (kj.trans kb))).at_ 2 rfl
              have KJ := Lib.hid (kj.trans kb)
              obtain ⟨tb, htb⟩ : ∃ tb, (sE.from_ i).getLsbD j = tb := ⟨_, rfl⟩
              have HTB := Lib.hid htb
              have HLE := Lib.hid (show tb = true → leB (lab things j) (lab things i) = true from fun h => HI.out.into i j hlti hltj (by rw [htb]; exact h))
              generalize sE.from_ i = fi at cf HTB
              generalize lab things j = y at c0 c1 bx HLE KJ cf b2 ob kb
              generalize lab things i = x at ob HLE
              have x0 := bx.at_ 0 rfl
              have x1 := bx.at_ 1 rfl
              have o0 := ob.at_ 0 rfl
              have o1 := ob.at_ 1 rfl
              clear bx ob kb htb hb'
              cases tb
              · go_wp2_with fail
                refine (bit_is fi j (by omega) false HTB.out _).mono ?_
                rintro e w12 ⟨rfl, rfl⟩
                go_wp2_with fail
                go_roundw
                case rel => exact ⟨j + 1, by omega, by go_num, KJ.out⟩
                case measure => simp [intOf]; omega
              · go_wp2_with fail
                refine (bit_is fi j (by omega) true HTB.out _).mono ?_
                rintro e w12 ⟨rfl, rfl⟩
                go_wp2_with fail
                refine (below_is y x (HLE.out (by trivial)) _).mono ?_
                rintro e w13 ⟨rfl, k13⟩
                have KJ13 := Lib.hid (KJ.out.trans k13)
                go_wp2_with fail
                go_roundw
                case rel => exact ⟨j + 1, by omega, by go_num, KJ13.out⟩
                case measure => simp [intOf]; omega
            · have KF := Lib.hid (KI.out.trans kj)
              go_wp2_with fail
              go_roundw
              case rel => exact ⟨i + 1, by omega, by go_num, KF.out⟩
              case measure => simp [intOf]; omega
        · go_wp2_with fail
          go_ret
          exact ⟨rfl, K3.out.trans ki⟩
theorem markFlow_walk (A1 : Option Addr) (nc c1 : Nat) (clear : List Lab) (A2 : Option Addr) (nt c2 : Nat) (things : List Lab) (A3 : Option Addr) (nd c3 : Nat) (ds : List De) (w : World) (hl1 : nc ≤ maxLen) (s1 : SlLab w A1 nc clear) (hl2 : nt ≤ maxLen) (s2 : SlLab w A2 nt things) (hl3 : nd ≤ maxLen) (hd : SlD w A3 nd ds) :
    Calls Try.prog 5 #[.slice A1 nc c1, .slice A2 nt c2, .slice A3 nd c3] w fun e w' => e = .returned (.bool true) ∧ Below w.heap.size w w' := by
  suffices h : Calls Try.prog 5 #[.slice A1 nc c1, .slice A2 nt c2, .slice A3 nd c3] w fun e w' => e = .returned (.bool true) ∧ Kept w w' from h.mono fun e w' ⟨h1, h2⟩ => ⟨h1, h2.below⟩
  by_cases h0 : marksF clear things nd = 0
  · exact good A1 nc c1 clear A2 nt c2 things A3 nd c3 ds w s1 s2 hd h0
  · exact bad A1 nc c1 clear A2 nt c2 things A3 nd c3 w s1 s2 h0
end Go.Proofs.Ytnnddjanbfamkaa.markFlowDone
