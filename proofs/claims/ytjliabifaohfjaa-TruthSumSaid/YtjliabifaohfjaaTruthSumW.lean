/- TruthSum: the walk of the statement. -/
import Derived.Test.YtjliabifaohfjaaSums
import Derived.BigQuiet
import Derived.Deep.RegionHeld3
namespace Go.Proofs.Ytjliabifaohfjaa.truthSumDone
open Go Go.RowKit
set_option linter.unusedVariables false

theorem sum_xor {f g : List Bool} {n k : Nat} (hk : k = 2 ^ n) (hf : f.length = k) (hg : g.length = k) : ∀ s, s < k → bat (sumsL n (tabTo (fun s => bat f s != bat g s) k)) s = (bat (sumsL n f) s != bat (sumsL n g) s) := by
  intro s hs
  rw [bat_sumsL _ _ _ (by rw [tabTo_length]; exact hs), bat_sumsL _ _ _ (by omega), bat_sumsL _ _ _ (by omega), ← sumsN_xor]
  exact sumsN_congr (fun s hs => bat_tabTo _ _ _ (by omega)) n (Nat.le_refl n) s (by omega)

set_option maxRecDepth 100000 in
set_option maxHeartbeats 1000000 in
theorem yes (n : Int) (A : Option Addr) (len cp : Nat) (f : List Bool) (A2 : Option Addr) (len2 cp2 : Nat) (g : List Bool) (w : World) (hl : len ≤ maxLen) (hf : SlB w A len f) (hl2 : len2 ≤ maxLen) (hg : SlB w A2 len2 g)
    (hc : truthF n f = 0) :
    Calls Try.prog 4 #[.int .i64 n, .slice A len cp, .slice A2 len2 cp2] w fun e w' => e = .returned (.bool true) ∧ Kept w w' := by
  have hz := truthF_zero hc
  have hlen2n : len = 2 ^ n.toNat := hf.2.symm.trans hz.2.2
  have hlen : len ≤ 16 := by rw [hlen2n]; exact pow_le4 _ (by omega)
  have hlp : 0 < len := by have : 0 < 2 ^ n.toNat := Nat.pow_pos (by omega); omega
  obtain ⟨nn, rfl⟩ := Int.eq_ofNat_of_zero_le hz.1
  rw [Int.toNat_natCast] at hlen2n hz
  have HC := Lib.hid hc
  have HFL := Lib.hid hf.2
  have HL := Lib.hid hlen2n
  have HCA := Lib.hid (show truthF nn (sumsL nn f) = 0 from truthF_ok (by omega) (by rw [sumsL_length]; exact hz.2.2))
  have HDD := Lib.hid (sumsL_twice (n := nn) (f := f) hz.2.2)
  have hn4 : nn ≤ 4 := by omega
  clear hc hz hlen2n
  go_enter Try.func4, Try.ntmps4
  go_wp2_with fail
  refine (sumsX_ok _ _ _ _ f _ hl hf HC.out).mono ?_
  rintro e w1 h1
  obtain ⟨Aa, ca, rfl, ha, _, k1⟩ := h1.n (n := len) (by rw [sumsL_length, HFL.out])
  rw [Int.toNat_natCast] at ha
  go_wp2_with fail
  refine (stated_any _ _ _ _ f _ hl (hf.kept k1)).mono ?_
  rintro e w2 ⟨rfl, rfl⟩
  rw [HC.out]
  go_wp2_with fail
  refine (sumsX_ok _ _ _ _ (sumsL nn f) _ hl ha HCA.out).mono ?_
  rintro e w3 h3
  rw [Int.toNat_natCast, HDD.out] at h3
  obtain ⟨Ab, cb, rfl, hb, _, k3⟩ := h3.n (n := len) HFL.out
  have q3 := k1.trans k3
  have ha3 := ha.kept k3
  clear k1 k3 ha
  go_wp2_with fail
  refine (bools_any _ _ _ _ _ _ f f _ hb (hf.kept q3) hl).mono ?_
  rintro e w4 ⟨rfl, k4⟩
  rw [boolsF_self]
  have q4 := q3.trans k4
  have ha4 := ha3.kept k4
  clear q3 k4 hb ha3
  have hlen_eq : ((len : Int) != (len : Int)) = false := by simp
  go_wp2_with fail
  refine (stated_any _ _ _ _ g _ hl2 (hg.kept q4)).mono ?_
  rintro e w5 ⟨rfl, rfl⟩
  by_cases hcg : truthF nn g = 0
  · have hzg := truthF_zero hcg
    rw [Int.toNat_natCast] at hzg
    have hll : len2 = len := (hg.2.symm.trans hzg.2.2).trans HL.out.symm
    subst hll
    have HCG := Lib.hid hcg
    have HGL := Lib.hid hg.2
    rw [hcg]
    clear hcg hzg
    go_wp2_with fail
    refine (sumsX_ok _ _ _ _ g _ hl (hg.kept q4) HCG.out).mono ?_
    rintro e w6 h6
    obtain ⟨Ac, cc, rfl, hcc, _, k6⟩ := h6.n (n := len2) (by rw [sumsL_length, HGL.out])
    rw [Int.toNat_natCast] at hcc
    have q6 := q4.trans k6
    have ha6 := ha4.kept k6
    clear q4 k6 ha4
    have hf6 := hf.kept q6
    have hg6 := hg.kept q6
    go_wp2_with fail
    go_loopw [12, 13] (fun v t wr => ∃ k : Nat, k ≤ len2 ∧ t = .int .i64 k ∧ Own w6 wr 4 1 v k ((tabTo (fun s => bat f s != bat g s) k).map bv)) (fun _ t _ => len2 - (intOf t).toNat)
    case atStart => exact ⟨0, Nat.zero_le _, rfl, Own.start (Kept.refl _)⟩
    case round =>
      obtain ⟨k, hk, rfl, hown⟩ := hrel
      by_cases hlt : k < len2
      · obtain ⟨b1, o1, rfl, hb1, cf6⟩ := hf6.getN k hlt
        obtain ⟨b2, o2, rfl, hb2, cg6⟩ := hg6.getN k hlt
        have cf := (hown.2.cell (p := ⟨b1, o1 + k, none⟩) hb1).trans cf6
        have cg := (hown.2.cell (p := ⟨b2, o2 + k, none⟩) hb2).trans cg6
        have HS := Lib.hid (tabTo_succ (fun s => bat f s != bat g s) k)
        have hi1 : (0 : Int) ≤ (k : Int) := by omega
        have hi2 : (k : Int) < (len2 : Int) := by omega
        go_wp2_with fail
        go_region_held3 (fun w' => w'.cell? ⟨b1, o1 + k, none⟩ = some (.bool (bat f k)) ∧ w'.cell? ⟨b2, o2 + k, none⟩ = some (.bool (bat g k)))
          (first
            | exact ⟨(hown7.2.cell (p := ⟨b1, o1 + k, none⟩) hb1).trans cf6, (hown7.2.cell (p := ⟨b2, o2 + k, none⟩) hb2).trans cg6⟩
            | go_keep)
          ((refine step_push (by rfl) _ _ 22 (by rfl) 4 Try.underlying22 info_bool rfl (by decide) (by decide) _ _ _ _ ((hown.alloc _).drew) #[.bool (bat f k != bat g k)] 4 (0, 0) wr.heap.size 1 1 (heap_alloc_new wr _) (by rfl) (by rfl) rfl (one_bool _) (by omega) ?_; intro v7 w7 hown7 hgr7))
        go_wp2_with fail
        go_roundw
        case rel => exact ⟨k + 1, by omega, by go_num, by rw [HS.out]; simpa [bv] using hown7⟩
        case measure => simp [intOf]; omega
      · have HK := Lib.hid (show k = len2 by omega)
        obtain ⟨Ad, cd, rfl, hs, _⟩ := hown.form
        have hboth : SlB wr Ad k (tabTo (fun s => bat f s != bat g s) k) := ⟨hs, tabTo_length _ _⟩
        have q7 := q6.trans hown.2
        have ha7 := ha6.kept hown.2
        have hc7 := hcc.kept hown.2
        clear hs hown ha6 hcc
        have HCB := Lib.hid (show truthF nn (tabTo (fun s => bat f s != bat g s) k) = 0 from truthF_ok hn4 (by rw [tabTo_length, HK.out]; exact HL.out))
        go_wp2_with fail
        refine (sumsX_ok _ _ _ _ (tabTo (fun s => bat f s != bat g s) k) _ (by omega) hboth HCB.out).mono ?_
        rintro e w8 h8
        rw [Int.toNat_natCast] at h8
        obtain ⟨Ae, ce, rfl, hd, _, k8⟩ := h8.n (n := k) (by rw [sumsL_length, tabTo_length])
        have q8 := q7.trans k8
        have ha8 := ha7.kept k8
        have hc8 := hc7.kept k8
        have hneq : ((k : Int) != (len2 : Int)) = false := by rw [HK.out]; simp
        clear h8 k8 ha7 hc7 hboth
        have HLD := Lib.hid (sum_xor (f := f) (g := g) (n := nn) (k := k) (HK.out.trans HL.out) (HFL.out.trans HK.out.symm) (HGL.out.trans HK.out.symm))
        go_wp2_with fail
        clear q7 hneq
        generalize sumsL nn (tabTo (fun s => bat f s != bat g s) k) = ld at hd HLD
        generalize sumsL nn f = la at ha8 HLD
        generalize sumsL nn g = lc at hc8 HLD
        go_loopw [16] (fun t wr => ∃ s : Nat, s ≤ len2 ∧ t = .int .i64 s ∧ Kept w8 wr) (fun t _ => len2 - (intOf t).toNat)
        case atStart => exact ⟨0, Nat.zero_le _, rfl, Kept.refl _⟩
        case round =>
          obtain ⟨s, hs, rfl, hkw⟩ := hrel
          by_cases hlt : s < len2
          · have hsk : s < k := by rw [HK.out]; exact hlt
            obtain ⟨b1, o1, e1, _, va⟩ := (ha8.kept hkw).getN s hlt
            obtain ⟨b2, o2, e2, _, vc⟩ := (hc8.kept hkw).getN s hlt
            obtain ⟨b3, o3, e3, _, vd⟩ := (hd.kept hkw).getN s hsk
            subst e1 e2 e3
            rw [HLD.out s hsk] at vd
            have hi1 : (0 : Int) ≤ (s : Int) := by omega
            have hi2 : (s : Int) < (len2 : Int) := by omega
            have hi3 : (s : Int) < (k : Int) := by omega
            generalize bat la s = x at va vd
            generalize bat lc s = y at vc vd
            cases x <;> cases y
            all_goals
              simp only [bne_self_eq_false, Bool.true_bne, Bool.false_bne, Bool.not_false] at vd
              go_wp2_with fail
              go_quiet (fail)
              go_wp2_with fail
              go_roundw
              case rel => exact ⟨s + 1, by omega, by go_num, hkw.drewN nq⟩
              case measure => simp [intOf]; omega
          · go_wp2_with fail
            go_ret
            exact ⟨rfl, q8.trans hkw⟩
  · have hnz : (truthF nn g == 0) = false := by simpa using hcg
    clear hcg
    go_wp2_with fail
    go_ret
    exact ⟨rfl, q4⟩
theorem truthSum_walk (n : Int) (A : Option Addr) (len cp : Nat) (f : List Bool) (A2 : Option Addr) (len2 cp2 : Nat) (g : List Bool) (w : World) (_wn : (Lit.int .i64 n).wf = true) (hl : len ≤ maxLen) (hf : SlB w A len f) (hl2 : len2 ≤ maxLen) (hg : SlB w A2 len2 g) :
    Calls Try.prog 4 #[.int .i64 n, .slice A len cp, .slice A2 len2 cp2] w fun e w' => e = .returned (.bool true) ∧ Kept w w' := by
  by_cases hc : truthF n f = 0
  · exact yes n A len cp f A2 len2 cp2 g w hl hf hl2 hg hc
  · have hne : (truthF n f != 0) = true := by simpa using hc
    have hnz : (truthF n f == 0) = false := by simpa using hc
    clear hc
    go_enter Try.func4, Try.ntmps4
    go_wp2_with fail
    refine (sumsX_no _ _ _ _ f _ hl hf hne).mono ?_
    rintro e w1 ⟨rfl, rfl⟩
    go_wp2_with fail
    refine (stated_any _ _ _ _ f _ hl hf).mono ?_
    rintro e w2 ⟨rfl, rfl⟩
    go_wp2_with fail
    go_ret
    exact ⟨rfl, Kept.refl _⟩
end Go.Proofs.Ytjliabifaohfjaa.truthSumDone
