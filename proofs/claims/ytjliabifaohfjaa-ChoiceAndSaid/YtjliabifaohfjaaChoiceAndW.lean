/- ChoiceAnd: the walk of the statement. -/
import Derived.Test.YtjliabifaohfjaaChoice13
import Derived.Test.YtjliabifaohfjaaChoiceOneW
namespace Go.Proofs.Ytjliabifaohfjaa.choiceAndDone
open Go Go.RowKit
open Go.Proofs.Ytjliabifaohfjaa.choiceOneDone (built reads)
set_option linter.unusedVariables false
set_option linter.unusedSimpArgs false

theorem andT_self {n : Nat} {f : List Bool} (h : f.length = 2 ^ n) : andT n f f = f := by
  unfold andT
  apply bat_ext (by rw [tabTo_length, h])
  intro s hs
  rw [tabTo_length] at hs
  rw [bat_tabTo _ _ _ hs]
  simp
theorem built_len {n : Nat} (hn : n ≤ 4) {f : List Bool} (hf : f.length = 2 ^ n) {l : List Bn} {x : Nat} (hb : buildF n f = (l, x)) : TreeOk n l ∧ x ≤ l.length + 1 ∧ l.length ≤ 15 ∧ readF n l x = f := by
  have h := build_ok hf
  have hr := read_build hf
  rw [hb] at h hr
  have := pow_le4 n hn
  simp only at h hr
  exact ⟨h.1, h.2.1, by have := h.2.2.1; omega, hr⟩
/-- both of two tables' trees -/
theorem ands (n : Nat) (hn : n ≤ 4) (f g : List Bool) (hf : f.length = 2 ^ n) (hg : g.length = 2 ^ n) (l r : List Bn) (x y : Nat) (hl : buildF n f = (l, x)) (hr : buildF n g = (r, y)) (B : List Bn) (K : Nat) (hB : buildF n (andT n f g) = (B, K))
    (A1 : Option Addr) (n1 c1 : Nat) (A2 : Option Addr) (n2 c2 : Nat) (w : World) (sl : SlBn w A1 n1 l) (sr : SlBn w A2 n2 r) :
    Calls Try.prog 28 #[.int .i64 n, .slice A1 n1 c1, .int .i64 x, .slice A2 n2 c2, .int .i64 y] w fun e w' => ∃ A3 m3 c3, e = .returned (.tuple #[.slice A3 m3 c3, .int .i64 K, .int .i64 0]) ∧ SlBn w' A3 m3 B ∧ Kept w w' := by
  obtain ⟨a1, a2, a3, a4⟩ := built_len hn hf hl
  obtain ⟨b1, b2, b3, b4⟩ := built_len hn hg hr
  have e1 := sl.2
  have e2 := sr.2
  exact andx_good hn a1 b1 A1 n1 c1 A2 n2 c2 x y w sl sr (by omega) (by omega) (by omega) (by omega) B K (by rw [a4, b4]; exact hB)
set_option maxRecDepth 100000 in
set_option maxHeartbeats 8000000 in
theorem yes (n : Nat) (hn : n ≤ 4) (A : Option Addr) (len cp : Nat) (f : List Bool) (A2 : Option Addr) (len2 cp2 : Nat) (g : List Bool) (w : World) (hl : len ≤ maxLen) (hf : SlB w A len f) (hl2 : len2 ≤ maxLen) (hg : SlB w A2 len2 g)
    (hcf : f.length = 2 ^ n) (hcg : g.length = 2 ^ n) :
    Calls Try.prog 11 #[.int .i64 n, .slice A len cp, .slice A2 len2 cp2] w fun e w' => e = .returned (.bool true) ∧ Kept w w' := by
  obtain ⟨l1, x1, hb1⟩ : ∃ l x, buildF n f = (l, x) := ⟨_, _, rfl⟩
  obtain ⟨l2, x2, hb2⟩ : ∃ l x, buildF n g = (l, x) := ⟨_, _, rfl⟩
  obtain ⟨l3, x3, hb3⟩ : ∃ l x, buildF n (andT n f g) = (l, x) := ⟨_, _, rfl⟩
  have HB4 := Lib.hid (show buildF n (andT n f f) = (l1, x1) by rw [andT_self hcf]; exact hb1)
  have hc3 : (andT n f g).length = 2 ^ n := by unfold andT; rw [tabTo_length]
  have H15 := Lib.hid (built_len hn hcf hb1).2.2.1
  have H35 := Lib.hid (built_len hn hc3 hb3).2.2.1
  have h16 := pow_le4 n hn
  have HB1 := Lib.hid hb1
  have HB2 := Lib.hid hb2
  have HB3 := Lib.hid hb3
  have HCF := Lib.hid hcf
  have HCG := Lib.hid hcg
  have HC3 := Lib.hid hc3
  have HTF := Lib.hid (truthF_ok hn hcf)
  have HTG := Lib.hid (truthF_ok hn hcg)
  have HLF := Lib.hid (hf.2.symm.trans hcf)
  have HLG := Lib.hid (hg.2.symm.trans hcg)
  have HA3 := Lib.hid (show andT n f g = tabTo (fun s => bat f s && bat g s) (2 ^ n) from rfl)
  have hll : len = len2 := HLF.out.trans HLG.out.symm
  subst hll
  have hlen16 : len ≤ 16 := by rw [HLF.out]; exact h16
  clear hb1 hb2 hb3 hcf hcg hc3 h16
  go_enter Try.func11, Try.ntmps11
  go_wp2_with fail
  refine (built n hn A len cp f _ hf HCF.out l1 x1 HB1.out).mono ?_
  rintro e w1 ⟨B1, m1, c1, rfl, s1, k1⟩
  go_wp2_with fail
  refine (built n hn A2 len cp2 g _ (hg.kept k1) HCG.out l2 x2 HB2.out).mono ?_
  rintro e w2 ⟨B2, m2, c2, rfl, s2, k2⟩
  have q2 := k1.trans k2
  have t1 := s1.kept k2
  clear s1 k1 k2
  go_wp2_with fail
  refine (stated_any _ _ _ _ f _ hl (hf.kept q2)).mono ?_
  rintro e w3 ⟨rfl, rfl⟩
  rw [HTF.out]
  go_wp2_with fail
  refine (stated_any _ _ _ _ g _ hl2 (hg.kept q2)).mono ?_
  rintro e w3 ⟨rfl, rfl⟩
  rw [HTG.out]
  have hf2 := hf.kept q2
  have hg2 := hg.kept q2
  have Q2 := Lib.hid q2
  have T1 := Lib.hid t1
  have S2 := Lib.hid s2
  clear q2 t1 s2
  go_wp2_with fail
  go_loopw [13, 14] (fun v t wr => ∃ k : Nat, k ≤ len ∧ t = .int .i64 k ∧ Own w2 wr 4 1 v k ((tabTo (fun s => bat f s && bat g s) k).map bv)) (fun _ t _ => len - (intOf t).toNat)
  case atStart => exact ⟨0, Nat.zero_le _, rfl, Own.start (Kept.refl _)⟩
  case round =>
    obtain ⟨k, hk, rfl, hown⟩ := hrel
    by_cases hlt : k < len
    · obtain ⟨b1, o1, rfl, hb1, cf2⟩ := hf2.getN k hlt
      obtain ⟨b2, o2, rfl, hb2, cg2⟩ := hg2.getN k hlt
      have cf := (hown.2.cell (p := ⟨b1, o1 + k, none⟩) hb1).trans cf2
      have cg := (hown.2.cell (p := ⟨b2, o2 + k, none⟩) hb2).trans cg2
      have HS := Lib.hid (tabTo_succ (fun s => bat f s && bat g s) k)
      have hi1 : (0 : Int) ≤ (k : Int) := by omega
      have hi2 : (k : Int) < (len : Int) := by omega
      generalize bat f k = u at cf HS
      generalize bat g k = v at cg HS
      cases u
      · have HS2 := Lib.hid (show tabTo (fun s => bat f s && bat g s) (k + 1) = tabTo (fun s => bat f s && bat g s) k ++ [false] by rw [HS.out]; rfl)
        clear HS
        go_wp2_with (at_builtin; refine wpList_pushAt rfl _ _ 22 rfl 4 Try.underlying22 info_bool rfl (by decide) (by decide) _ _ _ _ hown #[.bool false] _ _ 1 1 rfl rfl rfl rfl (one_bool _) (by omega) ?_; intro v7 w7 hown7 hgr7 hat7)
        go_roundw
        case rel => exact ⟨k + 1, by omega, by go_num, by rw [HS2.out]; simpa [bv] using hown7⟩
        case measure => simp [intOf]; omega
      · have HS2 := Lib.hid (show tabTo (fun s => bat f s && bat g s) (k + 1) = tabTo (fun s => bat f s && bat g s) k ++ [v] by rw [HS.out]; rfl)
        clear HS
        go_wp2_with (at_builtin; refine wpList_pushAt rfl _ _ 22 rfl 4 Try.underlying22 info_bool rfl (by decide) (by decide) _ _ _ _ hown #[.bool v] _ _ 1 1 rfl rfl rfl rfl (one_bool _) (by omega) ?_; intro v7 w7 hown7 hgr7 hat7)
        go_roundw
        case rel => exact ⟨k + 1, by omega, by go_num, by rw [HS2.out]; simpa [bv] using hown7⟩
        case measure => simp [intOf]; omega
    · have hkl : k = len := by omega
      have HAT := Lib.hid (show tabTo (fun s => bat f s && bat g s) k = andT n f g by rw [hkl, HLF.out]; rfl)
      rw [HAT.out] at hown
      obtain ⟨Ad, cd, rfl, hs, _⟩ := hown.form
      have hsb : SlB wr Ad k (andT n f g) := ⟨hs, by rw [HC3.out, hkl, HLF.out]⟩
      have q3 := Q2.out.trans hown.2
      have T13 := Lib.hid (T1.out.kept hown.2)
      have S23 := Lib.hid (S2.out.kept hown.2)
      have hkm : k ≤ maxLen := by omega
      clear hs hown hf2 hg2
      have HF3 := Lib.hid (hf.kept q3)
      have Q3 := Lib.hid q3
      have HSB := Lib.hid hsb
      have HKM := Lib.hid hkm
      have HKL := Lib.hid hkl
      clear hsb q3 hkm hkl
      go_wp2_with fail
      refine (built n hn Ad k cd (andT n f g) _ HSB.out HC3.out l3 x3 HB3.out).mono ?_
      rintro e w4 ⟨B3, m3, c3, rfl, s3, k4⟩
      have T14 := Lib.hid (T13.out.kept k4)
      have S24 := Lib.hid (S23.out.kept k4)
      have HSB4 := Lib.hid (HSB.out.kept k4)
      have Q4 := Lib.hid (Q3.out.trans k4)
      have S3 := Lib.hid s3
      clear k4 s3
      go_wp2_with fail
      refine (ands n hn f g HCF.out HCG.out l1 l2 x1 x2 HB1.out HB2.out l3 x3 HB3.out B1 m1 c1 B2 m2 c2 _ T14.out S24.out).mono ?_
      rintro e w5 ⟨B4, m4, c4, rfl, s4, k5⟩
      have T15 := Lib.hid (T14.out.kept k5)
      have S35 := Lib.hid (S3.out.kept k5)
      have HSB5 := Lib.hid (HSB4.out.kept k5)
      have Q5 := Lib.hid (Q4.out.trans k5)
      have S4 := Lib.hid s4
      clear k5 s4
      go_wp2_with fail
      refine (ands n hn f f HCF.out HCF.out l1 l1 x1 x1 HB1.out HB1.out l1 x1 HB4.out B1 m1 c1 B1 m1 c1 _ T15.out T15.out).mono ?_
      rintro e w6 ⟨B5, m5, c5, rfl, s5, k6⟩
      have T16 := Lib.hid (T15.out.kept k6)
      have S36 := Lib.hid (S35.out.kept k6)
      have S46 := Lib.hid (S4.out.kept k6)
      have HSB6 := Lib.hid (HSB5.out.kept k6)
      have Q6 := Lib.hid (Q5.out.trans k6)
      have S5 := Lib.hid s5
      clear k6 s5
      go_wp2_with fail
      refine (reads n hn B4 m4 c4 (andT n f g) _ HC3.out l3 x3 HB3.out S46.out k HSB.out.2.symm).mono ?_
      rintro e w7 ⟨B6, c6, rfl, s6, k7⟩
      have T17 := Lib.hid (T16.out.kept k7)
      have S37 := Lib.hid (S36.out.kept k7)
      have S47 := Lib.hid (S46.out.kept k7)
      have S57 := Lib.hid (S5.out.kept k7)
      have HSB7 := Lib.hid (HSB6.out.kept k7)
      have Q7 := Lib.hid (Q6.out.trans k7)
      have S6 := Lib.hid s6
      clear k7 s6
      go_wp2_with fail
      refine (bools_any _ _ _ _ _ _ (andT n f g) (andT n f g) _ S6.out HSB7.out HKM.out).mono ?_
      rintro e w8 ⟨rfl, k8⟩
      rw [boolsF_self]
      have hx3 : ((x3 : Int) == (x3 : Int)) = true := by simp
      have hx1 : ((x1 : Int) == (x1 : Int)) = true := by simp
      have T18 := Lib.hid (T17.out.kept k8)
      have S38 := Lib.hid (S37.out.kept k8)
      have S48 := Lib.hid (S47.out.kept k8)
      have S58 := Lib.hid (S57.out.kept k8)
      have Q8 := Lib.hid (Q7.out.trans k8)
      clear k8
      go_wp2_with fail
      refine (branches_any _ _ _ _ _ _ l3 l3 _ S38.out S48.out (by have := S38.out.2; have := H35.out; omega)).mono ?_
      rintro e w9 ⟨rfl, k9⟩
      have hbb : bnsF l3 l3 = true := by unfold bnsF; simp
      rw [hbb]
      have T19 := Lib.hid (T18.out.kept k9)
      have S59 := Lib.hid (S58.out.kept k9)
      have Q9 := Lib.hid (Q8.out.trans k9)
      clear k9 hbb
      go_wp2_with fail
      refine (branches_any _ _ _ _ _ _ l1 l1 _ S59.out T19.out (by have := S59.out.2; have := H15.out; omega)).mono ?_
      rintro e w10 ⟨rfl, k10⟩
      have hbb : bnsF l1 l1 = true := by unfold bnsF; simp
      rw [hbb]
      have Q10 := Lib.hid (Q9.out.trans k10)
      clear k10 hbb
      go_wp2_with fail
      go_ret
      exact ⟨rfl, Q10.out⟩
set_option maxRecDepth 100000 in
set_option maxHeartbeats 4000000 in
/-- the first is none -/
theorem noF (n : Int) (A : Option Addr) (len cp : Nat) (f : List Bool) (A2 : Option Addr) (len2 cp2 : Nat) (g : List Bool) (w : World) (hl : len ≤ maxLen) (hf : SlB w A len f) (hl2 : len2 ≤ maxLen) (hg : SlB w A2 len2 g)
    (hne : (truthF n f != 0) = true) :
    Calls Try.prog 11 #[.int .i64 n, .slice A len cp, .slice A2 len2 cp2] w fun e w' => e = .returned (.bool true) ∧ Kept w w' := by
  have hnz : (truthF n f == 0) = false := by simpa using hne
  by_cases hc : truthF n g = 0
  · have hz := truthF_zero hc
    obtain ⟨nn, rfl⟩ := Int.eq_ofNat_of_zero_le hz.1
    rw [Int.toNat_natCast] at hz
    have hn : nn ≤ 4 := by omega
    obtain ⟨l2, x2, hb2⟩ : ∃ l x, buildF nn g = (l, x) := ⟨_, _, rfl⟩
    have HB2 := Lib.hid hb2
    have HCG := Lib.hid hz.2.2
    clear hc hz hb2
    go_enter Try.func11, Try.ntmps11
    go_wp2_with fail
    refine (build_bad _ A len cp f _ hl hf hne).mono ?_
    rintro e w1 ⟨rfl, rfl⟩
    go_wp2_with fail
    refine (built nn hn A2 len2 cp2 g _ hg HCG.out l2 x2 HB2.out).mono ?_
    rintro e w2 ⟨B2, m2, c2, rfl, s2, k2⟩
    go_wp2_with fail
    refine (stated_any _ _ _ _ f _ hl (hf.kept k2)).mono ?_
    rintro e w3 ⟨rfl, rfl⟩
    go_wp2_with fail
    go_ret
    exact ⟨rfl, k2⟩
  · have hge : (truthF n g != 0) = true := by simpa using hc
    clear hc
    go_enter Try.func11, Try.ntmps11
    go_wp2_with fail
    refine (build_bad _ A len cp f _ hl hf hne).mono ?_
    rintro e w1 ⟨rfl, rfl⟩
    go_wp2_with fail
    refine (build_bad _ A2 len2 cp2 g _ hl2 hg hge).mono ?_
    rintro e w2 ⟨rfl, rfl⟩
    go_wp2_with fail
    refine (stated_any _ _ _ _ f _ hl hf).mono ?_
    rintro e w3 ⟨rfl, rfl⟩
    go_wp2_with fail
    go_ret
    exact ⟨rfl, Kept.refl _⟩
set_option maxRecDepth 100000 in
set_option maxHeartbeats 4000000 in
/-- the second is none -/
theorem noG (n : Nat) (hn : n ≤ 4) (A : Option Addr) (len cp : Nat) (f : List Bool) (A2 : Option Addr) (len2 cp2 : Nat) (g : List Bool) (w : World) (hl : len ≤ maxLen) (hf : SlB w A len f) (hl2 : len2 ≤ maxLen) (hg : SlB w A2 len2 g)
    (hcf : f.length = 2 ^ n) (hge : (truthF n g != 0) = true) :
    Calls Try.prog 11 #[.int .i64 n, .slice A len cp, .slice A2 len2 cp2] w fun e w' => e = .returned (.bool true) ∧ Kept w w' := by
  have hgz : (truthF n g == 0) = false := by simpa using hge
  obtain ⟨l1, x1, hb1⟩ : ∃ l x, buildF n f = (l, x) := ⟨_, _, rfl⟩
  have HB1 := Lib.hid hb1
  have HCF := Lib.hid hcf
  have HTF := Lib.hid (truthF_ok hn hcf)
  clear hb1 hcf
  go_enter Try.func11, Try.ntmps11
  go_wp2_with fail
  refine (built n hn A len cp f _ hf HCF.out l1 x1 HB1.out).mono ?_
  rintro e w1 ⟨B1, m1, c1, rfl, s1, k1⟩
  go_wp2_with fail
  refine (build_bad _ A2 len2 cp2 g _ hl2 (hg.kept k1) hge).mono ?_
  rintro e w2 ⟨rfl, rfl⟩
  go_wp2_with fail
  refine (stated_any _ _ _ _ f _ hl (hf.kept k1)).mono ?_
  rintro e w3 ⟨rfl, rfl⟩
  rw [HTF.out]
  go_wp2_with fail
  refine (stated_any _ _ _ _ g _ hl2 (hg.kept k1)).mono ?_
  rintro e w3 ⟨rfl, rfl⟩
  go_wp2_with fail
  go_ret
  exact ⟨rfl, k1⟩
theorem choiceAnd_walk (n : Int) (A : Option Addr) (len cp : Nat) (f : List Bool) (A2 : Option Addr) (len2 cp2 : Nat) (g : List Bool) (w : World) (_wn : (Lit.int .i64 n).wf = true) (hl : len ≤ maxLen) (hf : SlB w A len f) (hl2 : len2 ≤ maxLen) (hg : SlB w A2 len2 g) :
    Calls Try.prog 11 #[.int .i64 n, .slice A len cp, .slice A2 len2 cp2] w fun e w' => e = .returned (.bool true) ∧ Kept w w' := by
  by_cases hc : truthF n f = 0
  · have hz := truthF_zero hc
    obtain ⟨nn, rfl⟩ := Int.eq_ofNat_of_zero_le hz.1
    rw [Int.toNat_natCast] at hz
    by_cases hc2 : truthF nn g = 0
    · have hz2 := truthF_zero hc2
      rw [Int.toNat_natCast] at hz2
      exact yes nn (by omega) A len cp f A2 len2 cp2 g w hl hf hl2 hg hz.2.2 hz2.2.2
    · exact noG nn (by omega) A len cp f A2 len2 cp2 g w hl hf hl2 hg hz.2.2 (by simpa using hc2)
  · exact noF n A len cp f A2 len2 cp2 g w hl hf hl2 hg (by simpa using hc)
end Go.Proofs.Ytjliabifaohfjaa.choiceAndDone
