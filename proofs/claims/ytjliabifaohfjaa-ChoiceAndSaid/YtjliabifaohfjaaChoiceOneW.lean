/- ChoiceOne: the walk of the statement. -/
import Derived.Test.YtjliabifaohfjaaChoice6
import Derived.Test.YtjliabifaohfjaaTruth2
namespace Go.Proofs.Ytjliabifaohfjaa.choiceOneDone
open Go Go.RowKit
set_option linter.unusedVariables false
set_option linter.unusedSimpArgs false

/-- what the building gives, in one piece -/
theorem built (n : Nat) (hn : n ≤ 4) (A : Option Addr) (len c : Nat) (f : List Bool) (w : World) (hs : SlB w A len f) (hf : f.length = 2 ^ n) (l : List Bn) (x : Nat) (hb : buildF n f = (l, x)) :
    Calls Try.prog 25 #[.int .i64 n, .slice A len c] w fun e w' => ∃ A2 m c2, e = .returned (.tuple #[.slice A2 m c2, .int .i64 x, .int .i64 0]) ∧ SlBn w' A2 m l ∧ Kept w w' := by
  refine (build_good n hn A len c f w hs hf).mono ?_
  rintro e w' ⟨A2, c2, rfl, h, k⟩
  rw [hb] at h
  exact ⟨A2, _, c2, by rw [hb], h, k⟩
theorem reads (n : Nat) (hn : n ≤ 4) (A : Option Addr) (len c : Nat) (f : List Bool) (w : World) (hf : f.length = 2 ^ n) (l : List Bn) (x : Nat) (hb : buildF n f = (l, x)) (hl : SlBn w A len l) (m : Nat) (hm : m = f.length) :
    Calls Try.prog 26 #[.int .i64 n, .slice A len c, .int .i64 x] w fun e w' => ∃ A2 c2, e = .returned (.tuple #[.slice A2 m c2, .int .i64 0]) ∧ SlB w' A2 m f ∧ Kept w w' := by
  have hk := build_ok hf
  have hr := read_build hf
  rw [hb] at hk hr
  obtain ⟨ht, hx, hlen, _⟩ := hk
  have hl2 := hl.2
  subst hm
  have h16 := pow_le4 n hn
  refine (read_good n hn A len c l x w hl ht (by rw [← hl2]; exact hx) (by rw [← hl2]; simp only at hlen; omega)).mono ?_
  rintro e w' ⟨A2, c2, rfl, h, k⟩
  simp only at hr
  rw [hr, ← hf] at h
  exact ⟨A2, c2, by rw [hf], h, k⟩

set_option maxRecDepth 100000 in
set_option maxHeartbeats 4000000 in
theorem yes (n : Nat) (hn : n ≤ 4) (A : Option Addr) (len cp : Nat) (f : List Bool) (A2 : Option Addr) (len2 cp2 : Nat) (g : List Bool) (w : World) (hl : len ≤ maxLen) (hf : SlB w A len f) (hl2 : len2 ≤ maxLen) (hg : SlB w A2 len2 g)
    (hcf : f.length = 2 ^ n) (hcg : g.length = 2 ^ n) :
    Calls Try.prog 10 #[.int .i64 n, .slice A len cp, .slice A2 len2 cp2] w fun e w' => e = .returned (.bool true) ∧ Kept w w' := by
  obtain ⟨l1, x1, hb1⟩ : ∃ l x, buildF n f = (l, x) := ⟨_, _, rfl⟩
  obtain ⟨l2, x2, hb2⟩ : ∃ l x, buildF n g = (l, x) := ⟨_, _, rfl⟩
  have hlen := hf.2
  have hlen2 := hg.2
  have HSAME := Lib.hid (show (x1 = x2 ∧ l1 = l2) ↔ f = g from by
    constructor
    · rintro ⟨rfl, rfl⟩
      exact build_inj hcf hcg (by rw [hb1, hb2]) (by rw [hb1, hb2])
    · intro h
      rw [h, hb2] at hb1
      injection hb1 with a b
      exact ⟨b.symm, a.symm⟩)
  have h15 : l1.length ≤ 15 := by
    have := (build_ok hcf).2.2.1
    rw [hb1] at this
    have h16 := pow_le4 n hn
    simp only at this
    omega
  have HB1 := Lib.hid hb1
  have HB2 := Lib.hid hb2
  have HCF := Lib.hid hcf
  have HCG := Lib.hid hcg
  have HLEN := Lib.hid hlen.symm
  have H15 := Lib.hid h15
  have HTF := Lib.hid (truthF_ok hn hcf)
  have HTG := Lib.hid (truthF_ok hn hcg)
  clear hb1 hb2 hcf hcg hlen hlen2 h15
  go_enter Try.func10, Try.ntmps10
  go_wp2_with fail
  refine (built n hn A len cp f _ hf HCF.out l1 x1 HB1.out).mono ?_
  rintro e w1 ⟨B1, m1, c1, rfl, s1, k1⟩
  go_wp2_with fail
  refine (built n hn A2 len2 cp2 g _ (hg.kept k1) HCG.out l2 x2 HB2.out).mono ?_
  rintro e w2 ⟨B2, m2, c2, rfl, s2, k2⟩
  have q2 := k1.trans k2
  have t1 := s1.kept k2
  clear s1 k1 k2
  go_wp2_with fail
  refine (stated_any _ _ _ _ f _ hl (hf.kept q2)).mono ?_
  rintro e w3 ⟨rfl, rfl⟩
  rw [HTF.out]
  go_wp2_with fail
  refine (stated_any _ _ _ _ g _ hl2 (hg.kept q2)).mono ?_
  rintro e w3 ⟨rfl, rfl⟩
  rw [HTG.out]
  go_wp2_with fail
  refine (reads n hn B1 m1 c1 f _ HCF.out l1 x1 HB1.out t1 len HLEN.out).mono ?_
  rintro e w4 ⟨B3, c3, rfl, s3, k4⟩
  have q4 := q2.trans k4
  have t1' := t1.kept k4
  have t2' := s2.kept k4
  clear q2 k4 t1 s2
  have HM1 := Lib.hid (show m1 ≤ 1000 by rw [← t1'.2]; have := H15.out; omega)
  by_cases hx : x1 = x2
  · subst hx
    have HS2 := Lib.hid (show bnsF l1 l2 = boolsF f g from by
      have := HSAME.out
      unfold bnsF boolsF
      by_cases e : l1 = l2
      · rw [decide_eq_true e]
        have := this.1 ⟨rfl, e⟩
        simp [this]
      · rw [decide_eq_false e]
        have h2 : ¬ f = g := fun h => e (this.2 h).2
        simp [h2])
    have hxb : ((x1 : Int) == (x1 : Int)) = true := by simp
    go_wp2_with fail
    refine (branches_any B1 m1 c1 B2 m2 c2 l1 l2 _ t1' t2' HM1.out).mono ?_
    rintro e w5 ⟨rfl, k5⟩
    have q5 := q4.trans k5
    have s5 := s3.kept k5
    clear hxb q4 k5 s3 t1' t2'
    generalize bnsF l1 l2 = r at HS2 ⊢
    go_wp2_with fail
    refine (bools_any _ _ _ _ _ _ f f _ s5 (hf.kept q5) hl).mono ?_
    rintro e w6 ⟨rfl, k6⟩
    rw [boolsF_self]
    have q6 := q5.trans k6
    clear q5 k6
    go_wp2_with fail
    refine (bools_any _ _ _ _ _ _ f g _ (hf.kept q6) (hg.kept q6) hl).mono ?_
    rintro e w7 ⟨rfl, k7⟩
    rw [← HS2.out]
    have hr : (r == r) = true := by simp
    cases r
    all_goals
      go_wp2_with fail
      go_ret
      exact ⟨rfl, q6.trans k7⟩
  · have hxb : ((x1 : Int) == (x2 : Int)) = false := by rw [beq_eq_false_iff_ne]; omega
    have HS2 := Lib.hid (show boolsF f g = false from by
      unfold boolsF
      have h2 : ¬ f = g := fun h => hx (HSAME.out.2 h).1
      simp [h2])
    clear hx
    go_wp2_with fail
    refine (bools_any _ _ _ _ _ _ f f _ s3 (hf.kept q4) hl).mono ?_
    rintro e w6 ⟨rfl, k6⟩
    rw [boolsF_self]
    have q6 := q4.trans k6
    clear q4 k6 hxb
    go_wp2_with fail
    refine (bools_any _ _ _ _ _ _ f g _ (hf.kept q6) (hg.kept q6) hl).mono ?_
    rintro e w7 ⟨rfl, k7⟩
    rw [HS2.out]
    go_wp2_with fail
    go_ret
    exact ⟨rfl, q6.trans k7⟩
set_option maxRecDepth 100000 in
set_option maxHeartbeats 4000000 in
/-- the first is none -/
theorem noF (n : Int) (A : Option Addr) (len cp : Nat) (f : List Bool) (A2 : Option Addr) (len2 cp2 : Nat) (g : List Bool) (w : World) (hl : len ≤ maxLen) (hf : SlB w A len f) (hl2 : len2 ≤ maxLen) (hg : SlB w A2 len2 g)
    (hne : (truthF n f != 0) = true) :
    Calls Try.prog 10 #[.int .i64 n, .slice A len cp, .slice A2 len2 cp2] w fun e w' => e = .returned (.bool true) ∧ Kept w w' := by
  have hnz : (truthF n f == 0) = false := by simpa using hne
  by_cases hc : truthF n g = 0
  · have hz := truthF_zero hc
    obtain ⟨nn, rfl⟩ := Int.eq_ofNat_of_zero_le hz.1
    rw [Int.toNat_natCast] at hz
    have hn : nn ≤ 4 := by omega
    obtain ⟨l2, x2, hb2⟩ : ∃ l x, buildF nn g = (l, x) := ⟨_, _, rfl⟩
    have HB2 := Lib.hid hb2
    have HCG := Lib.hid hz.2.2
    clear hc hz hb2
    go_enter Try.func10, Try.ntmps10
    go_wp2_with fail
    refine (build_bad _ A len cp f _ hl hf hne).mono ?_
    rintro e w1 ⟨rfl, rfl⟩
    go_wp2_with fail
    refine (built nn hn A2 len2 cp2 g _ hg HCG.out l2 x2 HB2.out).mono ?_
    rintro e w2 ⟨B2, m2, c2, rfl, s2, k2⟩
    go_wp2_with fail
    refine (stated_any _ _ _ _ f _ hl (hf.kept k2)).mono ?_
    rintro e w3 ⟨rfl, rfl⟩
    go_wp2_with fail
    go_ret
    exact ⟨rfl, k2⟩
  · have hge : (truthF n g != 0) = true := by simpa using hc
    clear hc
    go_enter Try.func10, Try.ntmps10
    go_wp2_with fail
    refine (build_bad _ A len cp f _ hl hf hne).mono ?_
    rintro e w1 ⟨rfl, rfl⟩
    go_wp2_with fail
    refine (build_bad _ A2 len2 cp2 g _ hl2 hg hge).mono ?_
    rintro e w2 ⟨rfl, rfl⟩
    go_wp2_with fail
    refine (stated_any _ _ _ _ f _ hl hf).mono ?_
    rintro e w3 ⟨rfl, rfl⟩
    go_wp2_with fail
    go_ret
    exact ⟨rfl, Kept.refl _⟩
set_option maxRecDepth 100000 in
set_option maxHeartbeats 4000000 in
/-- the second is none -/
theorem noG (n : Nat) (hn : n ≤ 4) (A : Option Addr) (len cp : Nat) (f : List Bool) (A2 : Option Addr) (len2 cp2 : Nat) (g : List Bool) (w : World) (hl : len ≤ maxLen) (hf : SlB w A len f) (hl2 : len2 ≤ maxLen) (hg : SlB w A2 len2 g)
    (hcf : f.length = 2 ^ n) (hge : (truthF n g != 0) = true) :
    Calls Try.prog 10 #[.int .i64 n, .slice A len cp, .slice A2 len2 cp2] w fun e w' => e = .returned (.bool true) ∧ Kept w w' := by
  have hgz : (truthF n g == 0) = false := by simpa using hge
  obtain ⟨l1, x1, hb1⟩ : ∃ l x, buildF n f = (l, x) := ⟨_, _, rfl⟩
  have HB1 := Lib.hid hb1
  have HCF := Lib.hid hcf
  have HTF := Lib.hid (truthF_ok hn hcf)
  clear hb1 hcf
  go_enter Try.func10, Try.ntmps10
  go_wp2_with fail
  refine (built n hn A len cp f _ hf HCF.out l1 x1 HB1.out).mono ?_
  rintro e w1 ⟨B1, m1, c1, rfl, s1, k1⟩
  go_wp2_with fail
  refine (build_bad _ A2 len2 cp2 g _ hl2 (hg.kept k1) hge).mono ?_
  rintro e w2 ⟨rfl, rfl⟩
  go_wp2_with fail
  refine (stated_any _ _ _ _ f _ hl (hf.kept k1)).mono ?_
  rintro e w3 ⟨rfl, rfl⟩
  rw [HTF.out]
  go_wp2_with fail
  refine (stated_any _ _ _ _ g _ hl2 (hg.kept k1)).mono ?_
  rintro e w3 ⟨rfl, rfl⟩
  go_wp2_with fail
  go_ret
  exact ⟨rfl, k1⟩
theorem choiceOne_walk (n : Int) (A : Option Addr) (len cp : Nat) (f : List Bool) (A2 : Option Addr) (len2 cp2 : Nat) (g : List Bool) (w : World) (_wn : (Lit.int .i64 n).wf = true) (hl : len ≤ maxLen) (hf : SlB w A len f) (hl2 : len2 ≤ maxLen) (hg : SlB w A2 len2 g) :
    Calls Try.prog 10 #[.int .i64 n, .slice A len cp, .slice A2 len2 cp2] w fun e w' => e = .returned (.bool true) ∧ Kept w w' := by
  by_cases hc : truthF n f = 0
  · have hz := truthF_zero hc
    obtain ⟨nn, rfl⟩ := Int.eq_ofNat_of_zero_le hz.1
    rw [Int.toNat_natCast] at hz
    by_cases hc2 : truthF nn g = 0
    · have hz2 := truthF_zero hc2
      rw [Int.toNat_natCast] at hz2
      exact yes nn (by omega) A len cp f A2 len2 cp2 g w hl hf hl2 hg hz.2.2 hz2.2.2
    · exact noG nn (by omega) A len cp f A2 len2 cp2 g w hl hf hl2 hg hz.2.2 (by simpa using hc2)
  · exact noF n A len cp f A2 len2 cp2 g w hl hf hl2 hg (by simpa using hc)
end Go.Proofs.Ytjliabifaohfjaa.choiceOneDone
