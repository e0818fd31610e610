/- GrantSide: the walk of the statement. -/
import Derived.Test.YtekpifobhgjepaaGrant3
namespace Go.Proofs.Ytekpifobhgjepaa.grantSideDone
open Go Go.RowKit
set_option linter.unusedVariables false
set_option linter.unusedSimpArgs false

theorem good {n : Int} {es : List Ed} {a b c : Int} {rt : BitVec 32} (h1 : canF n es a b rt = 0) (h2 : canF n es c b rt = 0) : edgeF n es = 0 ∧ (0 ≤ a ∧ a < n) ∧ (0 ≤ b ∧ b < n) ∧ (0 ≤ c ∧ c < n) ∧ a ≠ b ∧ c ≠ b ∧ popN rt 32 = 1 := by
  obtain ⟨z0, z1, z2, z3, z4, z5, z6⟩ := canF_zero h1
  obtain ⟨y0, y1, y2, y3, y4, y5, y6⟩ := canF_zero h2
  exact ⟨z0, ⟨z1, z2⟩, ⟨z3, z4⟩, ⟨y1, y2⟩, z5, y5, z6⟩
set_option maxRecDepth 100000 in
set_option maxHeartbeats 4000000 in
theorem yes (n : Nat) (A : Option Addr) (len cp : Nat) (es : List Ed) (a b c : Nat) (rt : BitVec 32) (w : World) (hs : SlE w A len es) (h1 : canF n es a b rt = 0) (h2 : canF n es c b rt = 0) :
    Calls Try.prog 10 #[.int .i64 n, .slice A len cp, .int .i64 a, .int .i64 b, .int .i64 c, .int .u32 (W rt)] w fun e w' => e = .returned (.bool true) ∧ Kept w w' := by
  obtain ⟨z0, ⟨a1, a2⟩, ⟨b1, b2⟩, ⟨c1, c2⟩, hab, hcb, hp⟩ := good h1 h2
  obtain ⟨n1, n6, hlen, _⟩ := edgeF_zero z0
  have hlen20 : len ≤ 1000 := by rw [← hs.2]; omega
  have Z0 := Lib.hid z0
  have HP := Lib.hid hp
  have H1 := Lib.hid h1
  have H2 := Lib.hid h2
  have HJ := Lib.hid (fun hj => canB_join (n := n) (g := gE es) (a := a) (c := c) (y := b) (rt := rt) (by omega) (by omega) hj)
  have HO := Lib.hid (fun hh => canB_own (n := n) (g := gE es) (x := a) (y := b) (rt := rt) (by omega) hh)
  have HJD := Lib.hid (show joinB (gE es) a c = ((overF es a c ||| overF es c a) &&& 3#32 != 0#32) from rfl)
  have HHD := Lib.hid (show hitB (gE es) b rt a = (overF es a b &&& rt != 0#32) by
    show (decide (a ≠ b) && (overF es a b &&& rt != 0#32)) = _
    rw [decide_eq_true (by omega : a ≠ b), Bool.true_and])
  have HNZ := Lib.hid (show subB rt (overF es a b) = true → (overF es a b &&& rt != 0#32) = true from fun hsub => by
    have hne : ∃ i, rt.getLsbD i = true := by
      refine Classical.byContradiction fun hc => ?_
      have : ∀ k, popN rt k = 0 := by
        intro k
        induction k with
        | zero => rfl
        | succ k ih =>
          show popN rt k + (if rt.getLsbD k then 1 else 0) = 0
          rw [ih]
          cases hb : rt.getLsbD k
          · rfl
          · exact absurd ⟨k, hb⟩ hc
      rw [this] at hp
      omega
    obtain ⟨i, hi⟩ := hne
    exact nz_bit.2 ⟨i, by rw [BitVec.getLsbD_and, subB_iff.1 hsub i hi, hi]; rfl⟩)
  have d1 : decide ((a : Int) < 0) = false := by simp
  have d2 : decide ((b : Int) < 0) = false := by simp
  have d3 : decide ((c : Int) < 0) = false := by simp
  have d4 : decide (n ≤ a) = false := by simp; omega
  have d5 : decide (n ≤ b) = false := by simp; omega
  have d6 : decide (n ≤ c) = false := by simp; omega
  have d7 : ((a : Int) == (b : Int)) = false := by simp; omega
  have d8 : ((c : Int) == (b : Int)) = false := by simp; omega
  clear z0 hp h1 h2 a1 a2 b1 b2 c1 c2 hab hcb hlen n1 n6
  go_enter Try.func10, Try.ntmps10
  go_wp2_with fail
  refine (can_any n _ _ _ es a b rt _ hs).mono ?_
  rintro e w1 ⟨k1, ⟨_, rfl⟩ | ⟨hne, _⟩⟩
  case inr => rw [H1.out] at hne; cases hne
  simp only [Int.toNat_natCast]
  go_wp2_with fail
  refine (can_any n _ _ _ es c b rt _ (hs.kept k1)).mono ?_
  rintro e w2 ⟨k2, ⟨_, rfl⟩ | ⟨hne, _⟩⟩
  case inr => rw [H2.out] at hne; cases hne
  simp only [Int.toNat_natCast]
  have q2 := k1.trans k2
  clear k1 k2
  obtain ⟨x, hx⟩ : ∃ x, canB n (gE es) a b rt = x := ⟨_, rfl⟩
  obtain ⟨y, hy⟩ : ∃ y, canB n (gE es) c b rt = y := ⟨_, rfl⟩
  rw [hx, hy] at HJ
  rw [hx] at HO
  rw [hx, hy]
  clear hx hy
  go_wp2_with fail
  refine (edgesCheck_any n _ _ _ es _ (hs.kept q2)).mono ?_
  rintro e w3 ⟨rfl, k3⟩
  rw [Z0.out]
  go_wp2_with fail
  refine (sizeO_any rt _).mono ?_
  rintro e w4 ⟨rfl, rfl⟩
  rw [HP.out]
  have q3 := q2.trans k3
  clear q2 k3
  go_wp2_with fail
  refine (over_any _ _ _ es a c _ (hs.kept q3) hlen20).mono ?_
  rintro e w5 ⟨rfl, k5⟩
  have q5 := q3.trans k5
  clear q3 k5
  go_wp2_with fail
  refine (over_any _ _ _ es c a _ (hs.kept q5) hlen20).mono ?_
  rintro e w6 ⟨rfl, k6⟩
  have q6 := q5.trans k6
  clear q5 k6
  obtain ⟨r1, hr1⟩ : ∃ r, overF es (a : Int) (c : Int) = r := ⟨_, rfl⟩
  obtain ⟨r2, hr2⟩ : ∃ r, overF es (c : Int) (a : Int) = r := ⟨_, rfl⟩
  rw [hr1, hr2] at HJD ⊢
  clear hr1 hr2
  have e3 : bits .and .u32 (W (r1 ||| r2)) 3 = W ((r1 ||| r2) &&& 3#32) := bits_and_W (r1 ||| r2) 3#32
  have hj : ∃ j : Bool, ((r1 ||| r2) &&& 3#32 != 0#32) = j ∧ (j = true → (x == y) = true) := by
    refine ⟨_, rfl, fun h => ?_⟩
    rw [HJ.out (by rw [HJD.out]; exact h)]
    simp
  obtain ⟨j, hj1, hj2⟩ := hj
  have hcase : j = false ∨ (j = true ∧ (x == y) = true) := by
    cases j
    · exact .inl rfl
    · exact .inr ⟨rfl, hj2 rfl⟩
  clear hj2
  rcases hcase with rfl | ⟨rfl, hxy⟩
  all_goals
    go_wp2_with fail
    refine (over_any _ _ _ es a b _ (hs.kept q6) hlen20).mono ?_
    rintro e w7 ⟨rfl, k7⟩
    have q7 := q6.trans k7
    clear q6 k7
    go_wp2_with fail
    refine (inO_any _ _ _).mono ?_
    rintro e w8 ⟨rfl, rfl⟩
    have hin : ∃ i : Bool, subB rt (overF es a b) = i ∧ (i = true → x = true) := ⟨_, rfl, fun h => HO.out (by rw [HHD.out]; exact HNZ.out h)⟩
    obtain ⟨i, hi1, hi2⟩ := hin
    rw [hi1]
    have hcase2 : i = false ∨ (i = true ∧ x = true) := by
      cases i
      · exact .inl rfl
      · exact .inr ⟨rfl, hi2 rfl⟩
    clear hi1 hi2
    rcases hcase2 with rfl | ⟨rfl, rfl⟩
    all_goals
      go_wp2_with fail
      go_ret
      exact ⟨rfl, q7⟩
theorem can_code (n : Int) (A : Option Addr) (len c : Nat) (es : List Ed) (x y : Int) (rt : BitVec 32) (w : World) (hs : SlE w A len es) :
    Calls Try.prog 31 #[.int .i64 n, .slice A len c, .int .i64 x, .int .i64 y, .int .u32 (W rt)] w fun e w' => Kept w w' ∧ ∃ v, e = .returned (.tuple #[.bool v, .int .i64 (canF n es x y rt)]) :=
  (can_any n A len c es x y rt w hs).mono fun e w' ⟨k, h⟩ => by
    rcases h with ⟨h0, rfl⟩ | ⟨_, rfl⟩
    · exact ⟨k, _, by rw [h0]⟩
    · exact ⟨k, _, rfl⟩
theorem bad {n : Int} {es : List Ed} {a b c : Int} {rt : BitVec 32} (h : ¬ (canF n es a b rt = 0 ∧ canF n es c b rt = 0)) :
    (edgeF n es != 0) = true ∨ ((edgeF n es != 0) = false ∧ (decide (a < 0) = true ∨ (decide (a < 0) = false ∧ (decide (b < 0) = true ∨ (decide (b < 0) = false ∧ (decide (c < 0) = true ∨ (decide (c < 0) = false ∧ (decide (n ≤ a) = true ∨ (decide (n ≤ a) = false ∧
      (decide (n ≤ b) = true ∨ (decide (n ≤ b) = false ∧ (decide (n ≤ c) = true ∨ (decide (n ≤ c) = false ∧ ((a == b) = true ∨ ((a == b) = false ∧ ((c == b) = true ∨ ((c == b) = false ∧ ((popN rt 32 : Int) != 1) = true))))))))))))))))) := by
  by_cases h0 : edgeF n es = 0
  · have e1 : ∀ x, canF n es x b rt = if x < 0 ∨ b < 0 ∨ n ≤ x ∨ n ≤ b ∨ x = b then 2 else if popN rt 32 ≠ 1 then 4 else 0 := fun x => by
      unfold canF
      rw [if_neg (by omega)]
    rw [e1, e1] at h
    have h2 : ¬ (¬ (a < 0 ∨ b < 0 ∨ n ≤ a ∨ n ≤ b ∨ a = b) ∧ ¬ (c < 0 ∨ b < 0 ∨ n ≤ c ∨ n ≤ b ∨ c = b) ∧ popN rt 32 = 1) := by
      rintro ⟨q1, q2, q3⟩
      exact h ⟨by rw [if_neg q1, if_neg (by omega)], by rw [if_neg q2, if_neg (by omega)]⟩
    simp only [bne_iff_ne, decide_eq_true_eq, decide_eq_false_iff_not, beq_iff_eq, bne_eq_false_iff_eq, beq_eq_false_iff_ne, ne_eq]
    omega
  · exact .inl (by simpa using h0)
set_option maxRecDepth 100000 in
set_option maxHeartbeats 8000000 in
theorem no (n : Int) (A : Option Addr) (len cp : Nat) (es : List Ed) (a b c : Int) (rt : BitVec 32) (w : World) (hs : SlE w A len es) (h : ¬ (canF n es a b rt = 0 ∧ canF n es c b rt = 0)) :
    Calls Try.prog 10 #[.int .i64 n, .slice A len cp, .int .i64 a, .int .i64 b, .int .i64 c, .int .u32 (W rt)] w fun e w' => e = .returned (.bool true) ∧ Kept w w' := by
  have hb := Lib.hid (bad h)
  have hne : ∃ v1 v2 : Bool, (canF n es a b rt != 0) = v1 ∧ (canF n es c b rt != 0) = v2 ∧ (v1 = true ∨ (v1 = false ∧ v2 = true)) := by
    refine ⟨_, _, rfl, rfl, ?_⟩
    by_cases q : canF n es a b rt = 0
    · exact .inr ⟨by simpa using q, by have : canF n es c b rt ≠ 0 := fun e => h ⟨q, e⟩; simpa using this⟩
    · exact .inl (by simpa using q)
  obtain ⟨v1, v2, n1, n2, hv⟩ := hne
  have HV := Lib.hid hv
  obtain ⟨k1, hk1⟩ : ∃ k, canF n es a b rt = k := ⟨_, rfl⟩
  obtain ⟨k2, hk2⟩ : ∃ k, canF n es c b rt = k := ⟨_, rfl⟩
  have HK1 := Lib.hid hk1
  have HK2 := Lib.hid hk2
  rw [hk1] at n1
  rw [hk2] at n2
  clear h hv hk1 hk2
  go_enter Try.func10, Try.ntmps10
  go_wp2_with fail
  refine (can_code n _ _ _ es a b rt _ hs).mono ?_
  rintro e w1 ⟨q1, x, rfl⟩
  rw [HK1.out]
  go_wp2_with fail
  refine (can_code n _ _ _ es c b rt _ (hs.kept q1)).mono ?_
  rintro e w2 ⟨q2, y, rfl⟩
  rw [HK2.out]
  have p2 := q1.trans q2
  clear q1 q2
  go_wp2_with fail
  refine (edgesCheck_any n _ _ _ es _ (hs.kept p2)).mono ?_
  rintro e w3 ⟨rfl, q3⟩
  have P3 := Lib.hid (p2.trans q3)
  clear p2 q3
  obtain ⟨ec, hec⟩ : ∃ k, edgeF n es = k := ⟨_, rfl⟩
  have hb := hb.out
  rw [hec] at hb ⊢
  clear hec
  have HV := HV.out
  rcases hb with g | ⟨g0, g | ⟨g1, g | ⟨g2, g | ⟨g3, g | ⟨g4, g | ⟨g5, g | ⟨g6, g | ⟨g7, g | ⟨g8, g⟩⟩⟩⟩⟩⟩⟩⟩⟩
  case inr.inr.inr.inr.inr.inr.inr.inr.inr =>
    rcases HV with rfl | ⟨rfl, rfl⟩
    all_goals
      go_wp2_with fail
      refine (sizeO_any rt _).mono ?_
      rintro e w4 ⟨rfl, rfl⟩
      go_wp2_with fail
      go_ret
      exact ⟨rfl, P3.out⟩
  all_goals
    rcases HV with rfl | ⟨rfl, rfl⟩
    all_goals
      go_wp2_with fail
      go_ret
      exact ⟨rfl, P3.out⟩
theorem grantSide_walk (n : Int) (A : Option Addr) (len cp : Nat) (es : List Ed) (a b c : Int) (rt : BitVec 32) (w : World) (_wn : (Lit.int .i64 n).wf = true) (hl : len ≤ maxLen) (hs : SlE w A len es) (_wa : (Lit.int .i64 a).wf = true) (_wb : (Lit.int .i64 b).wf = true) (_wc : (Lit.int .i64 c).wf = true) :
    Calls Try.prog 10 #[.int .i64 n, .slice A len cp, .int .i64 a, .int .i64 b, .int .i64 c, .int .u32 (W rt)] w fun e w' => e = .returned (.bool true) ∧ Kept w w' := by
  by_cases h : canF n es a b rt = 0 ∧ canF n es c b rt = 0
  · obtain ⟨h1, h2⟩ := h
    obtain ⟨_, ⟨a1, _⟩, ⟨b1, b2⟩, ⟨c1, _⟩, _⟩ := good h1 h2
    obtain ⟨aa, rfl⟩ := Int.eq_ofNat_of_zero_le a1
    obtain ⟨bb, rfl⟩ := Int.eq_ofNat_of_zero_le b1
    obtain ⟨cc, rfl⟩ := Int.eq_ofNat_of_zero_le c1
    obtain ⟨nn, rfl⟩ := Int.eq_ofNat_of_zero_le (show 0 ≤ n by omega)
    exact yes nn A len cp es aa bb cc rt w hs h1 h2
  · exact no n A len cp es a b c rt w hs h
end Go.Proofs.Ytekpifobhgjepaa.grantSideDone
