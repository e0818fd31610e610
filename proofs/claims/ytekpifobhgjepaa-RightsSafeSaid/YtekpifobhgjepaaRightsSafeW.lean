/- RightsSafe: the walk of the statement. -/
import Derived.Test.YtekpifobhgjepaaRights3
namespace Go.Proofs.Ytekpifobhgjepaa.rightsSafeDone
open Go Go.RowKit
set_option linter.unusedVariables false

theorem in_is (x y : BitVec 32) (b : Bool) (hb : subB x y = b) (w : World) : Calls Try.prog 18 #[.int .u32 (W x), .int .u32 (W y)] w fun e w' => e = .returned (.bool b) ∧ w = w' := by
  rw [← hb]
  exact rightsIn_any x y w
theorem guards5 {n x y : Int} {r : Int} (h : r ≠ 0 ∨ x < 0 ∨ y < 0 ∨ n ≤ x ∨ n ≤ y) : (r != 0) = true ∨ ((r != 0) = false ∧ decide (x < 0) = true) ∨ ((r != 0) = false ∧ decide (x < 0) = false ∧ decide (y < 0) = true) ∨ ((r != 0) = false ∧ decide (x < 0) = false ∧ decide (y < 0) = false ∧ decide (n ≤ x) = true) ∨
    ((r != 0) = false ∧ decide (x < 0) = false ∧ decide (y < 0) = false ∧ decide (n ≤ x) = false ∧ decide (n ≤ y) = true) := by
  simp only [decide_eq_true_eq, decide_eq_false_iff_not, bne_iff_ne, bne_eq_false_iff_eq, ne_eq]
  omega
theorem bad (n : Int) (A : Option Addr) (len c : Nat) (rs : List Wr) (A2 : Option Addr) (k2 c2 : Nat) (cs : List Ch) (x y : Int) (right : BitVec 32) (w : World) (hs : SlX w A len rs) (hc : SlC w A2 k2 cs) (h : stepsF n rs cs.length x y ≠ 0) :
    Calls Try.prog 9 #[.int .i64 n, .slice A len c, .slice A2 k2 c2, .int .i64 x, .int .i64 y, .int .u32 (W right)] w fun e w' => e = .returned (.bool true) ∧ Kept w w' := by
  have hk := fun w h => matrixCheck_any n A len c rs A2 k2 c2 w h
  have hF : rightF n rs k2 = rightF n rs cs.length := by rw [hc.2]
  rw [hF] at hk
  have hbad : rightF n rs cs.length ≠ 0 ∨ x < 0 ∨ y < 0 ∨ n ≤ x ∨ n ≤ y := by
    refine Classical.byContradiction fun hc => h ?_
    unfold stepsF
    rw [if_neg (fun h => hc (.inl h)), if_neg (fun h => hc (.inr h))]
  have HH := Lib.hid h
  have hne : (stepsF n rs cs.length x y != 0) = true := by simpa using h
  clear h hF
  have HSAFE := Lib.hid (safe_any n A len c rs A2 k2 c2 cs x y right w hs hc)
  have HSTEP := Lib.hid (fun w' (k : Kept w w') => steps_any n A len c rs A2 k2 c2 cs x y right w' (hs.kept k) (hc.kept k))
  generalize rightF n rs cs.length = r at hk hbad
  rcases guards5 hbad with d1 | ⟨d1, d2⟩ | ⟨d1, d2, d3⟩ | ⟨d1, d2, d3, d4⟩ | ⟨d1, d2, d3, d4, d5⟩
  all_goals
    clear hbad
    go_enter Try.func9, Try.ntmps9
    go_wp2_with fail
    refine HSAFE.out.mono ?_
    rintro e w1 ⟨k1, ⟨_, code, hcode, rfl⟩ | ⟨hz, _⟩⟩
    case inr => exact absurd hz HH.out
    have hcode2 : (code != 0) = true := by simpa using hcode
    go_wp2_with fail
    refine (HSTEP.out _ k1).mono ?_
    rintro e w2 ⟨k2', ⟨_, rfl⟩ | ⟨hz, _⟩⟩
    case inr => exact absurd hz HH.out
    go_wp2_with fail
    refine (hk _ (hs.kept (k1.trans k2'))).mono ?_
    rintro e w3 ⟨rfl, rfl⟩
    go_wp2_with fail
    go_ret
    exact ⟨rfl, k1.trans k2'⟩
set_option maxRecDepth 100000 in
set_option maxHeartbeats 8000000 in
theorem good (n : Nat) (A : Option Addr) (c : Nat) (rs : List Wr) (A2 : Option Addr) (k2 c2 : Nat) (cs : List Ch) (x y : Nat) (right : BitVec 32) (w : World) (hs : SlX w A n rs) (hc : SlC w A2 k2 cs) (h : stepsF n rs cs.length x y = 0) (h0 : rightF n rs cs.length = 0) (hr : ∀ r ∈ rs, r.2.1 = n) (hx : x < n) (hy : y < n) :
    Calls Try.prog 9 #[.int .i64 n, .slice A n c, .slice A2 k2 c2, .int .i64 x, .int .i64 y, .int .u32 (W right)] w fun e w' => e = .returned (.bool true) ∧ Kept w w' := by
  have hk := fun w h => matrixCheck_any n A n c rs A2 k2 c2 w h
  have hF : rightF n rs k2 = rightF n rs cs.length := by rw [hc.2]
  rw [hF, h0] at hk
  have HSAFE := Lib.hid (safe_any n A n c rs A2 k2 c2 cs x y right w hs hc)
  have HSTEP := Lib.hid (fun w' (k : Kept w w') => steps_any n A n c rs A2 k2 c2 cs x y right w' (hs.kept k) (hc.kept k))
  have HCLOSE := Lib.hid (fun w' (k : Kept w w') => close_any n A n c rs A2 k2 c2 cs w' (hs.kept k) (hc.kept k))
  have HH := Lib.hid h
  have HH0 := Lib.hid h0
  have HR := Lib.hid hr
  have hx0 : (0 : Int) ≤ (x : Int) := by omega
  have hx1 : (x : Int) < (n : Int) := by omega
  have hy0 : (0 : Int) ≤ (y : Int) := by omega
  have hy1 : (y : Int) < (n : Int) := by omega
  have d1 : decide ((x : Int) < 0) = false := by simp
  have d2 : decide ((y : Int) < 0) = false := by simp
  have d3 : decide (n ≤ x) = false := by simp; omega
  have d4 : decide (n ≤ y) = false := by simp; omega
  clear h h0 hr hF
  go_enter Try.func9, Try.ntmps9
  go_wp2_with fail
  refine HSAFE.out.mono ?_
  rintro e w1 ⟨k1, ⟨hz, _⟩ | ⟨_, is, rfl, his⟩⟩
  case inl => exact absurd HH.out hz
  have HIS := Lib.hid his
  clear his
  go_wp2_with fail
  refine (HSTEP.out _ k1).mono ?_
  rintro e w2 ⟨k2', ⟨hz, _⟩ | ⟨_, t, code, rfl, hst⟩⟩
  case inl => exact absurd HH.out hz
  have HST := Lib.hid hst
  clear hst
  go_wp2_with fail
  refine (hk _ (hs.kept (k1.trans k2'))).mono ?_
  rintro e w3 ⟨rfl, rfl⟩
  go_wp2_with fail
  refine (HCLOSE.out _ (k1.trans k2')).mono ?_
  rintro e w3 ⟨k3, ⟨hz, _⟩ | ⟨_, n', A1, c1, rs1, hn, rfl, hs1, hr1, hcl1⟩⟩
  case inl => exact absurd HH0.out hz
  obtain rfl : n = n' := by omega
  have q3 := (k1.trans k2').trans k3
  obtain ⟨bm, fm, bm2, fm2, cm2, rfl, m1, m2⟩ := (hs.kept q3).at_ HR.out x y hx hy
  obtain ⟨ba, fa, ba2, fa2, ca2, rfl, a1, a2⟩ := hs1.at_ hr1 x y hx hy
  have hn0 : ((n : Int) != (n : Int)) = false := by simp
  have his := HIS.out _ hcl1
  have hst := HST.out
  unfold Stepped at hst
  rw [Int.toNat_natCast, Int.toNat_natCast] at his hst
  have hst2 : (code = 0 ∧ subB right (mxOf rs1 x y) = true ∧ (t = 0 ↔ subB right (mxOf rs x y) = true)) ∨ (code = 5 ∧ t = 0 ∧ subB right (mxOf rs1 x y) = false) := by
    rcases hst with ⟨e1, e2, e3⟩ | ⟨e1, e2, e3⟩
    · exact .inl ⟨e1, e2 _ hcl1, e3⟩
    · exact .inr ⟨e1, e2, e3 _ hcl1⟩
  clear hst HST HIS HSAFE HSTEP HCLOSE hs1 hr1 hcl1
  generalize mxOf rs1 x y = z at a2 his hst2
  generalize mxOf rs x y = u at m2 hst2
  rcases hst2 with ⟨rfl, hz, ht⟩ | ⟨rfl, rfl, hz⟩
  · rw [hz] at his
    obtain rfl : is = false := his
    cases hb : subB right u
    · have htn : ((t : Int) == 0) = false := by
        rw [hb] at ht
        have : t ≠ 0 := fun e => by have := ht.1 e; cases this
        simp; omega
      have HZ := Lib.hid hz
      have HB := Lib.hid hb
      clear hz hb ht
      go_wp2_with fail
      refine (in_is right z true HZ.out _).mono ?_
      rintro e w4 ⟨rfl, rfl⟩
      go_wp2_with fail
      refine (in_is right u false HB.out _).mono ?_
      rintro e w4 ⟨rfl, rfl⟩
      go_wp2_with fail
      go_ret
      exact ⟨by simp, q3⟩
    · obtain rfl : t = 0 := ht.2 hb
      have HZ := Lib.hid hz
      have HB := Lib.hid hb
      clear hz hb ht
      go_wp2_with fail
      refine (in_is right z true HZ.out _).mono ?_
      rintro e w4 ⟨rfl, rfl⟩
      go_wp2_with fail
      refine (in_is right u true HB.out _).mono ?_
      rintro e w4 ⟨rfl, rfl⟩
      go_wp2_with fail
      go_ret
      exact ⟨by simp, q3⟩
  · rw [hz] at his
    obtain rfl : is = true := his
    have HZ := Lib.hid hz
    clear hz
    go_wp2_with fail
    refine (in_is right z false HZ.out _).mono ?_
    rintro e w4 ⟨rfl, rfl⟩
    go_wp2_with fail
    go_ret
    exact ⟨by simp, q3⟩
theorem rightsSafe_walk (n : Int) (A : Option Addr) (len c : Nat) (rs : List Wr) (A2 : Option Addr) (k2 c2 : Nat) (cs : List Ch) (x y : Int) (right : BitVec 32) (w : World) (_wn : (Lit.int .i64 n).wf = true) (hl : len ≤ maxLen) (hs : SlX w A len rs) (hl2 : k2 ≤ maxLen) (hc : SlC w A2 k2 cs) (_wx : (Lit.int .i64 x).wf = true) (_wy : (Lit.int .i64 y).wf = true) :
    Calls Try.prog 9 #[.int .i64 n, .slice A len c, .slice A2 k2 c2, .int .i64 x, .int .i64 y, .int .u32 (W right)] w fun e w' => e = .returned (.bool true) ∧ Below w.heap.size w w' := by
  suffices h : Calls Try.prog 9 #[.int .i64 n, .slice A len c, .slice A2 k2 c2, .int .i64 x, .int .i64 y, .int .u32 (W right)] w fun e w' => e = .returned (.bool true) ∧ Kept w w' from h.mono fun e w' ⟨h1, h2⟩ => ⟨h1, h2.below⟩
  by_cases h : stepsF n rs cs.length x y = 0
  · obtain ⟨h0, hx0, hy0, hx1, hy1⟩ := stepsF_zero h
    obtain ⟨nn, rfl, h1, h6, hk, hlr, hr⟩ := rightF_zero h0
    obtain rfl : len = nn := by rw [← hs.2.1]; exact hlr
    obtain ⟨x, rfl⟩ := Int.eq_ofNat_of_zero_le hx0
    obtain ⟨y, rfl⟩ := Int.eq_ofNat_of_zero_le hy0
    exact good len A c rs A2 k2 c2 cs x y right w hs hc h h0 hr (by omega) (by omega)
  · exact bad n A len c rs A2 k2 c2 cs x y right w hs hc h
end Go.Proofs.Ytekpifobhgjepaa.rightsSafeDone
