/- The walk of mark.Play's closure: a deed that may not be. -/
import Derived.Test.YtnnddjanbfamkaaMk1
import Derived.Test.YtnnddjanbfamkaaLow3
namespace Go.Proofs.Ytnnddjanbfamkaa
open Go Go.RowKit
set_option linter.unusedVariables false

set_option maxRecDepth 100000 in
set_option maxHeartbeats 8000000 in
theorem mk_bad (Bc Bt O Bk M F K V : Nat) (A1 A2 : Option Addr) (nc c1 nt c2 : Nat) (VC : Value) (s : MSt) (clear things : List Lab) (d : Dd) (w0 w : World) (hw : MkSt w0 w Bc Bt O Bk M F K V A1 A2 nc c1 nt c2 VC s) (hbad : deedF nc nt d ≠ 0) :
    Calls Try.prog 45 #[.agg #[.int .i64 d.1, .int .i64 d.2.1, .int .i64 d.2.2.1, .int .i64 d.2.2.2.1, .int .u32 (W d.2.2.2.2.1), .int .i64 d.2.2.2.2.2], .pointer (some ⟨Bc, 0, none⟩), .pointer (some ⟨Bt, 0, none⟩), .pointer (some ⟨O, 0, none⟩), .pointer (some ⟨Bk, 0, none⟩)] w (RetMk w0 w Bc Bt O Bk M F K V A1 A2 nc c1 nt c2 VC (markDo nc nt (lab clear) (lab things) s d)) := by
  obtain ⟨code, hcode⟩ : ∃ code, deedF nc nt d = code := ⟨_, rfl⟩
  rw [hcode] at hbad
  rw [markBad hcode hbad]
  obtain ⟨kd, by_, to_, lv, pt, vl⟩ := d
  have HC := Lib.hid (show (if kd < 1 ∨ 3 < kd then (6 : Int) else if by_ < 0 ∨ (nc : Int) ≤ by_ ∨ (kd ≠ 3 ∧ (to_ < 0 ∨ (nt : Int) ≤ to_)) then 2 else 0) = code from hcode)
  clear hcode
  simp only
  have HW := Lib.hid hw
  have hka : Kept w (w.alloc (.cells #[.int .i64 kd, .int .i64 by_, .int .i64 to_, .int .i64 lv, .int .u32 (W pt), .int .i64 vl] 75)) := (Kept.refl _).alloc _
  have hbx := Box.new w #[.int .i64 kd, .int .i64 by_, .int .i64 to_, .int .i64 lv, .int .u32 (W pt), .int .i64 vl] 75 w.heap.size rfl
  have d0 := hbx.at_ 0 rfl
  have d1 := hbx.at_ 1 rfl
  have d2 := hbx.at_ 2 rfl
  have s0 := (hw.bc.kept hka).cell 0 rfl
  have s1 := (hw.bt.kept hka).cell 0 rfl
  have HK := Lib.hid hka
  clear hw hbx hka
  by_cases hkd : kd < 1 ∨ 3 < kd
  · obtain rfl : code = 6 := by rw [← HC.out, if_pos hkd]
    have hk : decide (kd < 1) = true ∨ (decide (kd < 1) = false ∧ decide (3 < kd) = true) := by
      simp only [decide_eq_true_eq, decide_eq_false_iff_not]; omega
    clear hkd HC hbad
    rcases hk with e1 | ⟨e1, e2⟩
    all_goals
      go_enter Try.func45, Try.ntmps45
      go_wp2_with fail
      go_ret
      exact ⟨rfl, HW.out.kept HK.out, KeepC.of HK.out⟩
  · have hk3 : kd = 1 ∨ kd = 2 ∨ kd = 3 := by omega
    obtain ⟨rfl, hc2⟩ : code = 2 ∧ (by_ < 0 ∨ (nc : Int) ≤ by_ ∨ (kd ≠ 3 ∧ (to_ < 0 ∨ (nt : Int) ≤ to_))) := by
      have := HC.out
      rw [if_neg hkd] at this
      split at this
      · exact ⟨this.symm, by assumption⟩
      · exact absurd this.symm hbad
    clear HC hbad
    by_cases hby : by_ < 0 ∨ (nc : Int) ≤ by_
    · rcases guardsL hby with g1 | ⟨g1, g2⟩
      all_goals
        clear hby hkd hc2
        rcases hk3 with rfl | rfl | rfl
        all_goals
          go_enter Try.func45, Try.ntmps45
          go_wp2_with fail
          first
          | (go_ret; exact ⟨rfl, HW.out.kept HK.out, KeepC.of HK.out⟩)
          | (go_quiet (fail)
             go_wp2_with fail
             go_ret
             exact ⟨rfl, HW.out.kept (HK.out.drewN nq), KeepC.of (HK.out.drewN nq)⟩)
    · obtain ⟨hn3, hto⟩ : kd ≠ 3 ∧ (to_ < 0 ∨ (nt : Int) ≤ to_) := by
        omega
      obtain ⟨u, rfl⟩ := Int.eq_ofNat_of_zero_le (show 0 ≤ by_ by omega)
      have g1 : decide ((u : Int) < 0) = false := by simp
      have g2 : decide ((nc : Int) ≤ (u : Int)) = false := by simp; omega
      have g2' : decide (nc ≤ u) = false := by simp; omega
      have hk2 : kd = 1 ∨ kd = 2 := by omega
      rcases guardsL hto with g3 | ⟨g3, g4⟩
      all_goals
        clear hby hkd hn3 hto hk3 hc2
        rcases hk2 with rfl | rfl
        all_goals
          go_enter Try.func45, Try.ntmps45
          go_wp2_with fail
          go_ret
          exact ⟨rfl, HW.out.kept HK.out, KeepC.of HK.out⟩
end Go.Proofs.Ytnnddjanbfamkaa
