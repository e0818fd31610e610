/- The walk of package low: one deed. -/
import Derived.Test.YtnnddjanbfamkaaLowK
namespace Go.Proofs.Ytnnddjanbfamkaa
open Go Go.RowKit
set_option linter.unusedVariables false

/-- what a deed leaves -/
def RetLow (w0 w : World) (S K : Nat) (Ac At AM AF : Option Addr) (nc c1 nt c2 cM cF : Nat) (r : Int × MSt) (e : Ending) (w' : World) : Prop :=
  e = .returned (.int .i64 r.1) ∧ LSt w0 w' S K Ac At AM AF nc c1 nt c2 cM cF r.2 ∧ KeepC w0 w w'
theorem lowBad {nc nt : Nat} {clear things : Nat → Lab} {s : MSt} {d : Dd} {code : Int} (h : deedF nc nt d = code) (h0 : code ≠ 0) : lowDo nc nt clear things s d = (code, s) := by
  unfold lowDo
  rw [h, if_pos h0]
theorem guardsL {b : Int} {nc : Nat} (h : b < 0 ∨ (nc : Int) ≤ b) : decide (b < 0) = true ∨ (decide (b < 0) = false ∧ decide ((nc : Int) ≤ b) = true) := by
  simp only [decide_eq_true_eq, decide_eq_false_iff_not]
  omega
set_option maxRecDepth 100000 in
set_option maxHeartbeats 8000000 in
theorem do_bad (S K : Nat) (Ac At AM AF : Option Addr) (nc c1 nt c2 cM cF : Nat) (s : MSt) (clear things : List Lab) (d : Dd) (w0 w : World) (hw : LSt w0 w S K Ac At AM AF nc c1 nt c2 cM cF s) (hbad : deedF nc nt d ≠ 0) :
    Calls Try.prog 48 #[.pointer (some ⟨S, 0, none⟩), .agg #[.int .i64 d.1, .int .i64 d.2.1, .int .i64 d.2.2.1, .int .i64 d.2.2.2.1, .int .u32 (W d.2.2.2.2.1), .int .i64 d.2.2.2.2.2]] w (RetLow w0 w S K Ac At AM AF nc c1 nt c2 cM cF (lowDo nc nt (lab clear) (lab things) s d)) := by
  obtain ⟨code, hcode⟩ : ∃ code, deedF nc nt d = code := ⟨_, rfl⟩
  rw [hcode] at hbad
  rw [lowBad hcode hbad]
  obtain ⟨kd, by_, to_, lv, pt, vl⟩ := d
  have HC := Lib.hid (show (if kd < 1 ∨ 3 < kd then (6 : Int) else if by_ < 0 ∨ (nc : Int) ≤ by_ ∨ (kd ≠ 3 ∧ (to_ < 0 ∨ (nt : Int) ≤ to_)) then 2 else 0) = code from hcode)
  clear hcode
  simp only
  have HW := Lib.hid hw
  have hka : Kept w (w.alloc (.cells #[.int .i64 kd, .int .i64 by_, .int .i64 to_, .int .i64 lv, .int .u32 (W pt), .int .i64 vl] 75)) := (Kept.refl _).alloc _
  have hbx := Box.new w #[.int .i64 kd, .int .i64 by_, .int .i64 to_, .int .i64 lv, .int .u32 (W pt), .int .i64 vl] 75 w.heap.size rfl
  have d0 := hbx.at_ 0 rfl
  have d1 := hbx.at_ 1 rfl
  have d2 := hbx.at_ 2 rfl
  have s0 := (hw.st.kept hka).cell 0 rfl
  have s1 := (hw.st.kept hka).cell 1 rfl
  have HK := Lib.hid hka
  clear hw hbx hka
  by_cases hkd : kd < 1 ∨ 3 < kd
  · obtain rfl : code = 6 := by rw [← HC.out, if_pos hkd]
    have hk : decide (kd < 1) = true ∨ (decide (kd < 1) = false ∧ decide (3 < kd) = true) := by
      simp only [decide_eq_true_eq, decide_eq_false_iff_not]; omega
    clear hkd HC hbad
    rcases hk with e1 | ⟨e1, e2⟩
    all_goals
      go_enter Try.func48, Try.ntmps48
      go_wp2_with fail
      go_ret
      exact ⟨rfl, HW.out.kept HK.out, KeepC.of HK.out⟩
  · have hk3 : kd = 1 ∨ kd = 2 ∨ kd = 3 := by omega
    obtain ⟨rfl, hc2⟩ : code = 2 ∧ (by_ < 0 ∨ (nc : Int) ≤ by_ ∨ (kd ≠ 3 ∧ (to_ < 0 ∨ (nt : Int) ≤ to_))) := by
      have := HC.out
      rw [if_neg hkd] at this
      split at this
      · exact ⟨this.symm, by assumption⟩
      · exact absurd this.symm hbad
    clear HC hbad
    by_cases hby : by_ < 0 ∨ (nc : Int) ≤ by_
    · rcases guardsL hby with g1 | ⟨g1, g2⟩
      all_goals
        clear hby hkd hc2
        rcases hk3 with rfl | rfl | rfl
        all_goals
          go_enter Try.func48, Try.ntmps48
          go_wp2_with fail
          first
          | (go_ret; exact ⟨rfl, HW.out.kept HK.out, KeepC.of HK.out⟩)
          | (go_quiet (fail)
             go_wp2_with fail
             go_ret
             exact ⟨rfl, HW.out.kept (HK.out.drewN nq), KeepC.of (HK.out.drewN nq)⟩)
    · obtain ⟨hn3, hto⟩ : kd ≠ 3 ∧ (to_ < 0 ∨ (nt : Int) ≤ to_) := by
        omega
      obtain ⟨u, rfl⟩ := Int.eq_ofNat_of_zero_le (show 0 ≤ by_ by omega)
      have g1 : decide ((u : Int) < 0) = false := by simp
      have g2 : decide ((nc : Int) ≤ (u : Int)) = false := by simp; omega
      have g2' : decide (nc ≤ u) = false := by simp; omega
      have hk2 : kd = 1 ∨ kd = 2 := by omega
      rcases guardsL hto with g3 | ⟨g3, g4⟩
      all_goals
        clear hby hkd hn3 hto hk3 hc2
        rcases hk2 with rfl | rfl
        all_goals
          go_enter Try.func48, Try.ntmps48
          go_wp2_with fail
          go_quiet (fail)
          go_wp2_with fail
          go_ret
          exact ⟨rfl, HW.out.kept (HK.out.drewN nq), KeepC.of (HK.out.drewN nq)⟩
end Go.Proofs.Ytnnddjanbfamkaa
