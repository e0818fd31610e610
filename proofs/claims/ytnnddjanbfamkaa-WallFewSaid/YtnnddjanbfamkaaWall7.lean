/- wall.Play where something is wrong. -/
import Derived.Test.YtnnddjanbfamkaaWall6
namespace Go.Proofs.Ytnnddjanbfamkaa
open Go Go.RowKit
set_option linter.unusedVariables false
theorem guardsW {who : Int} {nd : Nat} (h : who < 1 ∨ 5 < who ∨ 30 < nd) : decide (who < 1) = true ∨ (decide (who < 1) = false ∧ decide (5 < who) = true) ∨ (decide (who < 1) = false ∧ decide (5 < who) = false ∧ decide (30 < (nd : Int)) = true) := by
  simp only [decide_eq_true_eq, decide_eq_false_iff_not]
  omega
theorem play_bad (who : Int) (A : Option Addr) (lf c : Nat) (firm : List Int) (A2 : Option Addr) (m c2 : Nat) (clss : List Int) (A3 : Option Addr) (nd c3 : Nat) (w : World) (hs : SlI w A lf firm) (hc : SlI w A2 m clss) (h : wallF who firm clss nd ≠ 0) :
    Calls Try.prog 34 #[.int .i64 who, .slice A lf c, .slice A2 m c2, .slice A3 nd c3] w fun e w' => Kept w w' ∧ ∃ code : Int, code ≠ 0 ∧ e = .returned (.tuple #[.agg #[.slice none 0 0, .slice none 0 0, .slice none 0 0], .int .i64 code]) := by
  have hka : Kept w (w.alloc (.cells #[.slice none 0 0, .slice none 0 0, .slice none 0 0] 66)) := (Kept.refl _).alloc _
  have hbx := Box.new w #[.slice none 0 0, .slice none 0 0, .slice none 0 0] 66 w.heap.size rfl
  have b0 := hbx.at_ 0 rfl
  have b1 := hbx.at_ 1 rfl
  have b2 := hbx.at_ 2 rfl
  have HKA := Lib.hid hka
  have HBX := Lib.hid hbx
  clear hbx
  by_cases hbad : who < 1 ∨ 5 < who ∨ 30 < nd
  · clear h
    rcases guardsW hbad with d1 | ⟨d1, d2⟩ | ⟨d1, d2, d3⟩
    all_goals
      clear hbad
      go_enter Try.func34, Try.ntmps34
      go_wp2_with fail
      exact bodyPost_ret (v := .tuple #[.agg #[.slice none 0 0, .slice none 0 0, .slice none 0 0], .int .i64 1]) (by simp [results, Try.results34, go_sem]) rfl ⟨HKA.out, 1, by decide, rfl⟩
  · have HF := Lib.hid (show firmF firm clss ≠ 0 by unfold wallF at h; rw [if_neg hbad] at h; exact h)
    have hne : (firmF firm clss != 0) = true := by simpa using HF.out
    have e1 : decide (who < 1) = false := by simp; omega
    have e2 : decide (5 < who) = false := by simp; omega
    have e3 : decide (30 < (nd : Int)) = false := by simp; omega
    have e4 : decide (30 < nd) = false := by simp; omega
    have HWR := Lib.hid (wallWrong_any A lf c firm A2 m c2 clss _ (hs.kept hka) (hc.kept hka))
    clear hbad h b0 b1 b2
    go_enter Try.func34, Try.ntmps34
    go_wp2_with fail
    refine HWR.out.mono ?_
    rintro e w1 ⟨rfl, k1⟩
    have RV := Lib.hid ((Row.new (Kept.refl w) 66 [.slice none 0 0, .slice none 0 0, .slice none 0 0] _ rfl).kept k1)
    have v0 := RV.out.cell 0 rfl
    have v1 := RV.out.cell 1 rfl
    have v2 := RV.out.cell 2 rfl
    have f0 := RV.out.free 0
    have f1 := RV.out.free 1
    have f2 := RV.out.free 2
    have R3 := Lib.hid (((RV.out.set 0 (.slice none 0 0)).set 1 (.slice none 0 0)).set 2 (.slice none 0 0))
    have Y0 := Lib.hid (R3.out.cell 0 rfl)
    have Y1 := Lib.hid (R3.out.cell 1 rfl)
    have Y2 := Lib.hid (R3.out.cell 2 rfl)
    go_wp2_with fail
    exact bodyPost_ret (v := .tuple #[.agg #[.slice none 0 0, .slice none 0 0, .slice none 0 0], .int .i64 (firmF firm clss)]) (by simp [results, Try.results34, go_sem, Y0.out, Y1.out, Y2.out]) rfl ⟨R3.out.kept0, _, HF.out, rfl⟩
end Go.Proofs.Ytnnddjanbfamkaa
