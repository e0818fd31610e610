/- mark.Play where something is wrong. -/
import Derived.Test.YtnnddjanbfamkaaMk7
namespace Go.Proofs.Ytnnddjanbfamkaa
open Go Go.RowKit
set_option linter.unusedVariables false

theorem mplay_bad (A1 : Option Addr) (nc c1 : Nat) (clear : List Lab) (A2 : Option Addr) (nt c2 : Nat) (things : List Lab) (A3 : Option Addr) (nd c3 : Nat) (w : World) (s1 : SlLab w A1 nc clear) (s2 : SlLab w A2 nt things) (h : marksF clear things nd ≠ 0) :
    Calls Try.prog 19 #[.slice A1 nc c1, .slice A2 nt c2, .slice A3 nd c3] w fun e w' => Kept w w' ∧ ∃ code : Int, code ≠ 0 ∧ e = .returned (.tuple #[.agg #[.slice none 0 0, .slice none 0 0, .slice none 0 0], .int .i64 code]) := by
  have hka : Kept w (((w.alloc (.cells #[.slice A1 nc c1] 36)).alloc (.cells #[.slice A2 nt c2] 36)).alloc (.cells #[.slice none 0 0, .slice none 0 0, .slice none 0 0] 41)) := (((Kept.refl _).alloc _).alloc _).alloc _
  have HF := Lib.hid h
  have hne : (marksF clear things nd != 0) = true := by simpa using h
  have HWR := Lib.hid (markWrong_any A1 nc c1 clear A2 nt c2 things nd _ (s1.kept hka) (s2.kept hka))
  have HV := Lib.hid (Row.new (((Kept.refl w).alloc (.cells #[.slice A1 nc c1] 36)).alloc (.cells #[.slice A2 nt c2] 36)) 41 [.slice none 0 0, .slice none 0 0, .slice none 0 0] (w.heap.size + 1 + 1) (by simp))
  have HBC := Lib.hid ((Row.new (Kept.refl w) 36 [.slice A1 nc c1] _ rfl).kept (((Kept.refl _).alloc (.cells #[.slice A2 nt c2] 36)).alloc (.cells #[.slice none 0 0, .slice none 0 0, .slice none 0 0] 41)))
  have HBT := Lib.hid ((Row.new ((Kept.refl w).alloc (.cells #[.slice A1 nc c1] 36)) 36 [.slice A2 nt c2] (w.heap.size + 1) (by simp)).kept ((Kept.refl _).alloc (.cells #[.slice none 0 0, .slice none 0 0, .slice none 0 0] 41)))
  have b0 := HBC.out.cell 0 rfl
  have b1 := HBT.out.cell 0 rfl
  clear h hka
  generalize marksF clear things nd = code at HF hne HWR ⊢
  go_enter Try.func19, Try.ntmps19
  go_wp2_with fail
  refine HWR.out.mono ?_
  rintro e w1 ⟨rfl, k1⟩
  have RV := Lib.hid (HV.out.kept k1)
  generalize w.heap.size + 1 + 1 = V at RV ⊢
  have v0 := RV.out.cell 0 rfl
  have v1 := RV.out.cell 1 rfl
  have v2 := RV.out.cell 2 rfl
  have f0 := RV.out.free 0
  have f1 := RV.out.free 1
  have f2 := RV.out.free 2
  have R3 := Lib.hid (((RV.out.set 0 (.slice none 0 0)).set 1 (.slice none 0 0)).set 2 (.slice none 0 0))
  have Y0 := Lib.hid (R3.out.cell 0 rfl)
  have Y1 := Lib.hid (R3.out.cell 1 rfl)
  have Y2 := Lib.hid (R3.out.cell 2 rfl)
  clear HV HBC HBT HWR b0 b1
  go_wp2_with fail
  exact bodyPost_ret (v := .tuple #[.agg #[.slice none 0 0, .slice none 0 0, .slice none 0 0], .int .i64 code]) (by simp [results, Try.results19, go_sem, Y0.out, Y1.out, Y2.out]) rfl ⟨R3.out.kept0, _, HF.out, rfl⟩
end Go.Proofs.Ytnnddjanbfamkaa
