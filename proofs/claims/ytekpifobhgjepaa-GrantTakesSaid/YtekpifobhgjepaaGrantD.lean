/- grant.Play, where something is wrong; the deeds that drop no rights. -/
import Derived.Test.YtekpifobhgjepaaGrantC
namespace Go.Proofs.Ytekpifobhgjepaa
open Go Go.RowKit
set_option linter.unusedVariables false
set_option linter.unusedSimpArgs false

set_option maxRecDepth 100000 in
set_option maxHeartbeats 8000000 in
theorem play_bad (n : Int) (A : Option Addr) (len cp : Nat) (es : List Ed) (A3 : Option Addr) (nd c3 : Nat) (w : World) (hs : SlE w A len es) (hbad : 30 < nd ∨ edgeF n es ≠ 0) :
    Calls Try.prog 34 #[.int .i64 n, .slice A len cp, .slice A3 nd c3] w fun e w' => Kept w w' ∧ ∃ code : Int, (code != 0) = true ∧ e = .returned (.tuple #[.agg #[.slice none 0 0, .int .i64 0, .slice none 0 0], .int .i64 code]) := by
  have hka : Kept w (w.alloc (.cells #[.slice none 0 0, .int .i64 0, .slice none 0 0] 74)) := (Kept.refl _).alloc _
  have HKA := Lib.hid hka
  have HV := Lib.hid (Row.new (Kept.refl w) 74 [.slice none 0 0, .int .i64 0, .slice none 0 0] w.heap.size rfl)
  have HBLD := Lib.hid (build_any n A len cp es _ (hs.kept hka))
  by_cases h30 : 30 < nd
  · have d : decide (30 < (nd : Int)) = true := by simp; omega
    have Y0 := Lib.hid (HV.out.cell 0 rfl)
    have Y1 := Lib.hid (HV.out.cell 1 rfl)
    have Y2 := Lib.hid (HV.out.cell 2 rfl)
    clear hs hbad hka h30
    go_enter Try.func34, Try.ntmps34
    go_wp2_with fail
    exact bodyPost_ret (v := .tuple #[.agg #[.slice none 0 0, .int .i64 0, .slice none 0 0], .int .i64 1]) (by simp [results, Try.results34, go_sem, Y0.out, Y1.out, Y2.out]) rfl ⟨HKA.out, 1, rfl, rfl⟩
  · have d : decide (30 < (nd : Int)) = false := by simp; omega
    have H0 := Lib.hid (hbad.resolve_left h30)
    clear hs hbad hka h30
    go_enter Try.func34, Try.ntmps34
    go_wp2_with fail
    refine HBLD.out.mono ?_
    rintro e w1 (⟨h0, _⟩ | ⟨hne, rfl, k1⟩)
    · exact absurd h0 H0.out
    have HR0 := HV.out.kept k1
    have hlt := HR0.lt
    have v0 := HR0.cell 0 rfl
    have v1 := HR0.cell 1 rfl
    have v2 := HR0.cell 2 rfl
    have f0 := HR0.free 0
    have f1 := HR0.free 1
    have f2 := HR0.free 2
    have R1 := HR0.set 0 (.slice none 0 0)
    have R2 := R1.set 1 (.int .i64 0)
    have R3 := (R2.set 2 (.slice none 0 0)).alloc' (.cells #[.slice none 0 0] 92)
    have Y0 := Lib.hid (R3.cell 0 rfl)
    have Y1 := Lib.hid (R3.cell 1 rfl)
    have Y2 := Lib.hid (R3.cell 2 rfl)
    have KR := Lib.hid R3.kept0
    have HNE := Lib.hid hne
    clear HR0 R1 R2 R3 k1
    go_wp2_with fail
    exact bodyPost_ret (v := .tuple #[.agg #[.slice none 0 0, .int .i64 0, .slice none 0 0], .int .i64 (edgeF n es)]) (by simp [results, Try.results34, go_sem, Y0.out, Y1.out, Y2.out]) rfl ⟨KR.out, _, HNE.out, rfl⟩
/-- deeds that drop no rights -/
def keepsB (d : De) : Bool := decide (d.1 ≠ 4)
theorem deCells_snoc (ls : List De) (d : De) : deCells (ls ++ [d]) = deCells ls ++ [.int .i64 d.1, .int .i64 d.2.1, .int .i64 d.2.2.1, .int .i64 d.2.2.2.1, .int .u32 (W d.2.2.2.2.1), .int .i64 d.2.2.2.2.2] := by
  unfold deCells
  rw [List.flatMap_append]
  simp [dev]
theorem keeps_snoc (ds : List De) (k : Nat) (h : k < ds.length) : (ds.take (k + 1)).filter keepsB = (ds.take k).filter keepsB ++ if keepsB ds[k] then [ds[k]] else [] := by
  rw [take_snoc _ _ h, List.filter_append]
  cases hb : keepsB ds[k] <;> simp [hb]
theorem info_deedG : (Try.prog.info? 71).map (fun i => (i.zero, i.size, i.bytes)) = some (some (.agg #[.int .i64 0, .int .i64 0, .int .i64 0, .int .i64 0, .int .u32 0, .int .i64 0]), 6, 48) := by kernel_rfl
theorem one_deedG (a b c d e f : Int) : ∀ u ∈ (#[Value.int .i64 a, Value.int .i64 b, Value.int .i64 c, Value.int .i64 d, Value.int .u32 e, Value.int .i64 f] : Array Value).toList, u.oneCell' = true := fun u hu => by
  simp at hu
  rcases hu with rfl | rfl | rfl | rfl | rfl | rfl <;> rfl
theorem one_bit_pop : ∀ k : Fin 8, popN (1#32 <<< k.val) 32 = 1 := by decide +kernel
theorem sub_bit {i : Nat} {x : BitVec 32} (hi : i < 32) : subB (1#32 <<< i) x = x.getLsbD i := by
  rw [Bool.eq_iff_iff, subB_iff]
  constructor
  · intro h
    exact h i (by rw [getLsbD_bit]; simp [hi])
  · intro h j hj
    rw [getLsbD_bit, Bool.and_eq_true, decide_eq_true_eq] at hj
    have : i = j := by simpa using hj.1
    rw [← this]
    exact h
end Go.Proofs.Ytekpifobhgjepaa
