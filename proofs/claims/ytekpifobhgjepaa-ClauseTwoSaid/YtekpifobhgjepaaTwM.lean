/- Sets of clauses: maps that the call itself has made, keyed by a struct of two words. -/
import Derived.Test.YtekpifobhgjepaaTwF
import Derived.Test.YtekpifobhgjepaaMapK
import Derived.Test.YtekpifobhgjepaaSeat
import Derived.DeepKeys4
namespace Go.Proofs.Ytekpifobhgjepaa
open Go Go.RowKit
set_option linter.unusedVariables false

theorem clLaidOut : laidOutB Try.prog = true := by kernel_rfl
theorem clRow : (29 : TypeId) < Try.prog.types.size := of_decide_eq_true (by kernel_rfl)
theorem clAt : Try.prog.keyTypeAt 2 29 = true := by kernel_rfl
theorem clLaw : Go.WideMaps.KeyLaw Try.prog 29 := deep_law_laid clLaidOut (m := 2) (by omega) clRow clAt (by simp only [Try.underlying29])
theorem clKeyed : Go.Maps.Keyed Try.prog 29 := Go.Maps.Keyed.of_law clLaw
theorem clKT : Try.prog.keyType 29 = true := by kernel_rfl
theorem clCells : Try.prog.cellsOf 29 = 2 := by kernel_rfl
theorem u32Cells : Try.prog.cellsOf 23 = 1 := by kernel_rfl
theorem zero_boolv (w : World) : (zeroValue 4).run Try.prog w = .ok (.bool false) w := by kernel_rfl
def cbV (c : Ru) : Value := .agg #[.int .u32 (W c.1), .int .u32 (W c.2)]
theorem cbV_inj {a b : Ru} (h : cbV a = cbV b) : a = b := by
  unfold cbV at h
  simp only [Value.agg.injEq, Array.mk.injEq, List.cons.injEq, Value.int.injEq, true_and, and_true] at h
  exact Prod.ext (W_inj.1 h.1) (W_inj.1 h.2)
theorem cl_key (c : Ru) : ∃ l, keyOf Try.prog 29 (cbV c) = some l := by
  obtain ⟨m, hm⟩ : ∃ m, Try.prog.types.size = m + 1 := Nat.exists_eq_succ_of_ne_zero (Nat.ne_of_gt (Nat.lt_of_le_of_lt (Nat.zero_le _) clRow))
  have w1 := wf_W c.1
  have w2 := wf_W c.2
  have hu := Try.underlying29
  have hi := Try.underlying23
  unfold keyOf
  simp only [hu]
  have hf : (cbV c).formed Try.prog 29 = true := by
    unfold Value.formed cbV
    simp only [hu, clCells]
    rfl
  rw [clKT, hf, hm]
  simp only [Bool.and_self, if_true]
  unfold cbV
  unfold Program.keyLits
  simp only [hu]
  simp [Value.cells, clCells, u32Cells, Program.keyLits, hi, w1, w2]
/-- a set of cubes in memory -/
def LevK (w : World) (b : Nat) (lev : List Ru) : Prop := MapK w Try.prog 29 b (lev.map cbV) (fun _ => .bool true)
theorem LevK.kept {w w' : World} {b : Nat} {lev : List Ru} (h : LevK w b lev) (k : Kept w w') : LevK w' b lev := MapK.kept h k
theorem mem_cbV {lev : List Ru} {c : Ru} : cbV c ∈ lev.map cbV ↔ c ∈ lev := by
  constructor
  · intro h
    obtain ⟨x, hx, e⟩ := List.mem_map.1 h
    rw [← cbV_inj e]
    exact hx
  · exact fun h => List.mem_map.2 ⟨c, h, rfl⟩
open Classical in
theorem LevK.look {w : World} {b : Nat} {lev : List Ru} (h : LevK w b lev) (c : Ru) :
    (Instr.lookup 84 (.map (some b)) (cbV c) false).run Try.prog w = .ok (.bool (decide (c ∈ lev))) w := by
  by_cases hm : c ∈ lev
  · rw [decide_eq_true hm]
    exact MapK.look h clKeyed Try.underlying84 (zero_boolv _) (mem_cbV.2 hm) false
  · rw [decide_eq_false hm]
    obtain ⟨kl, hkl⟩ := cl_key c
    exact MapK.miss h clKeyed Try.underlying84 (zero_boolv _) hkl (fun e => hm (mem_cbV.1 e)) false
theorem LevK.put {w : World} {b : Nat} {lev : List Ru} (h : LevK w b lev) (hn : lev.length ≤ 1000000) (c : Ru) :
    ∃ w' lev', (Instr.mapUpdate 84 (.map (some b)) (cbV c) (.bool true)).run Try.prog w = .ok () w' ∧ LevK w' b lev' ∧ (∀ x, x ∈ lev' ↔ x ∈ lev ∨ x = c) ∧ lev'.length ≤ lev.length + 1 ∧ w.grownBy w' (some b) := by
  have hcongr : ∀ y, updK (fun _ => Value.bool true) (cbV c) (.bool true) y = .bool true := fun y => by
    unfold updK
    split <;> rfl
  by_cases hm : c ∈ lev
  · obtain ⟨w', hr, hm', hg⟩ := MapK.set h clKeyed Try.underlying84 (v := .bool true) (mem_cbV.2 hm)
    refine ⟨w', lev, hr, MapK.congr hm' (fun x _ => hcongr x), fun x => ⟨fun h => .inl h, fun h => ?_⟩, by omega, hg⟩
    rcases h with h | rfl
    · exact h
    · exact hm
  · obtain ⟨kl, hkl⟩ := cl_key c
    obtain ⟨w', hr, hm', hg⟩ := MapK.put h clKeyed Try.underlying84 (by rw [List.length_map]; unfold maxLen; omega) (v := .bool true) hkl (fun e => hm (mem_cbV.1 e))
    refine ⟨w', lev ++ [c], hr, ?_, fun x => by simp, by simp, hg⟩
    unfold LevK
    rw [List.map_append]
    exact MapK.congr hm' (fun x _ => hcongr x)
theorem LevK.made (w : World) (B : Nat) (hB : w.heap.size = B) : LevK (w.alloc (.map #[] 0)) B [] := MapK.made w Try.prog _ _ B hB
end Go.Proofs.Ytekpifobhgjepaa
