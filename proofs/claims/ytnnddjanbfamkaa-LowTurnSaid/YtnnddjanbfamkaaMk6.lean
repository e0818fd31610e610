/- mark.Play's closure: any deed; making an array of labels. -/
import Derived.Test.YtnnddjanbfamkaaMk2
import Derived.Test.YtnnddjanbfamkaaMk3
import Derived.Test.YtnnddjanbfamkaaMk4
import Derived.Test.YtnnddjanbfamkaaMk5
namespace Go.Proofs.Ytnnddjanbfamkaa
open Go Go.RowKit
set_option linter.unusedVariables false

theorem made_labs (n : Nat) : madeCells #[Value.int .i64 0, Value.int .u32 0] (n * 2) = (labsV n fun _ => (0, 0#32)).toArray := by
  apply Array.ext
  · rw [size_madeCells]
    simp [labsV_length]
  · intro j h1 h2
    rw [size_madeCells] at h1
    have e1 : (madeCells #[Value.int .i64 0, Value.int .u32 0] (n * 2))[j]'(by rw [size_madeCells]; exact h1) = #[Value.int .i64 0, Value.int .u32 0][j % 2]! := by simp [madeCells]
    rw [e1, List.getElem_toArray]
    rcases (show j % 2 = 0 ∨ j % 2 = 1 by omega) with h | h
    · obtain ⟨k, rfl⟩ : ∃ k, j = k * 2 := ⟨j / 2, by omega⟩
      have := (labsV_at (n := n) (fun _ => ((0 : Int), 0#32)) (show k < n by omega)).1
      rw [h]
      rw [List.getElem?_eq_some_iff] at this
      obtain ⟨_, h3⟩ := this
      rw [h3]
      rfl
    · obtain ⟨k, rfl⟩ : ∃ k, j = k * 2 + 1 := ⟨j / 2, by omega⟩
      have := (labsV_at (n := n) (fun _ => ((0 : Int), 0#32)) (show k < n by omega)).2
      rw [h]
      rw [List.getElem?_eq_some_iff] at this
      obtain ⟨_, h3⟩ := this
      rw [h3, W_zero]
      rfl
/-- 'make([]api.Label, n)' -/
theorem run_makeL (n : Nat) (hn : n ≤ 1000) (W : World) :
    (Instr.makeSlice 36 (.int .i64 (n : Int)) (.int .i64 (n : Int))).run Try.prog W = .ok (.slice (some ⟨W.heap.size, 0, none⟩) n n) (W.alloc (.cells (labsV n fun _ => (0, 0#32)).toArray 24)) := by
  obtain ⟨i, hi0, hzz, hsize, hby⟩ := info_parts info_label
  rw [run_make (P := Try.prog) (w := W) 36 24 i _ Try.underlying36 hi0 hzz .i64 .i64 n n (by omega) (by omega) (by rw [hby]; omega) (by omega), hsize, Int.toNat_natCast]
  rw [show (Value.agg #[Value.int .i64 0, Value.int .u32 0]).cells = #[Value.int .i64 0, Value.int .u32 0] from rfl, made_labs]
theorem mk_any (Bc Bt O Bk M F K V : Nat) (A1 A2 : Option Addr) (nc c1 nt c2 : Nat) (VC : Value) (s : MSt) (clear things : List Lab) (d : Dd) (w0 w : World) (hw : MkSt w0 w Bc Bt O Bk M F K V A1 A2 nc c1 nt c2 VC s) (hc : SlLab w0 A1 nc clear) (hs : SlLab w0 A2 nt things) :
    Calls Try.prog 45 #[.agg #[.int .i64 d.1, .int .i64 d.2.1, .int .i64 d.2.2.1, .int .i64 d.2.2.2.1, .int .u32 (W d.2.2.2.2.1), .int .i64 d.2.2.2.2.2], .pointer (some ⟨Bc, 0, none⟩), .pointer (some ⟨Bt, 0, none⟩), .pointer (some ⟨O, 0, none⟩), .pointer (some ⟨Bk, 0, none⟩)] w (RetMk w0 w Bc Bt O Bk M F K V A1 A2 nc c1 nt c2 VC (markDo nc nt (lab clear) (lab things) s d)) := by
  by_cases hb : deedF nc nt d = 0
  · obtain ⟨kd, by_, to_, lv, pt, vl⟩ := d
    rcases deedF_zero hb with ⟨h3, u, hu, hun⟩ | ⟨h12, u, t, hu, hun, ht, htn⟩
    · obtain rfl : kd = 3 := h3
      obtain rfl : by_ = u := hu
      exact mk_drop Bc Bt O Bk M F K V A1 A2 nc c1 nt c2 VC s clear things u to_ lv pt vl w0 w hw hun
    · obtain rfl : by_ = u := hu
      obtain rfl : to_ = t := ht
      rcases h12 with h1 | h2
      · obtain rfl : kd = 1 := h1
        exact mk_read Bc Bt O Bk M F K V A1 A2 nc c1 nt c2 VC s clear things u t lv pt vl w0 w hw hc hs hun htn
      · obtain rfl : kd = 2 := h2
        exact mk_write Bc Bt O Bk M F K V A1 A2 nc c1 nt c2 VC s clear things u t lv pt vl w0 w hw hs hun htn
  · exact mk_bad Bc Bt O Bk M F K V A1 A2 nc c1 nt c2 VC s clear things d w0 w hw hb
end Go.Proofs.Ytnnddjanbfamkaa
