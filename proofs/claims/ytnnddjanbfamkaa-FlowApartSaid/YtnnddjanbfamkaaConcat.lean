/- slices.Grow on nil and slices.Concat of two, at labels. -/
import Derived.Test.YtnnddjanbfamkaaLabS
import Derived.Test.YtnnddjanbfamkaaSeat
import Derived.Test.YtnnddjanbfamkaaQuiet
import Derived.Lib.AppendZeros
import Derived.WalkLawsBesides
import Derived.WalkSpells
namespace Go.Proofs.Ytnnddjanbfamkaa
open Go Go.RowKit
set_option linter.unusedVariables false

theorem info_label : (Try.prog.info? 24).map (fun i => (i.zero, i.size, i.bytes)) = some (some (.agg #[.int .i64 0, .int .u32 0]), 2, 16) := by kernel_rfl
theorem own_slL {w0 w : World} {E : TypeId} {s n c : Nat} {A : Option Addr} {xs : List Value} (h : Own w0 w E s (.slice A n c) n xs) : Sl w s A n xs := by
  obtain ⟨A2, c2, e, hsl, _⟩ := h.form
  injection e with e
  subst e
  exact hsl
/-- a row of zeros that was just made, read as an empty one with room -/
theorem own_room (w : World) (e : TypeId) (z : Array Value) (s n cap : Nat) (hz : z.size = s) (hn : n ≤ cap) (hc : cap ≤ maxLen) :
    Own w (w.drew.alloc (.cells (Builtin.zeroCells z n ++ Builtin.zeroCells z (cap - n)) e)) e s (.slice (some ⟨w.heap.size, 0, none⟩) 0 cap) 0 [] := by
  refine ⟨⟨by simp, .inr ⟨w.heap.size, cap, Builtin.zeroCells z n ++ Builtin.zeroCells z (cap - n), rfl, Nat.le_refl _, heap_alloc_new w.drew _, Nat.zero_le _, hc, ?_, by simp⟩⟩, ((Kept.refl w).drew).alloc _⟩
  rw [Array.size_append, size_zeroCells, size_zeroCells, hz, ← Nat.add_mul]
  congr 1
  omega
set_option maxHeartbeats 800000 in
theorem grow_any (n : Nat) (w : World) (h0 : 0 < n) (hn : n ≤ 1000) :
    Calls Try.prog 71 #[.slice none 0 0, .int .i64 n] w fun e w' => ∃ A c, e = .returned (.slice A 0 c) ∧ Own w w' 24 2 (.slice A 0 c) 0 [] := by
  obtain ⟨i, hi0, hz, hsize, hby⟩ := info_parts info_label
  have hrun := Lib.run_append_nil_zeros (P := Try.prog) w 36 3 36 24 i (.agg #[.int .i64 0, .int .u32 0]) .i64 .i64 Try.underlying36 Try.underlying3 hi0 hz n h0 (by omega) (by omega) (by rw [hby]; omega)
  have d0 : decide ((n : Int) < 0) = false := by simp
  have d1 : decide (0 < (n : Int)) = true := by simp; omega
  have d2 : decide (0 < n) = true := by simp; omega
  have hcap := grownCap_ge w n 0 24
  have hcap2 := grownCap_le_maxLen w n 0 24 (by unfold maxLen; omega)
  have HO := Lib.hid (own_room w 24 #[.int .i64 0, .int .u32 0] 2 n (grownCap w n 0 24) rfl hcap hcap2)
  generalize grownCap w n 0 24 = cap at hrun hcap hcap2 HO
  have hc0 : (0 : Int) ≤ (cap : Int) := by omega
  go_enter Try.func71, Try.ntmps71
  go_wp2_with (at_builtin; refine Lib.wpList_append_run _ rfl _ _ _ _ rfl _ _ rfl rfl _ _ hrun ?_)
  go_ret
  exact ⟨_, cap, rfl, HO.out⟩
set_option maxHeartbeats 2000000 in
theorem concat_any (B : Nat) (A1 : Option Addr) (n1 c1 : Nat) (l1 : List Lab) (A2 : Option Addr) (n2 c2 : Nat) (l2 : List Lab) (w : World) (h0 : w.cell? ⟨B, 0, none⟩ = some (.slice A1 n1 c1)) (h1 : w.cell? ⟨B, 1, none⟩ = some (.slice A2 n2 c2)) (s1 : SlLab w A1 n1 l1) (s2 : SlLab w A2 n2 l2) (hpos : 0 < n1 + n2) (hle : n1 + n2 ≤ 1000) :
    Calls Try.prog 60 #[.slice (some ⟨B, 0, none⟩) 2 2] w fun e w' => ∃ A c, e = .returned (.slice A (n1 + n2) c) ∧ Own w w' 24 2 (.slice A (n1 + n2) c) (n1 + n2) (labCells (l1 ++ l2)) := by
  have hB : B < w.heap.size := cell_lt h0
  obtain ⟨n, hn⟩ : ∃ n, n1 + n2 = n := ⟨_, rfl⟩
  have hni : (n1 : Int) + (n2 : Int) = (n : Int) := by omega
  have HG := Lib.hid (grow_any n w (by omega) (by omega))
  have d1 : decide ((n1 : Int) < 0) = false := by simp
  have d2 : decide ((n : Int) < 0) = false := by simp
  go_enter Try.func60, Try.ntmps60
  go_wp2_with fail
  go_loop [3, 11] (fun s t => (t = .int .i64 0 ∧ s = .int .i64 0) ∨ (t = .int .i64 1 ∧ s = .int .i64 n1) ∨ (t = .int .i64 2 ∧ s = .int .i64 n)) (fun _ t => 2 - (intOf t).toNat)
  case atStart => exact .inl ⟨rfl, rfl⟩
  case round =>
    rcases hrel with ⟨rfl, rfl⟩ | ⟨rfl, rfl⟩ | ⟨rfl, rfl⟩
    · go_wp2_with fail
      go_round
      case rel => exact .inr (.inl ⟨rfl, by go_num⟩)
      case measure => simp [intOf]
    · go_wp2_with fail
      go_round
      case rel => exact .inr (.inr ⟨rfl, by go_num⟩)
      case measure => simp [intOf]
    · go_wp2_with fail
      refine HG.out.mono ?_
      rintro e w2 ⟨A, c, rfl, hown⟩
      go_wp2_with fail
      go_loopw [6, 27] (fun v t wr => (t = .int .i64 0 ∧ Own w wr 24 2 v 0 []) ∨ (t = .int .i64 1 ∧ Own w wr 24 2 v n1 (labCells l1)) ∨ (t = .int .i64 2 ∧ Own w wr 24 2 v n (labCells (l1 ++ l2)))) (fun _ t _ => 2 - (intOf t).toNat)
      case atStart => exact .inl ⟨rfl, hown⟩
      case round =>
        clear hown
        rcases hrel with ⟨rfl, hown⟩ | ⟨rfl, hown⟩ | ⟨rfl, hown⟩
        · have b0 := (hown.kept0.cell (p := ⟨B, 0, none⟩) hB).trans h0
          have HS := Lib.hid (s1.kept hown.kept0)
          have HO := Lib.hid hown
          obtain ⟨A3, c3, rfl, _, _⟩ := hown.form
          clear hown
          go_wp2_with (at_builtin; refine wpList_pushAll rfl _ _ 36 rfl 24 Try.underlying36 info_label rfl (by decide) (by decide) _ _ _ _ HO.out _ _ _ _ HS.out.1 rfl rfl (one_labs l1) n1 (by omega) (by omega) ?_; intro v7 w7 hown7)
          go_roundw
          case rel => exact .inr (.inl ⟨rfl, by simpa using hown7⟩)
          case measure => simp [intOf]
        · have b1 := (hown.kept0.cell (p := ⟨B, 1, none⟩) hB).trans h1
          have HS := Lib.hid (s2.kept hown.kept0)
          have HO := Lib.hid hown
          obtain ⟨A3, c3, rfl, _, _⟩ := hown.form
          clear hown
          go_wp2_with (at_builtin; refine wpList_pushAll rfl _ _ 36 rfl 24 Try.underlying36 info_label rfl (by decide) (by decide) _ _ _ _ HO.out _ _ _ _ HS.out.1 rfl rfl (one_labs l2) n (by omega) (by omega) ?_; intro v7 w7 hown7)
          go_roundw
          case rel => exact .inr (.inr ⟨rfl, by rw [labCells_append]; exact hown7⟩)
          case measure => simp [intOf]
        · obtain ⟨A3, c3, rfl, _, _⟩ := hown.form
          have HO := Lib.hid hown
          clear hown
          go_wp2_with fail
          go_ret
          exact ⟨A3, c3, by rw [hn]; rfl, by rw [hn]; exact HO.out⟩
end Go.Proofs.Ytnnddjanbfamkaa
