/- The walk of the closure in flow.raise: the label of what a line takes. -/
import Derived.Test.YtnnddjanbfamkaaFlow5
import Derived.Test.YtnnddjanbfamkaaLat2
import Derived.Deep.RegionHeld3
namespace Go.Proofs.Ytnnddjanbfamkaa
open Go Go.RowKit
set_option linter.unusedVariables false

def labA (x : Lab) : Value := .agg #[.int .i64 x.1, .int .u32 (W x.2)]
set_option maxRecDepth 100000 in
set_option maxHeartbeats 4000000 in
theorem of_low (Bc Bl : Nat) (cc : Lab) (lab : Nat → Lab) (i : Int) (hi : i < 0) (w : World) (c0 : w.cell? ⟨Bc, 0, none⟩ = some (.int .i64 cc.1)) (c1 : w.cell? ⟨Bc, 1, none⟩ = some (.int .u32 (W cc.2))) :
    Calls Try.prog 62 #[.int .i64 i, .pointer (some ⟨Bc, 0, none⟩), .pointer (some ⟨Bl, 0, none⟩)] w fun e w' => e = .returned (labA (ofL lab cc i)) ∧ Kept w w' := by
  have HO := Lib.hid (show ofL lab cc i = cc by unfold ofL; rw [if_pos hi])
  rw [HO.out]
  unfold labA
  have hd : decide (i < 0) = true := by rw [decide_eq_true_eq]; exact hi
  have hb := cell_lt c0
  have hne : Bc ≠ w.heap.size := by
    have : Bc < w.heap.size := hb
    omega
  have R3 := Lib.hid (Row.new (Kept.refl w) 24 [.int .i64 cc.1, .int .u32 (W cc.2)] _ rfl)
  clear hi
  go_enter Try.func62, Try.ntmps62
  go_wp2_with fail
  exact bodyPost_ret (v := .agg #[.int .i64 cc.1, .int .u32 (W cc.2)]) (by simp [results, Try.results62, go_sem]) rfl ⟨rfl, R3.out.kept0⟩
/-- what a step may do: nothing that was there is turned, but for the block L -/
def OfAt (w : World) (Bc Bl L n cl : Nat) (cc x : Lab) (j : Nat) : Prop :=
  w.cell? ⟨Bc, 0, none⟩ = some (.int .i64 cc.1) ∧ w.cell? ⟨Bc, 1, none⟩ = some (.int .u32 (W cc.2)) ∧ w.cell? ⟨Bl, 0, none⟩ = some (.slice (some ⟨L, 0, none⟩) n cl) ∧ w.cell? ⟨L, j * 2, none⟩ = some (.int .i64 x.1) ∧ w.cell? ⟨L, j * 2 + 1, none⟩ = some (.int .u32 (W x.2))
theorem OfAt.kept {w w' : World} {Bc Bl L n cl j : Nat} {cc x : Lab} (h : OfAt w Bc Bl L n cl cc x j) (k : Kept w w') : OfAt w' Bc Bl L n cl cc x j :=
  have up : ∀ {a : Addr} {v : Value}, w.cell? a = some v → w'.cell? a = some v := fun h => (k.cell (cell_lt h)).trans h
  ⟨up h.1, up h.2.1, up h.2.2.1, up h.2.2.2.1, up h.2.2.2.2⟩
set_option maxRecDepth 100000 in
set_option maxHeartbeats 8000000 in
theorem of_high (Bc Bl L n cl : Nat) (cc : Lab) (lab : Nat → Lab) (j : Nat) (hj : j < n) (hn : n ≤ 6) (w : World) (h : OfAt w Bc Bl L n cl cc (lab j) j) :
    Calls Try.prog 62 #[.int .i64 j, .pointer (some ⟨Bc, 0, none⟩), .pointer (some ⟨Bl, 0, none⟩)] w fun e w' => e = .returned (labA (ofL lab cc j)) ∧ Kept w w' := by
  have HO := Lib.hid (show ofL lab cc j = joinL cc (lab j) by unfold ofL; rw [if_neg (by omega), Int.toNat_natCast])
  rw [HO.out]
  generalize lab j = x at h ⊢
  obtain ⟨z, hz⟩ : ∃ z, joinL cc x = z := ⟨_, rfl⟩
  rw [hz]
  have HA := Lib.hid (fun w' => all_any cc.1 x.1 cc.2 x.2 w')
  rw [show max cc.1 x.1 = z.1 from congrArg Prod.fst hz, show cc.2 ||| x.2 = z.2 from congrArg Prod.snd hz] at HA
  unfold labA
  have hd : decide ((j : Int) < 0) = false := by rw [decide_eq_false_iff_not]; omega
  have i1 : (0 : Int) ≤ (j : Int) := by omega
  have i2 : (j : Int) < (n : Int) := by omega
  have HS := Lib.hid (fun w' (k : Kept w w') => show w'.cell? ⟨Bc, 0, none⟩ = some (.int .i64 cc.1) ∧ w'.cell? ⟨Bc, 1, none⟩ = some (.int .u32 (W cc.2)) ∧ w'.cell? ⟨Bl, 0, none⟩ = some (.slice (some ⟨L, 0, none⟩) n cl) ∧ w'.cell? ⟨L, j * 2, none⟩ = some (.int .i64 x.1) ∧ w'.cell? ⟨L, j * 2 + 1, none⟩ = some (.int .u32 (W x.2)) ∧ Kept w w' from
    have g := h.kept k
    ⟨g.1, g.2.1, g.2.2.1, g.2.2.2.1, g.2.2.2.2, k⟩)
  have ka : Kept w (w.alloc (.cells #[.int .i64 0, .int .u32 0] 24)) := (Kept.refl w).alloc _
  have rb := Row.new (Kept.refl w) 24 [.int .i64 0, .int .u32 0] w.heap.size rfl
  have RB := Lib.hid rb
  have r0 := rb.cell 0 rfl
  have r1 := rb.cell 1 rfl
  have f0 := rb.free 0
  have f1 := rb.free 1
  have KA := Lib.hid ka
  clear h hz rb ka
  go_enter Try.func62, Try.ntmps62
  go_wp2_with fail
  go_region_held3 (fun w' => w'.cell? ⟨Bc, 0, none⟩ = some (.int .i64 cc.1) ∧ w'.cell? ⟨Bc, 1, none⟩ = some (.int .u32 (W cc.2)) ∧ w'.cell? ⟨Bl, 0, none⟩ = some (.slice (some ⟨L, 0, none⟩) n cl) ∧ w'.cell? ⟨L, j * 2, none⟩ = some (.int .i64 x.1) ∧ w'.cell? ⟨L, j * 2 + 1, none⟩ = some (.int .u32 (W x.2)) ∧ Kept w w')
    ((refine HS.out _ ?_; repeat first | exact Kept.refl _ | exact K5.out | refine Kept.alloc ?_ _ | refine Kept.drew ?_ | refine Kept.setCell ?_ (by first | exact Nat.le_refl _ | exact K5.out.size) _))
    ((go_at_call 42
      refine (HA.out _).mono ?_
      rintro e w5 ⟨rfl, k5⟩
      have K5 := Lib.hid (Kept.trans (show Kept w _ by repeat first | exact Kept.refl _ | refine Kept.alloc ?_ _ | refine Kept.drew ?_) k5)
      have bxs := RB.out.kept (Kept.trans (show Kept (w.alloc (.cells #[.int .i64 0, .int .u32 0] 24)) _ by repeat first | exact Kept.refl _ | refine Kept.drew ?_) k5)
      have bc0 := bxs.cell 0 rfl
      have bc1 := bxs.cell 1 rfl
      have bf0 := bxs.free 0
      have bf1 := bxs.free 1
      have BXR := Lib.hid bxs
      clear bxs k5))
  have R3 := Lib.hid ((BXR.out.set 0 (.int .i64 z.1)).set 1 (.int .u32 (W z.2)))
  have Y0 := Lib.hid (R3.out.cell 0 rfl)
  have Y1 := Lib.hid (R3.out.cell 1 rfl)
  clear bc0 bc1 bf0 bf1 r0 r1 f0 f1
  go_wp2_with fail
  exact bodyPost_ret (v := .agg #[.int .i64 z.1, .int .u32 (W z.2)]) (by simp [results, Try.results62, go_sem, Y0.out, Y1.out]) rfl ⟨rfl, R3.out.kept0⟩
/-- the labels in memory -/
def LabO (w0 w : World) (L n cl : Nat) (lab : Nat → Lab) : Prop := Own w0 w 24 2 (.slice (some ⟨L, 0, none⟩) n cl) n (labsV n lab)
theorem LabO.kept {w0 w w' : World} {L n cl : Nat} {lab : Nat → Lab} (h : LabO w0 w L n cl lab) (k : Kept w w') : LabO w0 w' L n cl lab := Own.kept h k
theorem LabO.at_ {w0 w : World} {L n cl : Nat} {lab : Nat → Lab} (h : LabO w0 w L n cl lab) {j : Nat} (hj : j < n) : w.cell? ⟨L, j * 2, none⟩ = some (.int .i64 (lab j).1) ∧ w.cell? ⟨L, j * 2 + 1, none⟩ = some (.int .u32 (W (lab j).2)) :=
  ⟨Own.cell h _ (labsV_at lab hj).1, Own.cell h _ (labsV_at lab hj).2⟩
theorem labsV_upd (n : Nat) (m : Nat → Lab) (i : Nat) (x : Lab) : ((labsV n m).set (i * 2) (.int .i64 x.1)).set (i * 2 + 1) (.int .u32 (W x.2)) = labsV n (updLb m i x) := by
  unfold labsV
  rw [labCells_set]
  congr 1
  apply List.ext_getElem
  · simp
  · intro j h1 h2
    rw [List.getElem_set]
    simp only [List.getElem_map, List.getElem_range]
    unfold updLb
    by_cases e : i = j
    · subst e; simp
    · rw [if_neg e, if_neg (fun h => e h.symm)]
theorem LabO.put {w0 w : World} {L n cl : Nat} {lab : Nat → Lab} (h : LabO w0 w L n cl lab) (i : Nat) (x : Lab) : LabO w0 ((w.setCell ⟨L, i * 2, none⟩ (.int .i64 x.1)).setCell ⟨L, i * 2 + 1, none⟩ (.int .u32 (W x.2))) L n cl (updLb lab i x) := by
  have := Own.put (Own.put h (i * 2) (.int .i64 x.1)) (i * 2 + 1) (.int .u32 (W x.2))
  rw [labsV_upd] at this
  exact this
/-- the closure's boxes: the label that lies over the lines, and the labels -/
def BoxC (w : World) (Bc Bl L n cl : Nat) (cc : Lab) : Prop := w.cell? ⟨Bc, 0, none⟩ = some (.int .i64 cc.1) ∧ w.cell? ⟨Bc, 1, none⟩ = some (.int .u32 (W cc.2)) ∧ w.cell? ⟨Bl, 0, none⟩ = some (.slice (some ⟨L, 0, none⟩) n cl)
theorem BoxC.kept {w w' : World} {Bc Bl L n cl : Nat} {cc : Lab} (h : BoxC w Bc Bl L n cl cc) (k : Kept w w') : BoxC w' Bc Bl L n cl cc :=
  have up : ∀ {a : Addr} {v : Value}, w.cell? a = some v → w'.cell? a = some v := fun h => (k.cell (cell_lt h)).trans h
  ⟨up h.1, up h.2.1, up h.2.2⟩
theorem of_any (w0 : World) (Bc Bl L n cl : Nat) (cc : Lab) (lab : Nat → Lab) (a : Int) (ha : a < 0 ∨ (0 ≤ a ∧ a < (n : Int))) (hn : n ≤ 6) (w : World) (hb : BoxC w Bc Bl L n cl cc) (hl : LabO w0 w L n cl lab) :
    Calls Try.prog 62 #[.int .i64 a, .pointer (some ⟨Bc, 0, none⟩), .pointer (some ⟨Bl, 0, none⟩)] w fun e w' => e = .returned (labA (ofL lab cc a)) ∧ Kept w w' := by
  rcases ha with ha | ⟨ha, hb2⟩
  · exact of_low Bc Bl cc lab a ha w hb.1 hb.2.1
  · obtain ⟨j, rfl⟩ := Int.eq_ofNat_of_zero_le ha
    have hj : j < n := by omega
    exact of_high Bc Bl L n cl cc lab j hj hn w ⟨hb.1, hb.2.1, hb.2.2, (hl.at_ hj).1, (hl.at_ hj).2⟩
end Go.Proofs.Ytnnddjanbfamkaa
