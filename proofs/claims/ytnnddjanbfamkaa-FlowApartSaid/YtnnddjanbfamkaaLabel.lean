/- The walks of package label. -/
import Derived.Test.YtnnddjanbfamkaaSeat
import Derived.Test.YtnnddjanbfamkaaQuiet
import Derived.WalkLawsBesides
import Derived.WalkSpells
namespace Go.Proofs.Ytnnddjanbfamkaa
open Go Go.RowKit
set_option linter.unusedVariables false

/-- a label: a level and a set of parts -/
abbrev Lab := Int × BitVec 32
def labOk (a : Lab) : Bool := decide (0 ≤ a.1) && decide (a.1 ≤ 3) && fitB 5 a.2
def labF (a : Lab) : Int := if labOk a then 0 else 4
def bothF (a b : Lab) : Int := if labOk a && labOk b then 0 else 4
theorem labOk_iff {l : Int} {p : BitVec 32} : labOk (l, p) = true ↔ 0 ≤ l ∧ l ≤ 3 ∧ fitB 5 p = true := by
  unfold labOk
  simp [and_assoc]
theorem labF_zero {a : Lab} (h : labOk a = true) : labF a = 0 := by unfold labF; rw [if_pos h]
theorem labF_four {a : Lab} (h : labOk a = false) : labF a = 4 := by unfold labF; rw [h]; rfl
theorem W_ge32 {p : BitVec 32} {b : Bool} (h : fitB 5 p = b) : decide ((32 : Int) ≤ W p) = !b := by
  rw [← h, fitB_lt (by omega)]
  unfold W
  rw [Bool.eq_iff_iff]
  simp [BitVec.lt_def]
  omega
def leB (a b : Lab) : Bool := decide (a.1 ≤ b.1) && subB a.2 b.2
def joinL (a b : Lab) : Lab := (max a.1 b.1, a.2 ||| b.2)
def meetL (a b : Lab) : Lab := (min a.1 b.1, a.2 &&& b.2)

theorem labCheck_any (l : Int) (p : BitVec 32) (w : World) : Calls Try.prog 40 #[.agg #[.int .i64 l, .int .u32 (W p)]] w fun e w' => e = .returned (.int .i64 (labF (l, p))) ∧ Kept w w' := by
  cases hf : fitB 5 p
  · have h32 := W_ge32 hf
    have HF := Lib.hid (show labF (l, p) = 4 from labF_four (by
      cases h : labOk (l, p)
      · rfl
      · rw [labOk_iff] at h; rw [h.2.2] at hf; cases hf))
    clear hf
    by_cases h0 : l < 0
    · have d0 : decide (l < 0) = true := by simpa using h0
      go_enter Try.func40, Try.ntmps40
      go_wp2
      go_ret
      exact ⟨by rw [HF.out]; rfl, (Kept.refl _).alloc _⟩
    · have d0 : decide (l < 0) = false := by simpa using h0
      by_cases h3 : 3 < l
      · have d3 : decide (3 < l) = true := by simpa using h3
        go_enter Try.func40, Try.ntmps40
        go_wp2
        go_ret
        exact ⟨by rw [HF.out]; rfl, (Kept.refl _).alloc _⟩
      · have d3 : decide (3 < l) = false := by simpa using h3
        go_enter Try.func40, Try.ntmps40
        go_wp2
        go_ret
        exact ⟨by rw [HF.out]; rfl, (Kept.refl _).alloc _⟩
  · have h32 := W_ge32 hf
    by_cases h0 : l < 0
    · have HF := Lib.hid (show labF (l, p) = 4 from labF_four (by
        cases h : labOk (l, p)
        · rfl
        · rw [labOk_iff] at h; omega))
      have d0 : decide (l < 0) = true := by simpa using h0
      clear hf
      go_enter Try.func40, Try.ntmps40
      go_wp2
      go_ret
      exact ⟨by rw [HF.out]; rfl, (Kept.refl _).alloc _⟩
    · have d0 : decide (l < 0) = false := by simpa using h0
      by_cases h3 : 3 < l
      · have HF := Lib.hid (show labF (l, p) = 4 from labF_four (by
          cases h : labOk (l, p)
          · rfl
          · rw [labOk_iff] at h; omega))
        have d3 : decide (3 < l) = true := by simpa using h3
        clear hf
        go_enter Try.func40, Try.ntmps40
        go_wp2
        go_ret
        exact ⟨by rw [HF.out]; rfl, (Kept.refl _).alloc _⟩
      · have HF := Lib.hid (show labF (l, p) = 0 from labF_zero (labOk_iff.2 ⟨by omega, by omega, hf⟩))
        have d3 : decide (3 < l) = false := by simpa using h3
        clear hf
        go_enter Try.func40, Try.ntmps40
        go_wp2
        go_ret
        exact ⟨by rw [HF.out]; rfl, (Kept.refl _).alloc _⟩

theorem labFits_any (n : Nat) (hn : n < 32) (x : BitVec 32) (w : World) : Calls Try.prog 23 #[.int .i64 n, .int .u32 (W x)] w fun e w' => e = .returned (.bool (fitB n x)) ∧ w = w' := by
  have h1 : decide (32 ≤ (n : Int)) = false := by simp; omega
  rw [fitB_lt hn]
  go_enter Try.func23, Try.ntmps23
  go_wp2
  go_ret
  exact ⟨rfl, rfl⟩
theorem refLabCheck_any (l : Int) (p : BitVec 32) (w : World) : Calls Try.prog 14 #[.agg #[.int .i64 l, .int .u32 (W p)]] w fun e w' => e = .returned (.int .i64 (labF (l, p))) ∧ Kept w w' := by
  by_cases h0 : l < 0
  · have HF := Lib.hid (show labF (l, p) = 4 from labF_four (by
      cases h : labOk (l, p)
      · rfl
      · rw [labOk_iff] at h; omega))
    have d0 : decide (l < 0) = true := by simpa using h0
    go_enter Try.func14, Try.ntmps14
    go_wp2
    go_ret
    exact ⟨by rw [HF.out]; rfl, (Kept.refl _).alloc _⟩
  · have d0 : decide (l < 0) = false := by simpa using h0
    by_cases h3 : 3 < l
    · have HF := Lib.hid (show labF (l, p) = 4 from labF_four (by
        cases h : labOk (l, p)
        · rfl
        · rw [labOk_iff] at h; omega))
      have d3 : decide (3 < l) = true := by simpa using h3
      go_enter Try.func14, Try.ntmps14
      go_wp2
      go_ret
      exact ⟨by rw [HF.out]; rfl, (Kept.refl _).alloc _⟩
    · have d3 : decide (3 < l) = false := by simpa using h3
      have HF := Lib.hid (show labF (l, p) = if fitB 5 p then 0 else 4 by
        have a1 : decide (0 ≤ l) = true := by simp; omega
        have a2 : decide (l ≤ 3) = true := by simp; omega
        unfold labF labOk
        simp only [a1, a2, Bool.true_and])
      cases hf : fitB 5 p
      all_goals
        have HP := Lib.hid hf
        go_enter Try.func14, Try.ntmps14
        go_wp2_with (go_at_call 23; refine (labFits_any 5 (by omega) _ _).mono ?_; rintro e w' ⟨rfl, rfl⟩)
        go_ret
        exact ⟨by rw [HF.out, HP.out]; rfl, (Kept.refl _).alloc _⟩

theorem number_ok (l : Int) (p : BitVec 32) (w : World) (h : labOk (l, p) = true) : Calls Try.prog 13 #[.agg #[.int .i64 l, .int .u32 (W p)]] w fun e w' => e = .returned (.tuple #[.int .i64 (l * 32 + W p), .int .i64 0]) ∧ Kept w w' := by
  have HF := Lib.hid (labF_zero h)
  obtain ⟨h0, h3, hf⟩ := labOk_iff.1 h
  have hp0 := W_nonneg p
  have hp1 : W p < 32 := by have := W_ge32 hf; simpa using this
  clear h hf
  go_enter Try.func13, Try.ntmps13
  go_wp2_with fail
  refine (labCheck_any _ _ _).mono ?_
  rintro e w1 ⟨rfl, k1⟩
  rw [HF.out]
  have q1 : Kept w w1 := ((Kept.refl w).alloc _).trans k1
  have c0 : w1.cell? ⟨w.heap.size, 0, none⟩ = some (.int .i64 l) := (k1.cell (p := ⟨w.heap.size, 0, none⟩) (by simp)).trans (by simp)
  have c1 : w1.cell? ⟨w.heap.size, 1, none⟩ = some (.int .u32 (W p)) := (k1.cell (p := ⟨w.heap.size, 1, none⟩) (by simp)).trans (by simp)
  clear k1
  go_wp2_with fail
  go_ret2
  exact ⟨rfl, q1⟩
theorem number_no (l : Int) (p : BitVec 32) (w : World) (h : labOk (l, p) = false) : Calls Try.prog 13 #[.agg #[.int .i64 l, .int .u32 (W p)]] w fun e w' => e = .returned (.tuple #[.int .i64 0, .int .i64 4]) ∧ Kept w w' := by
  have HF := Lib.hid (labF_four h)
  clear h
  go_enter Try.func13, Try.ntmps13
  go_wp2_with fail
  refine (labCheck_any _ _ _).mono ?_
  rintro e w1 ⟨rfl, k1⟩
  rw [HF.out]
  have q1 : Kept w w1 := ((Kept.refl w).alloc _).trans k1
  clear k1
  go_wp2_with fail
  go_ret2
  exact ⟨rfl, q1⟩
/-- the label of a number -/
theorem label_ok (k : Nat) (w : World) (h : k < 128) : Calls Try.prog 15 #[.int .i64 k] w fun e w' => e = .returned (.tuple #[.agg #[.int .i64 ((k : Int) / 32), .int .u32 (W (BitVec.ofNat 32 (k % 32)))], .int .i64 0]) ∧ Kept w w' := by
  have d0 : decide ((k : Int) < 0) = false := by simp
  have d1 : decide ((128 : Int) ≤ (k : Int)) = false := by simp; omega
  have HW := Lib.hid (show ((k : Int) % 32) = W (BitVec.ofNat 32 (k % 32)) by
    unfold W
    rw [BitVec.toNat_ofNat]
    omega)
  go_enter Try.func15, Try.ntmps15
  go_wp2_with fail
  rw [HW.out]
  exact bodyPost_ret (v := .tuple #[.agg #[.int .i64 ((k : Int) / 32), .int .u32 (W (BitVec.ofNat 32 (k % 32)))], .int .i64 0]) (by simp [results, Try.results15, go_sem]) rfl ⟨rfl, (Kept.refl _).alloc _⟩
theorem label_no (k : Int) (w : World) (h : k < 0 ∨ 128 ≤ k) : Calls Try.prog 15 #[.int .i64 k] w fun e w' => e = .returned (.tuple #[.agg #[.int .i64 0, .int .u32 0], .int .i64 5]) ∧ Kept w w' := by
  by_cases h0 : k < 0
  · have d0 : decide (k < 0) = true := by simpa using h0
    clear h
    go_enter Try.func15, Try.ntmps15
    go_wp2_with fail
    exact bodyPost_ret (v := .tuple #[.agg #[.int .i64 0, .int .u32 0], .int .i64 5]) (by simp [results, Try.results15, go_sem]) rfl ⟨rfl, (Kept.refl _).alloc _⟩
  · have d0 : decide (k < 0) = false := by simpa using h0
    have d1 : decide ((128 : Int) ≤ k) = true := by simp; omega
    clear h
    go_enter Try.func15, Try.ntmps15
    go_wp2_with fail
    exact bodyPost_ret (v := .tuple #[.agg #[.int .i64 0, .int .u32 0], .int .i64 5]) (by simp [results, Try.results15, go_sem]) rfl ⟨rfl, (Kept.refl _).alloc _⟩
theorem both_any (l m : Int) (p q : BitVec 32) (w : World) : Calls Try.prog 41 #[.agg #[.int .i64 l, .int .u32 (W p)], .agg #[.int .i64 m, .int .u32 (W q)]] w fun e w' => e = .returned (.int .i64 (bothF (l, p) (m, q))) ∧ Kept w w' := by
  go_enter Try.func41, Try.ntmps41
  go_wp2_with fail
  refine (labCheck_any _ _ _).mono ?_
  rintro e w1 ⟨rfl, k1⟩
  have q1 : Kept w w1 := (((Kept.refl w).alloc _).alloc _).trans k1
  have c0 : w1.cell? ⟨w.heap.size + 1, 0, none⟩ = some (.int .i64 m) := (k1.cell (p := ⟨w.heap.size + 1, 0, none⟩) (by simp)).trans (by simp)
  have c1 : w1.cell? ⟨w.heap.size + 1, 1, none⟩ = some (.int .u32 (W q)) := (k1.cell (p := ⟨w.heap.size + 1, 1, none⟩) (by simp)).trans (by simp)
  clear k1
  cases ha : labOk (l, p)
  · have HA := Lib.hid ha
    rw [labF_four ha]
    clear ha
    go_wp2_with fail
    go_ret
    exact ⟨by unfold bothF; rw [HA.out]; rfl, q1⟩
  · have HA := Lib.hid ha
    rw [labF_zero ha]
    clear ha
    go_wp2_with fail
    refine (labCheck_any _ _ _).mono ?_
    rintro e w2 ⟨rfl, k2⟩
    go_wp2_with fail
    go_ret
    exact ⟨by unfold bothF; rw [HA.out]; rfl, q1.trans k2⟩
theorem least_any (l m : Int) (p q : BitVec 32) (w : World) : Calls Try.prog 43 #[.agg #[.int .i64 l, .int .u32 (W p)], .agg #[.int .i64 m, .int .u32 (W q)]] w fun e w' => e = .returned (.bool (leB (l, p) (m, q))) ∧ Kept w w' := by
  cases h : decide (l ≤ m)
  all_goals
    have H := Lib.hid h
    go_enter Try.func43, Try.ntmps43
    go_wp2
    go_ret
    exact ⟨by unfold leB; rw [H.out]; rfl, ((Kept.refl _).alloc _).alloc _⟩
theorem all_any (l m : Int) (p q : BitVec 32) (w : World) : Calls Try.prog 42 #[.agg #[.int .i64 l, .int .u32 (W p)], .agg #[.int .i64 m, .int .u32 (W q)]] w fun e w' => e = .returned (.agg #[.int .i64 (max l m), .int .u32 (W (p ||| q))]) ∧ Kept w w' := by
  by_cases h : l < m
  · rw [Int.max_eq_right (by omega)]
    go_enter Try.func42, Try.ntmps42
    go_wp2_with fail
    exact bodyPost_ret (v := .agg #[.int .i64 m, .int .u32 (W (p ||| q))]) (by simp [results, Try.results42, go_sem]) rfl ⟨rfl, (((Kept.refl _).alloc _).alloc _).alloc _⟩
  · have h2 : m ≤ l := by omega
    rw [Int.max_eq_left h2]
    go_enter Try.func42, Try.ntmps42
    go_wp2_with fail
    exact bodyPost_ret (v := .agg #[.int .i64 l, .int .u32 (W (p ||| q))]) (by simp [results, Try.results42, go_sem]) rfl ⟨rfl, (((Kept.refl _).alloc _).alloc _).alloc _⟩
theorem under_ok (l m : Int) (p q : BitVec 32) (w : World) (h : (labOk (l, p) && labOk (m, q)) = true) : Calls Try.prog 18 #[.agg #[.int .i64 l, .int .u32 (W p)], .agg #[.int .i64 m, .int .u32 (W q)]] w fun e w' => e = .returned (.tuple #[.bool (leB (l, p) (m, q)), .int .i64 0]) ∧ Kept w w' := by
  have HB := Lib.hid (show bothF (l, p) (m, q) = 0 by unfold bothF; rw [if_pos h])
  clear h
  go_enter Try.func18, Try.ntmps18
  go_wp2_with fail
  refine (both_any _ _ _ _ _).mono ?_
  rintro e w1 ⟨rfl, k1⟩
  rw [HB.out]
  have q1 : Kept w w1 := (((Kept.refl w).alloc _).alloc _).trans k1
  have c0 : w1.cell? ⟨w.heap.size, 0, none⟩ = some (.int .i64 l) := (k1.cell (p := ⟨w.heap.size, 0, none⟩) (by simp; omega)).trans (by simp)
  have c1 : w1.cell? ⟨w.heap.size, 1, none⟩ = some (.int .u32 (W p)) := (k1.cell (p := ⟨w.heap.size, 1, none⟩) (by simp; omega)).trans (by simp)
  have c2 : w1.cell? ⟨w.heap.size + 1, 0, none⟩ = some (.int .i64 m) := (k1.cell (p := ⟨w.heap.size + 1, 0, none⟩) (by simp)).trans (by simp)
  have c3 : w1.cell? ⟨w.heap.size + 1, 1, none⟩ = some (.int .u32 (W q)) := (k1.cell (p := ⟨w.heap.size + 1, 1, none⟩) (by simp)).trans (by simp)
  clear k1
  go_wp2_with fail
  refine (least_any _ _ _ _ _).mono ?_
  rintro e w2 ⟨rfl, k2⟩
  go_wp2_with fail
  go_ret2
  exact ⟨rfl, q1.trans k2⟩
theorem join_ok (l m : Int) (p q : BitVec 32) (w : World) (h : (labOk (l, p) && labOk (m, q)) = true) : Calls Try.prog 16 #[.agg #[.int .i64 l, .int .u32 (W p)], .agg #[.int .i64 m, .int .u32 (W q)]] w fun e w' => e = .returned (.tuple #[.agg #[.int .i64 (max l m), .int .u32 (W (p ||| q))], .int .i64 0]) ∧ Kept w w' := by
  have HB := Lib.hid (show bothF (l, p) (m, q) = 0 by unfold bothF; rw [if_pos h])
  clear h
  go_enter Try.func16, Try.ntmps16
  go_wp2_with fail
  refine (both_any _ _ _ _ _).mono ?_
  rintro e w1 ⟨rfl, k1⟩
  rw [HB.out]
  have q1 : Kept w w1 := ((((Kept.refl w).alloc _).alloc _).alloc _).trans k1
  obtain ⟨x0, x1, x2⟩ := boxes3 k1
  have c0 := x0.at_ 0 rfl
  have c1 := x0.at_ 1 rfl
  have c2 := x1.at_ 0 rfl
  have c3 := x1.at_ 1 rfl
  clear k1 x0 x1
  go_wp2_with fail
  refine (all_any _ _ _ _ _).mono ?_
  rintro e w2 ⟨rfl, k2⟩
  have y2 := x2.kept k2
  have g4 := y2.at_ 0 rfl
  have g5 := y2.at_ 1 rfl
  have h4 := y2.2.2 0
  have h5 := y2.2.2 1
  have q2 := q1.trans k2
  clear k2 c0 c1 c2 c3 x2
  go_wp2_with fail
  have q3 := (q2.setCell (p := ⟨w.heap.size + 1 + 1, 0, none⟩) (by simp; omega) (.int .i64 (max l m))).setCell (p := ⟨w.heap.size + 1 + 1, 1, none⟩) (by simp; omega) (.int .u32 (W (p ||| q)))
  exact bodyPost_ret (v := .tuple #[.agg #[.int .i64 (max l m), .int .u32 (W (p ||| q))], .int .i64 0]) (by simp [results, Try.results16, go_sem, g4, g5]) rfl ⟨rfl, q3⟩
theorem join_no (l m : Int) (p q : BitVec 32) (w : World) (h : (labOk (l, p) && labOk (m, q)) = false) : Calls Try.prog 16 #[.agg #[.int .i64 l, .int .u32 (W p)], .agg #[.int .i64 m, .int .u32 (W q)]] w fun e w' => e = .returned (.tuple #[.agg #[.int .i64 0, .int .u32 0], .int .i64 4]) ∧ Kept w w' := by
  have HB := Lib.hid (show bothF (l, p) (m, q) = 4 by unfold bothF; rw [h]; rfl)
  clear h
  go_enter Try.func16, Try.ntmps16
  go_wp2_with fail
  refine (both_any _ _ _ _ _).mono ?_
  rintro e w1 ⟨rfl, k1⟩
  rw [HB.out]
  have q1 : Kept w w1 := ((((Kept.refl w).alloc _).alloc _).alloc _).trans k1
  obtain ⟨x0, x1, x2⟩ := boxes3 k1
  have g4 := x2.at_ 0 rfl
  have g5 := x2.at_ 1 rfl
  have h4 := x2.2.2 0
  have h5 := x2.2.2 1
  clear k1 x0 x1
  go_wp2_with fail
  have q3 := (q1.setCell (p := ⟨w.heap.size + 1 + 1, 0, none⟩) (by simp; omega) (.int .i64 0)).setCell (p := ⟨w.heap.size + 1 + 1, 1, none⟩) (by simp; omega) (.int .u32 0)
  exact bodyPost_ret (v := .tuple #[.agg #[.int .i64 0, .int .u32 0], .int .i64 4]) (by simp [results, Try.results16, go_sem, g4, g5]) rfl ⟨rfl, q3⟩
theorem meet_no (l m : Int) (p q : BitVec 32) (w : World) (h : (labOk (l, p) && labOk (m, q)) = false) : Calls Try.prog 17 #[.agg #[.int .i64 l, .int .u32 (W p)], .agg #[.int .i64 m, .int .u32 (W q)]] w fun e w' => e = .returned (.tuple #[.agg #[.int .i64 0, .int .u32 0], .int .i64 4]) ∧ Kept w w' := by
  have HB := Lib.hid (show bothF (l, p) (m, q) = 4 by unfold bothF; rw [h]; rfl)
  clear h
  go_enter Try.func17, Try.ntmps17
  go_wp2_with fail
  refine (both_any _ _ _ _ _).mono ?_
  rintro e w1 ⟨rfl, k1⟩
  rw [HB.out]
  have q1 : Kept w w1 := ((((Kept.refl w).alloc _).alloc _).alloc _).trans k1
  obtain ⟨x0, x1, x2⟩ := boxes3 k1
  have g4 := x2.at_ 0 rfl
  have g5 := x2.at_ 1 rfl
  have h4 := x2.2.2 0
  have h5 := x2.2.2 1
  clear k1 x0 x1
  go_wp2_with fail
  have q3 := (q1.setCell (p := ⟨w.heap.size + 1 + 1, 0, none⟩) (by simp; omega) (.int .i64 0)).setCell (p := ⟨w.heap.size + 1 + 1, 1, none⟩) (by simp; omega) (.int .u32 0)
  exact bodyPost_ret (v := .tuple #[.agg #[.int .i64 0, .int .u32 0], .int .i64 4]) (by simp [results, Try.results17, go_sem, g4, g5]) rfl ⟨rfl, q3⟩
theorem under_no (l m : Int) (p q : BitVec 32) (w : World) (h : (labOk (l, p) && labOk (m, q)) = false) : Calls Try.prog 18 #[.agg #[.int .i64 l, .int .u32 (W p)], .agg #[.int .i64 m, .int .u32 (W q)]] w fun e w' => e = .returned (.tuple #[.bool false, .int .i64 4]) ∧ Kept w w' := by
  have HB := Lib.hid (show bothF (l, p) (m, q) = 4 by unfold bothF; rw [h]; rfl)
  clear h
  go_enter Try.func18, Try.ntmps18
  go_wp2_with fail
  refine (both_any _ _ _ _ _).mono ?_
  rintro e w1 ⟨rfl, k1⟩
  rw [HB.out]
  have q1 : Kept w w1 := (((Kept.refl w).alloc _).alloc _).trans k1
  clear k1
  go_wp2_with fail
  go_ret2
  exact ⟨rfl, q1⟩
theorem meet_ok (l m : Int) (p q : BitVec 32) (w : World) (h : (labOk (l, p) && labOk (m, q)) = true) : Calls Try.prog 17 #[.agg #[.int .i64 l, .int .u32 (W p)], .agg #[.int .i64 m, .int .u32 (W q)]] w fun e w' => e = .returned (.tuple #[.agg #[.int .i64 (min l m), .int .u32 (W (p &&& q))], .int .i64 0]) ∧ Kept w w' := by
  have HB := Lib.hid (show bothF (l, p) (m, q) = 0 by unfold bothF; rw [if_pos h])
  clear h
  obtain ⟨z, hz⟩ : ∃ z, min l m = z := ⟨_, rfl⟩
  have HZ := Lib.hid hz
  clear hz
  have hcase : (l ≤ m ∧ z = l) ∨ (m < l ∧ z = m) := by have := HZ.out; omega
  rcases hcase with ⟨hlm, rfl⟩ | ⟨hlm, rfl⟩
  all_goals
    rw [HZ.out]
    go_enter Try.func17, Try.ntmps17
    go_wp2_with fail
    refine (both_any _ _ _ _ _).mono ?_
    rintro e w1 ⟨rfl, k1⟩
    rw [HB.out]
    have q1 : Kept w w1 := ((((Kept.refl w).alloc _).alloc _).alloc _).trans k1
    obtain ⟨x0, x1, x2⟩ := boxes3 k1
    have c0 := x0.at_ 0 rfl
    have c1 := x0.at_ 1 rfl
    have c2 := x1.at_ 0 rfl
    have c3 := x1.at_ 1 rfl
    have g4 := x2.at_ 0 rfl
    have g5 := x2.at_ 1 rfl
    have h4 := x2.2.2 0
    have h5 := x2.2.2 1
    clear k1 x0 x1 x2
    go_wp2_with fail
    have q3 := (q1.setCell (p := ⟨w.heap.size + 1 + 1, 0, none⟩) (by simp; omega) (.int .i64 z)).setCell (p := ⟨w.heap.size + 1 + 1, 1, none⟩) (by simp; omega) (.int .u32 (W (p &&& q)))
    exact bodyPost_ret (v := .tuple #[.agg #[.int .i64 z, .int .u32 (W (p &&& q))], .int .i64 0]) (by simp [results, Try.results17, go_sem, g4, g5]) rfl ⟨rfl, q3⟩
end Go.Proofs.Ytnnddjanbfamkaa
