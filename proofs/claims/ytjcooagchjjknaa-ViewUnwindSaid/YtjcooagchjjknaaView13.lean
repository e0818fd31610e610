/- The walk of view.Parts. -/
import Derived.Test.YtjcooagchjjknaaView7
import Derived.Test.YtjcooagchjjknaaView9
import Derived.Deep.CutRange
namespace Go.Proofs.Ytjcooagchjjknaa
open Go Go.RowKit
set_option linter.unusedVariables false
set_option linter.unusedSimpArgs false

def prV (f : Nat → Nat) (n : Nat) : List Value := (List.range n).map fun i => .int .i64 (f i : Int)
theorem prV_len (f : Nat → Nat) (n : Nat) : (prV f n).length = n := by simp [prV]
theorem prV_at (f : Nat → Nat) {n i : Nat} (hi : i < n) : (prV f n)[i]? = some (.int .i64 (f i : Int)) := by simp [prV, hi]
theorem prV_congr {f g : Nat → Nat} {n : Nat} (h : ∀ i, i < n → f i = g i) : prV f n = prV g n := by
  unfold prV
  apply List.map_congr_left
  intro i hi
  rw [h i (List.mem_range.1 hi)]
theorem prV_set (f : Nat → Nat) (n s v : Nat) : (prV f n).set s (.int .i64 (v : Int)) = prV (fun i => if i = s then v else f i) n := by
  unfold prV
  apply List.ext_getElem
  · simp
  · intro i h1 h2
    rw [List.getElem_set]
    simp only [List.getElem_map, List.getElem_range]
    by_cases e : s = i
    · subst e
      simp
    · rw [if_neg e, if_neg (fun h => e h.symm)]
theorem prV_zero (n : Nat) : (rep n (.int .i64 0)).toList = prV (fun _ => 0) n := by
  unfold rep prV
  apply List.ext_getElem
  · simp
  · intro i h1 h2
    simp
set_option maxHeartbeats 1000000 in
theorem equalP_any (f g : Nat → Nat) (N B1 B2 c1 c2 : Nat) (w : World) (h1 : Sl w 1 (some ⟨B1, 0, none⟩) N (prV f N)) (h2 : Sl w 1 (some ⟨B2, 0, none⟩) N (prV g N)) (hN : N ≤ 1000) :
    Calls Try.prog 48 #[.slice (some ⟨B1, 0, none⟩) N c1, .slice (some ⟨B2, 0, none⟩) N c2] w fun e w' => e = .returned (.bool ((List.range N).all fun i => f i == g i)) ∧ Kept w w' := by
  have hb : ((N : Int) != (N : Int)) = false := by simp
  have HA := Lib.hid (fun k => all_rangeV (fun i => f i == g i) k)
  have HF := Lib.hid (fun k (hk : k < N) h => all_falseV (f := fun i => f i == g i) hk h)
  go_enter Try.func48, Try.ntmps48
  go_wp2_with fail
  go_loopw [13] (fun t wr => ∃ k : Nat, k ≤ N ∧ t = .int .i64 (k : Nat) ∧ Hid ((List.range k).all (fun i => f i == g i) = true) ∧ Kept w wr) (fun t _ => N - (intOf t).toNat)
  case atStart => exact ⟨0, Nat.zero_le _, rfl, Lib.hid rfl, Kept.refl _⟩
  case round =>
    obtain ⟨k, hk, rfl, HY, hkw⟩ := hrel
    by_cases hlt : k < N
    · have q1 : wr.cell? ⟨B1, 0 + k, none⟩ = some (.int .i64 (f k : Int)) := by
        obtain ⟨b, o, e, _, hc⟩ := (h1.kept hkw).2 (by omega)
        injection e with e
        injection e with ea eb
        subst ea eb
        exact hc k _ (prV_at f hlt)
      have q2 : wr.cell? ⟨B2, 0 + k, none⟩ = some (.int .i64 (g k : Int)) := by
        obtain ⟨b, o, e, _, hc⟩ := (h2.kept hkw).2 (by omega)
        injection e with e
        injection e with ea eb
        subst ea eb
        exact hc k _ (prV_at g hlt)
      rw [Nat.zero_add] at q1 q2
      have HAK := Lib.hid (HA.out k)
      have HFK := Lib.hid (HF.out k hlt)
      have i1 : (0 : Int) ≤ (k : Int) := by omega
      have i2 : (k : Int) < (N : Int) := by omega
      generalize f k = x at q1 HAK HFK
      generalize g k = y at q2 HAK HFK
      by_cases hxy : x = y
      · subst hxy
        have HN := Lib.hid (show (List.range (k + 1)).all (fun i => f i == g i) = true by rw [HAK.out, HY.out]; simp)
        have hbb : ((x : Int) != (x : Int)) = false := by simp
        have q1' := kw_cell q1
        have q2' := kw_cell q2
        clear q1 q2
        go_wp2_with fail
        refine wp_region_kept (by kernel_rfl) (by kernel_rfl) ?_
        repeat (go_big_quiet_step (fail))
        refine wpQuiet_nil ?_
        intro w5 k5
        go_wp2_with fail
        go_roundw
        case rel => exact ⟨k + 1, by omega, by go_num, HN, hkw.trans k5⟩
        case measure => simp [intOf]; omega
      · have HN := Lib.hid (HFK.out (by simpa using hxy))
        have hbb : ((x : Int) != (y : Int)) = true := by rw [bne_iff_ne]; omega
        have q1' := kw_cell q1
        have q2' := kw_cell q2
        clear q1 q2 hxy
        go_wp2_with fail
        refine wp_region_kept (by kernel_rfl) (by kernel_rfl) ?_
        repeat (go_big_quiet_step (fail))
        refine wpQuiet_nil ?_
        intro w5 k5
        go_wp2_with fail
        go_ret
        exact ⟨by rw [HN.out]; rfl, hkw.trans k5⟩
    · have HR := Lib.hid (show (List.range N).all (fun i => f i == g i) = true by
        have := HY.out
        rw [show k = N by omega] at this
        exact this)
      go_wp2_with fail
      go_ret
      exact ⟨by rw [HR.out]; rfl, hkw⟩
theorem parts_bad (m : Mc) (hid : BitVec 32) (w : World) (h : McOk w m) (h0 : wrongF m hid ≠ 0) :
    Calls Try.prog 28 #[.agg (mcA m), .int .u32 (W hid)] w fun e w' => e = .returned (.tuple #[.slice none 0 0, .int .i64 (wrongF m hid)]) ∧ Kept w w' := by
  have hka : Kept w (w.alloc (.cells (mcA m) 63)) := (Kept.refl _).alloc _
  have bx := Box.new w (mcA m) 63 w.heap.size rfl
  have HM := Lib.hid (h.kept hka)
  have HKA := Lib.hid hka
  obtain ⟨w1, hw1⟩ : ∃ w1, w.alloc (.cells (mcA m) 63) = w1 := ⟨_, rfl⟩
  rw [hw1] at bx HM HKA
  have b0 : w1.cell? ⟨w.heap.size, 0, none⟩ = some (.int .i64 m.n) := bx.at_ 0 rfl
  have b1 : w1.cell? ⟨w.heap.size, 1, none⟩ = some (.int .i64 m.us) := bx.at_ 1 rfl
  have b2 : w1.cell? ⟨w.heap.size, 2, none⟩ = some (.int .i64 m.as) := bx.at_ 2 rfl
  have b3 := bx.at_ 3 (u := .slice m.next.1 m.next.2.1 m.next.2.2.1) rfl
  have b4 := bx.at_ 4 (u := .slice m.sees.1 m.sees.2.1 m.sees.2.2.1) rfl
  have HC := Lib.hid (vwrong_any m hid w1 HM.out)
  have g2 : (wrongF m hid != 0) = true := by rw [bne_iff_ne]; exact h0
  clear h hka bx h0
  unfold mcA at hw1 HC ⊢
  generalize wrongF m hid = vf at g2 HC ⊢
  go_enter Try.func28, Try.ntmps28
  go_wp2_with fail
  refine HC.out.mono ?_
  rintro e w2 ⟨rfl, hk2⟩
  have HK2 := Lib.hid hk2
  clear b0 b1 b2 b3 b4 hk2
  go_wp2_with fail
  go_ret2
  exact ⟨by rfl, HKA.out.trans HK2.out⟩
/-- the next parts, those of the states below s -/
def nxI (g : Nat → Nat) (s i : Nat) : Nat := if i < s then g i else 0
/-- .. and v for s -/
def nxJ (g : Nat → Nat) (s v i : Nat) : Nat := if i < s then g i else if i = s then v else 0
theorem nxI_set (g : Nat → Nat) (s v N : Nat) : (prV (nxI g s) N).set s (.int .i64 (v : Int)) = prV (nxJ g s v) N := by
  rw [prV_set]
  apply prV_congr
  intro i _
  unfold nxI nxJ
  by_cases e : i = s
  · subst e
    rw [if_pos rfl, if_neg (by omega), if_pos rfl]
  · rw [if_neg e, if_neg e]
theorem nxJ_set (g : Nat → Nat) (s v v2 N : Nat) : (prV (nxJ g s v) N).set s (.int .i64 (v2 : Int)) = prV (nxJ g s v2) N := by
  rw [prV_set]
  apply prV_congr
  intro i _
  unfold nxJ
  by_cases e : i = s
  · subst e
    rw [if_pos rfl, if_neg (by omega), if_pos rfl]
  · rw [if_neg e, if_neg e, if_neg e]
theorem nxJ_done (g : Nat → Nat) (s N : Nat) : prV (nxJ g s (g s)) N = prV (nxI g (s + 1)) N := by
  apply prV_congr
  intro i _
  unfold nxI nxJ
  by_cases e : i < s
  · rw [if_pos e, if_pos (by omega)]
  · rw [if_neg e]
    by_cases e2 : i = s
    · subst e2
      rw [if_pos rfl, if_pos (by omega)]
    · rw [if_neg e2, if_neg (by omega)]
theorem nxI_all (g : Nat → Nat) (N : Nat) : prV (nxI g N) N = prV g N := prV_congr fun i hi => by unfold nxI; rw [if_pos hi]
theorem nxI_none (g : Nat → Nat) (N : Nat) : prV (fun _ => 0) N = prV (nxI g 0) N := prV_congr fun i hi => by unfold nxI; rw [if_neg (by omega)]
/-- what Parts answers -/
def RetPart (w : World) (m : Mc) (N U A : Nat) (hid : BitVec 32) (e : Ending) (w' : World) : Prop :=
  Kept w w' ∧ ∃ (p : Nat → Nat) (B c : Nat), PartI N U A (nxF m) (seF m) hid p ∧ e = .returned (.tuple #[.slice (some ⟨B, 0, none⟩) N c, .int .i64 0]) ∧ Sl w' 1 (some ⟨B, 0, none⟩) N (prV p N)
def PtR (w1 : World) (m : Mc) (N U A : Nat) (hid : BitVec 32) (n : Nat) (v : Value) (wr : World) : Prop :=
  ∃ (p : Nat → Nat) (B : Nat), n = N - fixN N p ∧ v = .slice (some ⟨B, 0, none⟩) N N ∧ Row w1 wr B 3 (prV p N) ∧ CanP N p
end Go.Proofs.Ytjcooagchjjknaa
