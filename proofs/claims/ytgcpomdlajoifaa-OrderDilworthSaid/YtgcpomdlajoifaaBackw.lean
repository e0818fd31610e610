/- slices.Backward at []int: its contract. -/
import Derived.Test.YtgcpomdlajoifaaSeat
import Derived.Test.YtgcpomdlajoifaaInP
import Derived.RangeFuncNested
import Derived.RangeFuncBound
import Derived.RangeFuncCalls
import Derived.RangeFuncLeaves
import Derived.WalkKit
import Derived.OwnWalkIn
import Derived.TacticsInMore
import Derived.LoopNIn
import Derived.LoopIn
namespace Go.Proofs.Ytgcpomdlajoifaa
open Go Go.RowKit
set_option linter.unusedVariables false
attribute [local go_sem] Oper.semAt_some

/-- what a round keeps -/
def KpS (n₀ Bs : Nat) (W W' : World) : Prop := Below n₀ W W' ∧ ∀ v, W.cell? ⟨Bs, 0, none⟩ = some v → W'.cell? ⟨Bs, 0, none⟩ = some v
theorem KpS.refl (n₀ Bs : Nat) (W : World) : KpS n₀ Bs W W := ⟨Below.refl _ _, fun _ h => h⟩
theorem KpS.trans {n₀ Bs : Nat} {A B C : World} (h : KpS n₀ Bs A B) (k : KpS n₀ Bs B C) : KpS n₀ Bs A C := ⟨h.1.trans k.1, fun v hv => k.2 v (h.2 v hv)⟩
theorem kpS_b {n₀ Bs : Nat} {w : World} (hn : n₀ ≤ w.heap.size) (hB : Bs < w.heap.size) (W : World) (l : Nat) (o o' : Obj) (hl : w.heap.size ≤ l) (h : W.heap[l]? = some o) (hc : o.isCells = false) (hw : o.isWalk = false) : KpS n₀ Bs W (W.putObj l o') :=
  ⟨belowK_b hn W l o o' hl h hc hw, fun v hv => by
    have hg := grownBy_putObj' W l o'
    have hlt : Bs < W.heap.size := by
      rcases Nat.lt_or_ge Bs W.heap.size with hlt | hge
      · exact hlt
      · unfold World.cell? at hv
        rw [Array.getElem?_eq_none hge] at hv
        simp at hv
    have := hg.block Bs hlt (fun e => by injection e with e; omega)
    unfold World.cell? at hv ⊢
    rw [this]
    exact hv⟩
/-- the last k of a list, the last one first -/
def bks {α : Type} (mk : Nat → α) (len k : Nat) : List α := (List.range k).map fun j => mk (len - 1 - j)
theorem bks_length {α : Type} (mk : Nat → α) (len k : Nat) : (bks mk len k).length = k := by simp [bks]
theorem bks_succ {α : Type} (mk : Nat → α) {len t : Nat} (h : t < len) : bks mk len (len - t) = bks mk len (len - (t + 1)) ++ [mk t] := by
  unfold bks
  rw [show len - t = (len - (t + 1)) + 1 by omega, List.range_succ, List.map_append]
  simp only [List.map_cons, List.map_nil]
  rw [show len - 1 - (len - (t + 1)) = t by omega]
theorem backward_any (A : Option Addr) (n c : Nat) (w : World) :
    Calls Try.prog 43 #[.slice A n c] w fun e w' => e = .returned (.func (.func 61) #[] #[.pointer (some ⟨w.heap.size, 0, none⟩)]) ∧ w' = w.alloc (.cells #[.slice A n c] 32) := by
  go_enter Try.func43, Try.ntmps43
  go_wp2_with fail
  go_ret
  exact ⟨rfl, rfl⟩
set_option maxRecDepth 100000 in
set_option maxHeartbeats 2000000 in
theorem back1_in {α : Type} (mk : Nat → α) (encs : α → Array Value) (n : Nat) (hn : 1 ≤ n) (l Bs n₀ b off len cap : Nat) (zs : List Int) (henc : ∀ t, t < len → encs (mk t) = #[.int .i64 (t : Int), .int .i64 (zs[t]?.getD 0)]) (hlen : len ≤ 1000) (hb : b < n₀) (J Jx : List α → World → Prop)
    (hY : ∀ pre x W, J pre W → pre.length < len → YieldAt Fence.wide (n - 1) Try.prog l (encs x) W fun e W' =>
      (e = .returned (.bool true) ∧ J (pre ++ [x]) W' ∧ KpS n₀ Bs W W') ∨ (e = .returned (.bool false) ∧ Jx (pre ++ [x]) W'))
    (W : World) (hBs : W.cell? ⟨Bs, 0, none⟩ = some (.slice (some ⟨b, off, none⟩) len cap)) (hc : ∀ j, j < len → W.cell? ⟨b, off + j, none⟩ = some (.int .i64 (zs[j]?.getD 0))) (h0 : J [] W) :
    CallsIn Fence.wide n Try.prog 61 #[.func (.yield l) #[] #[], .pointer (some ⟨Bs, 0, none⟩)] W fun e W' => (∃ v, e = .returned v) ∧
      ((∃ ys, ys = bks mk len len ∧ J ys W') ∨ (∃ pre, True ∧ Jx pre W')) := by
  have hro : Fence.wide.round = none := rfl
  have h7 : Fence.wide.fn 61 := trivial
  refine callsIn_of_wp Try.func61 rfl h7 ?_ hro
  simp only [Try.ntmps61, List.size_toArray, List.length_cons, List.length_nil, Nat.reduceAdd, Nat.reduceSub, Array.replicate_succ, Array.replicate_zero, List.push_toArray, List.append_toArray, List.nil_append, List.cons_append]
  gi_wp2
  gi_loopw [3] (fun i wr => ∃ r : Nat, r ≤ len ∧ i = .int .i64 ((r : Int) - 1) ∧ J (bks mk len (len - r)) wr ∧ KpS n₀ Bs W wr)
    (fun i _ => (intOf i + 1).toNat)
  case atStart => exact ⟨len, Nat.le_refl _, rfl, by rw [Nat.sub_self]; exact h0, KpS.refl _ _ _⟩
  case round =>
    obtain ⟨r, hr, rfl, hJs, hnx⟩ := hrel
    rcases r with _ | t
    · rw [show (((0 : Nat) : Int) - 1) = -1 from rfl]
      gi_wp2
      go_end0
      exact ⟨⟨_, rfl⟩, .inl ⟨_, rfl, hJs⟩⟩
    · rw [show (((t + 1 : Nat) : Int) - 1) = (t : Int) by omega]
      have ht : t < len := by omega
      have hcx : wr.cell? ⟨b, off + t, none⟩ = some (.int .i64 (zs[t]?.getD 0)) := (hnx.1.cell (p := ⟨b, off + t, none⟩) hb).trans (hc t ht)
      have hsx := hnx.2 _ hBs
      obtain ⟨fn, tmps, assign, body, hy, hR⟩ := hY _ (mk t) wr hJs (by rw [bks_length]; omega)
      rw [henc t ht] at hy
      have i1 : (0 : Int) ≤ (t : Int) := by omega
      have i2 : (t : Int) < (len : Int) := by omega
      gi_wp2
      refine hR.mono ?_
      rintro e W3 (⟨rfl, hJ3, hk3⟩ | ⟨rfl, hJx3⟩)
      · gi_wp2
        go_roundw
        case rel => exact ⟨t, by omega, rfl, by rw [bks_succ mk ht]; exact hJ3, hnx.trans hk3⟩
        case measure => simp [intOf]
      · gi_wp2
        refine bodyPost_ret (results_none rfl _ _ _) rfl ?_
        exact ⟨⟨_, rfl⟩, .inr ⟨_, trivial, hJx3⟩⟩
theorem back_stops {α : Type} (mk : Nat → α) (encs : α → Array Value) (n : Nat) (hn : 1 ≤ n) (Bs n₀ b off len cap : Nat) (zs : List Int) (henc : ∀ t, t < len → encs (mk t) = #[.int .i64 (t : Int), .int .i64 (zs[t]?.getD 0)]) (hlen : len ≤ 1000) (hb : b < n₀) (w : World) (hBs : Bs < w.heap.size) (hn₀ : n₀ ≤ w.heap.size) (hc : w.cell? ⟨Bs, 0, none⟩ = some (.slice (some ⟨b, off, none⟩) len cap)) (hcs : ∀ j, j < len → w.cell? ⟨b, off + j, none⟩ = some (.int .i64 (zs[j]?.getD 0))) :
    SeqStopsK Fence.wide n Try.prog 61 #[.pointer (some ⟨Bs, 0, none⟩)] encs (KpS n₀ Bs) (fun ys => ys = bks mk len len) (fun _ => True) len w := fun l J Jx W hW _ _ hY h0 =>
  back1_in mk encs n hn l Bs n₀ b off len cap zs henc hlen hb J Jx hY W ((hW.cell (p := ⟨Bs, 0, none⟩) hBs).trans hc) (fun j hj => (hW.cell (p := ⟨b, off + j, none⟩) (Nat.lt_of_lt_of_le hb hn₀)).trans (hcs j hj)) h0
end Go.Proofs.Ytgcpomdlajoifaa
