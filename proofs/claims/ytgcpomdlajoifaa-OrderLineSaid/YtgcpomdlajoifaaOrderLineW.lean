/- OrderLine: the walk of the statement. -/
import Derived.Test.YtgcpomdlajoifaaLine
import Derived.BigQuiet
import Derived.Deep.RegionHeld3
namespace Go.Proofs.Ytgcpomdlajoifaa.orderLineDone
open Go Go.RowKit
set_option linter.unusedVariables false

theorem info_pr : (Try.prog.info? 31).map (fun i => (i.zero, i.size, i.bytes)) = some (some (.agg #[.int .i64 0, .int .i64 0]), 2, 16) := by kernel_rfl
theorem in_is (x y : BitVec 32) (b : Bool) (hb : subB x y = b) (w : World) : Calls Try.prog 18 #[.int .u32 (W x), .int .u32 (W y)] w fun e w' => e = .returned (.bool b) ∧ w = w' := by
  rw [← hb]
  exact in_any x y w
theorem one_pr (a b : Int) : ∀ u ∈ (#[Value.int .i64 a, Value.int .i64 b] : Array Value).toList, u.oneCell' = true := fun u hu => by
  simp at hu
  rcases hu with rfl | rfl <;> rfl
theorem sub_chain {n : Nat} {ps : List Pr} {l : List Int} (h : IsLine n ps l) (hl : l.length = n) {k : Nat} (hk : k + 1 = n) (hn : n ≤ 32) {i : Nat} (hi : i < n) : subB (nth (upL n ps) i) (nth (upL n (chainTo l k)) i) = true := by
  refine subB_iff.2 fun j hj => ?_
  rw [upL_bit ps hn hi, Bool.and_eq_true, decide_eq_true_eq] at hj
  rw [upL_bit _ hn hi, line_under h hl hk hi hj.1 hj.2]
  simpa using hj.1

set_option maxRecDepth 100000 in
set_option maxHeartbeats 4000000 in
theorem yes (n : Nat) (A : Option Addr) (len cp : Nat) (ps : List Pr) (w : World) (hl : len ≤ maxLen) (hf : SlP w A len ps) (hc : ordF n ps = 0) :
    Calls Try.prog 4 #[.int .i64 n, .slice A len cp] w fun e w' => e = .returned (.bool true) ∧ Kept w w' := by
  obtain ⟨⟨hn1, hn6, hlen⟩, hrng, hanti⟩ := ordF_zero hc
  have hn32 : n ≤ 32 := by omega
  have hlen20 : len ≤ 20 := by rw [← hf.2]; exact hlen
  have HC := Lib.hid hc
  clear hc hrng hanti hlen
  go_enter Try.func4, Try.ntmps4
  go_wp2_with fail
  refine (line_any n _ _ _ ps _ hf).mono ?_
  rintro e w1 ⟨k1, ⟨_, A1, c1, l, rfl, hsl, hline⟩ | ⟨hne, _⟩⟩
  case inr => rw [HC.out] at hne; cases hne
  rw [Int.toNat_natCast] at hsl hline
  have HLINE := Lib.hid hline
  have HLL := Lib.hid hsl.2
  go_wp2_with fail
  refine (ordered_any n _ _ _ ps _ (hf.kept k1)).mono ?_
  rintro e w2 ⟨rfl, k2⟩
  rw [HC.out]
  have q2 := k1.trans k2
  have hsl2 := hsl.kept k2
  have hneq : ((n : Int) != (n : Int)) = false := by simp
  clear hsl k1 k2 hline
  go_wp2_with fail
  go_loopw [7, 8] (fun v t wr => ∃ k i : Nat, Hid (i = k + 1) ∧ i ≤ n ∧ t = .int .i64 i ∧ Own w2 wr 31 2 v k (prCells (chainTo l k))) (fun _ t _ => n - (intOf t).toNat)
  case atStart => exact ⟨0, 1, Lib.hid rfl, by omega, rfl, Own.start (Kept.refl _)⟩
  case round =>
    obtain ⟨k, i, hik, hi, rfl, hown⟩ := hrel
    have hik' := hik.out
    by_cases hlt : i < n
    · obtain ⟨b1, o1, hk1, rfl, hb1, ca⟩ := hsl2.get k (by omega)
      obtain ⟨b2, o2, hk2, e2, hb2, cb⟩ := hsl2.get i hlt
      injection e2 with e2
      injection e2 with e2 e2'
      subst e2 e2'
      have HS := Lib.hid (chainTo_succ l k)
      rw [← hik', getD_eq hk1, getD_eq hk2] at HS
      generalize l[k] = x at ca HS
      generalize l[i] = y at cb HS
      have hi1 : (0 : Int) ≤ (k : Int) := by omega
      have hi2 : (k : Int) < (n : Int) := by omega
      have hi3 : (0 : Int) ≤ (i : Int) := by omega
      have hi4 : (i : Int) < (n : Int) := by omega
      have hw : (i : Int) - 1 = (k : Int) := by omega
      have hk6 : k ≤ 6 := by omega
      have hw2 : wrap64 ((i : Int) - 1) = (k : Int) := by rw [hw]; exact IntWalk.wrap64_in _ ⟨by omega, by omega⟩
      have hw1 : IntKind.i64.wrap ((i : Int) - 1) = (k : Int) := (IntWalk.i64_left _).trans hw2
      clear hw
      have cf := (hown.2.cell (p := ⟨b1, o1 + k, none⟩) hb1).trans ca
      have cg := (hown.2.cell (p := ⟨b1, o1 + i, none⟩) hb1).trans cb
      clear hik'
      go_wp2_with fail
      go_region_held3 (fun w' => w'.cell? ⟨b1, o1 + k, none⟩ = some (.int .i64 x) ∧ w'.cell? ⟨b1, o1 + i, none⟩ = some (.int .i64 y))
        (first
          | exact ⟨(hown7.2.cell (p := ⟨b1, o1 + k, none⟩) hb1).trans ca, (hown7.2.cell (p := ⟨b1, o1 + i, none⟩) hb1).trans cb⟩
          | go_keep)
        ((refine step_push (by rfl) _ _ 22 (by rfl) 31 Try.underlying22 info_pr rfl (by decide) (by decide) _ _ _ _ ((hown.alloc _).drew) #[.int .i64 x, .int .i64 y] 31 (0, 0) wr.heap.size 1 1 (heap_alloc_new wr _) (by rfl) (by rfl) rfl (one_pr _ _) (by omega) ?_; intro v7 w7 hown7 hgr7))
      go_wp2_with fail
      go_roundw
      case rel => exact ⟨k + 1, i + 1, Lib.hid (by rw [hik.out]), by omega, by go_num, by rw [show chainTo l (k + 1) = chainTo l k ++ [(x, y)] by rw [← hik.out]; exact HS.out, prCells_snoc]; simpa using hown7⟩
      case measure => simp [intOf]; omega
    · have hkn : k + 1 = n := by omega
      obtain ⟨A2, c2, rfl, hs2, _⟩ := hown.form
      have hch : SlP wr A2 k (chainTo l k) := ⟨hs2, chainTo_length _ _⟩
      have HCO := Lib.hid (chain_ord HLINE.out HLL.out hkn (by omega))
      have HSUB := Lib.hid (fun i hi => sub_chain HLINE.out HLL.out hkn hn32 (i := i) hi)
      have q3 := q2.trans hown.2
      clear hkn hik'
      go_wp2_with fail
      refine (table_any n _ _ _ ps _ (hf.kept q3)).mono ?_
      rintro e w3 ⟨k3, ⟨_, A3, c3, rfl, ha⟩ | ⟨hne, _⟩⟩
      case inr => rw [HC.out] at hne; cases hne
      rw [Int.toNat_natCast] at ha
      go_wp2_with fail
      refine (table_any n _ _ _ (chainTo l k) _ (hch.kept k3)).mono ?_
      rintro e w4 ⟨k4, ⟨_, A4, c4, rfl, hb⟩ | ⟨hne, _⟩⟩
      case inr => rw [HCO.out] at hne; cases hne
      rw [Int.toNat_natCast] at hb
      have q4 := (q3.trans k3).trans k4
      have ha4 := ha.kept k4
      clear ha q3
      go_wp2_with fail
      go_loopw [13] (fun t wr' => ∃ s : Nat, s ≤ n ∧ t = .int .i64 s ∧ Kept w4 wr') (fun t _ => n - (intOf t).toNat)
      case atStart => exact ⟨0, Nat.zero_le _, rfl, Kept.refl _⟩
      case round =>
        obtain ⟨s, hs, rfl, hkw⟩ := hrel
        by_cases hlt2 : s < n
        · obtain ⟨ba, oa, rfl, _, va⟩ := (ha4.kept hkw).getN s hlt2
          obtain ⟨bb, ob, rfl, _, vb⟩ := (hb.kept hkw).getN s hlt2
          have hsub := HSUB.out s hlt2
          generalize nth (upL n ps) s = x at va hsub
          generalize nth (upL n (chainTo l k)) s = y at vb hsub
          have qa := kw_cell va
          have qb := kw_cell vb
          have hi1 : (0 : Int) ≤ (s : Int) := by omega
          have hi2 : (s : Int) < (n : Int) := by omega
          go_wp2_with fail
          refine wp_region_kept (by kernel_rfl) (by kernel_rfl) ?_
          repeat (go_big_quiet_step ((go_at_call 18; exact kept_of_same (in_is x y true hsub _))))
          refine wpQuiet_nil ?_
          intro w5 k5
          go_wp2_with fail
          go_roundw
          case rel => exact ⟨s + 1, by omega, by go_num, hkw.trans k5⟩
          case measure => simp [intOf]; omega
        · go_wp2_with fail
          go_ret
          exact ⟨rfl, q4.trans hkw⟩
theorem orderLine_walk (n : Int) (A : Option Addr) (len cp : Nat) (ps : List Pr) (w : World) (_wn : (Lit.int .i64 n).wf = true) (hl : len ≤ maxLen) (hf : SlP w A len ps) :
    Calls Try.prog 4 #[.int .i64 n, .slice A len cp] w fun e w' => e = .returned (.bool true) ∧ Kept w w' := by
  by_cases hc : ordF n ps = 0
  · obtain ⟨nn, rfl⟩ := Int.eq_ofNat_of_zero_le (show 0 ≤ n by have := (ordF_zero hc).1.1; omega)
    exact yes nn A len cp ps w hl hf hc
  · have hne : (ordF n ps != 0) = true := by simpa using hc
    have hnz : (ordF n ps == 0) = false := by simpa using hc
    go_enter Try.func4, Try.ntmps4
    go_wp2_with fail
    refine (line_any n _ _ _ ps _ hf).mono ?_
    rintro e w1 ⟨k1, ⟨h0, _⟩ | ⟨_, rfl⟩⟩
    · exact absurd h0 hc
    clear hc
    go_wp2_with fail
    refine (ordered_any n _ _ _ ps _ (hf.kept k1)).mono ?_
    rintro e w2 ⟨rfl, k2⟩
    go_wp2_with fail
    go_ret
    exact ⟨rfl, k1.trans k2⟩
end Go.Proofs.Ytgcpomdlajoifaa.orderLineDone
