/- The walks of two.stuck, two.Stuck, two.Solve. -/
import Derived.Test.YtekpifobhgjepaaTwoSt
import Derived.Test.YtekpifobhgjepaaTwo2
import Derived.BigQuiet
namespace Go.Proofs.Ytekpifobhgjepaa
open Go Go.RowKit
set_option linter.unusedVariables false

set_option maxHeartbeats 4000000 in
theorem stuck_any (nn : Nat) (h6 : nn ≤ 6) (A : Option Addr) (N c : Nat) (hN : 2 * nn = N) (xs : List (BitVec 32)) (w : World) (hs : SlW w A N xs) :
    Calls Try.prog 45 #[.int .i64 nn, .slice A N c] w fun e w' => e = .returned (.int .u32 (W (stuckW nn (nth xs) nn))) ∧ Kept w w' := by
  go_enter Try.func45, Try.ntmps45
  go_wp2_with fail
  go_loopw [5, 8] (fun s t wr => ∃ k : Nat, k ≤ nn ∧ t = .int .i64 k ∧ s = .int .u32 (W (stuckW nn (nth xs) k)) ∧ Kept w wr) (fun _ t _ => nn - (intOf t).toNat)
  case atStart => exact ⟨0, Nat.zero_le _, rfl, rfl, Kept.refl _⟩
  case round =>
    obtain ⟨k, hk, rfl, rfl, hkw⟩ := hrel
    by_cases hlt : k < nn
    · obtain ⟨b, o, rfl, _, hcell⟩ := (hs.kept hkw).open_ (by omega)
      obtain ⟨t, ht⟩ : ∃ t : Nat, k + nn = t := ⟨_, rfl⟩
      have hti : (k : Int) + (nn : Int) = (t : Int) := by omega
      have c1 := hcell k (by omega)
      have c2 := hcell t (by omega)
      have HS := Lib.hid (show stuckW nn (nth xs) (k + 1) = stuckW nn (nth xs) k ||| ((nth xs k >>> t &&& (nth xs t >>> k) &&& 1#32) <<< k) by rw [← ht]; rfl)
      generalize stuckW nn (nth xs) k = s at HS
      generalize nth xs k = x at c1 HS
      generalize nth xs t = y at c2 HS
      have z1 := kw_cell c1
      have z2 := kw_cell c2
      have h1 : (0 : Int) ≤ (k : Int) := by omega
      have h2 : (k : Int) < (N : Int) := by omega
      have h3 : (0 : Int) ≤ (t : Int) := by omega
      have h4 : (t : Int) < (N : Int) := by omega
      clear hcell
      go_wp2_with fail
      refine wp_region_kept (by kernel_rfl) (by kernel_rfl) ?_
      repeat (go_big_quiet_step (fail))
      refine wpQuiet_nil ?_
      intro w2 k2
      go_wp2_with fail
      go_roundw
      case rel => exact ⟨k + 1, by omega, by go_num, by rw [HS.out], hkw.trans k2⟩
      case measure => simp [intOf]; omega
    · obtain rfl : k = nn := by omega
      go_wp2_with fail
      go_ret
      exact ⟨rfl, hkw⟩
/-- what Stuck hands back -/
def RetStuck (w : World) (n : Int) (rs : List Ru) (e : Ending) (w' : World) : Prop :=
  Kept w w' ∧ ((twoF n rs = 0 ∧ e = .returned (.tuple #[.int .u32 (W (stuckW n.toNat (toW n.toNat rs) n.toNat)), .int .i64 0])) ∨
    ((twoF n rs != 0) = true ∧ e = .returned (.tuple #[.int .u32 0, .int .i64 (twoF n rs)])))
theorem twoF_zero {n : Int} {rs : List Ru} (h : twoF n rs = 0) : ∃ nn : Nat, n = nn ∧ 1 ≤ nn ∧ nn ≤ 6 ∧ Twos nn rs := by
  have hsat : satF n rs = 0 := by
    unfold twoF at h
    split at h
    · rename_i h2; exact absurd h h2
    · rename_i h2; simpa using h2
  obtain ⟨nn, rfl, h1, h6, _, hfit⟩ := satF_zero hsat
  refine ⟨nn, rfl, h1, h6, h6, hfit, ?_⟩
  unfold twoF at h
  rw [hsat, Int.toNat_natCast] at h
  intro r hr
  cases ho : oddB nn r
  · rfl
  · rw [List.any_eq_true.2 ⟨r, hr, ho⟩] at h
    simp at h
theorem stuck2_any (n : Int) (A : Option Addr) (len c : Nat) (rs : List Ru) (w : World) (hp : SlR w A len rs) :
    Calls Try.prog 25 #[.int .i64 n, .slice A len c] w (RetStuck w n rs) := by
  go_enter Try.func25, Try.ntmps25
  go_wp2_with fail
  refine (reach_any n A len c rs _ hp).mono ?_
  rintro e w1 ⟨k1, ⟨h0, A1, c1, rfl, hs⟩ | ⟨h0, rfl⟩⟩
  · obtain ⟨nn, rfl, h1, h6, _⟩ := twoF_zero h0
    have H0 := Lib.hid h0
    rw [Int.toNat_natCast] at hs ⊢
    clear h0
    obtain ⟨N, hN⟩ : ∃ N : Nat, 2 * nn = N := ⟨_, rfl⟩
    have HS := Lib.hid (stuck_any nn h6 A1 N c1 hN (upE (2 * nn) (edgeL nn rs)) w1 (hN ▸ hs))
    rw [hN]
    go_wp2_with fail
    refine HS.out.mono ?_
    rintro e w2 ⟨rfl, k2⟩
    have FIN := Lib.hid (show RetStuck w nn rs (.returned (.tuple #[.int .u32 (W (stuckW nn (nth (upE N (edgeL nn rs))) nn)), .int .i64 0])) w2 from by rw [← hN]; exact ⟨k1.trans k2, .inl ⟨H0.out, rfl⟩⟩)
    go_wp2_with fail
    go_ret2
    exact FIN.out
  · have FIN := Lib.hid (show RetStuck w n rs (.returned (.tuple #[.int .u32 0, .int .i64 (twoF n rs)])) w1 from ⟨k1, .inr ⟨h0, rfl⟩⟩)
    go_wp2_with fail
    go_ret2
    exact FIN.out
/-- what Solve hands back -/
def RetTwoS (w : World) (n : Int) (rs : List Ru) (e : Ending) (w' : World) : Prop :=
  Kept w w' ∧ ((twoF n rs = 0 ∧ stuckW n.toNat (toW n.toNat rs) n.toNat = 0#32 ∧ e = .returned (.tuple #[.int .u32 (W (soW n.toNat rs n.toNat &&& (1#32 <<< n.toNat - 1#32))), .int .i64 0])) ∨
    (twoF n rs = 0 ∧ stuckW n.toNat (toW n.toNat rs) n.toNat ≠ 0#32 ∧ e = .returned (.tuple #[.int .u32 0, .int .i64 5])) ∨
    ((twoF n rs != 0) = true ∧ e = .returned (.tuple #[.int .u32 0, .int .i64 (twoF n rs)])))
set_option maxHeartbeats 8000000 in
theorem twoSolve_any (n : Int) (A : Option Addr) (len c : Nat) (rs : List Ru) (w : World) (hp : SlR w A len rs) :
    Calls Try.prog 24 #[.int .i64 n, .slice A len c] w (RetTwoS w n rs) := by
  go_enter Try.func24, Try.ntmps24
  go_wp2_with fail
  refine (reach_any n A len c rs _ hp).mono ?_
  rintro e w1 ⟨k1, ⟨h0, A1, c1, rfl, hs⟩ | ⟨h0, rfl⟩⟩
  case inr =>
    have FIN := Lib.hid (show RetTwoS w n rs (.returned (.tuple #[.int .u32 0, .int .i64 (twoF n rs)])) w1 from ⟨k1, .inr (.inr ⟨h0, rfl⟩)⟩)
    go_wp2_with fail
    go_ret2
    exact FIN.out
  obtain ⟨nn, rfl, hn1, h6, _⟩ := twoF_zero h0
  have H0 := Lib.hid h0
  rw [Int.toNat_natCast] at hs ⊢
  clear h0
  obtain ⟨N, hN⟩ : ∃ N : Nat, 2 * nn = N := ⟨_, rfl⟩
  have hS2 : SlW w1 A1 N (upE (2 * nn) (edgeL nn rs)) := hN ▸ hs
  have HS := Lib.hid (stuck_any nn h6 A1 N c1 hN (upE (2 * nn) (edgeL nn rs)) w1 hS2)
  rw [hN]
  obtain ⟨z, hz⟩ : ∃ z, stuckW nn (nth (upE (2 * nn) (edgeL nn rs))) nn = z := ⟨_, rfl⟩
  rw [hz] at HS
  have HZ := Lib.hid (show stuckW nn (toW nn rs) nn = z from hz)
  clear hs hz
  go_wp2_with fail
  refine HS.out.mono ?_
  rintro e w2 ⟨rfl, k2⟩
  have hW2 := hS2.kept k2
  have KW2 := Lib.hid (k1.trans k2)
  clear hS2 k1 k2 HS
  by_cases hz0 : z = 0#32
  case neg =>
    have FIN := Lib.hid (show RetTwoS w nn rs (.returned (.tuple #[.int .u32 0, .int .i64 5])) w2 from ⟨KW2.out, .inr (.inl ⟨H0.out, fun h => hz0 (HZ.out.symm.trans h), rfl⟩)⟩)
    have hz1 : (z != 0#32) = true := by simpa using hz0
    clear hz0
    go_wp2_with fail
    go_ret2
    exact FIN.out
  have hz1 : (z != 0#32) = false := by simp [hz0]
  have HZ0 := Lib.hid hz0
  clear hz0
  go_wp2_with fail
  go_loopw [9, 10] (fun so v wr => ∃ u : Nat, u ≤ nn ∧ v = .int .i64 ((u : Int) - 1) ∧ so = .int .u32 (W (soW nn rs (nn - u))) ∧ Kept w2 wr) (fun _ v _ => (intOf v + 1).toNat)
  case atStart => exact ⟨nn, Nat.le_refl _, rfl, by rw [Nat.sub_self]; rfl, Kept.refl _⟩
  case round =>
    obtain ⟨u, hu, rfl, rfl, hkw⟩ := hrel
    by_cases hlt : 0 < u
    · obtain ⟨v, rfl⟩ : ∃ v, u = v + 1 := ⟨u - 1, by omega⟩
      have HP := Lib.hid (show soW nn rs (nn - v) = pickW nn rs v (soW nn rs (nn - (v + 1))) by
        rw [show nn - v = (nn - (v + 1)) + 1 by omega]
        show pickW nn rs (nn - 1 - (nn - (v + 1))) _ = _
        rw [show nn - 1 - (nn - (v + 1)) = v by omega])
      have hv : ((v + 1 : Nat) : Int) - 1 = (v : Int) := by omega
      rw [hv]
      generalize soW nn rs (nn - (v + 1)) = so at HP
      obtain ⟨t, ht⟩ : ∃ t : Nat, v + nn = t := ⟨_, rfl⟩
      have hti : (v : Int) + (nn : Int) = (t : Int) := by omega
      have HP2 := Lib.hid (show pickW nn rs v so = if consB nn (so ||| nth (upE (2 * nn) (edgeL nn rs)) t) then so ||| nth (upE (2 * nn) (edgeL nn rs)) t else if consB nn (so ||| nth (upE (2 * nn) (edgeL nn rs)) v) then so ||| nth (upE (2 * nn) (edgeL nn rs)) v else so by rw [← ht]; rfl)
      have h0v : (0 : Int) ≤ (v : Int) := by omega
      have h1 : (v : Int) < (N : Int) := by omega
      have h3 : (0 : Int) ≤ (t : Int) := by omega
      have h4 : (t : Int) < (N : Int) := by omega
      have HB := Lib.hid (Box.new wr #[.int .i64 t, .int .i64 v] 3 wr.heap.size rfl)
      have hka := hkw.alloc (.cells #[.int .i64 t, .int .i64 v] 3)
      go_wp2_with fail
      generalize wr.heap.size = X at HB ⊢
      obtain ⟨w3, hw3⟩ : ∃ w3, wr.alloc (.cells #[.int .i64 t, .int .i64 v] 3) = w3 := ⟨_, rfl⟩
      rw [hw3] at HB hka ⊢
      clear hw3
      go_loopw [9, 42] (fun s i w4 => ∃ q : Nat, q ≤ 2 ∧ i = .int .i64 q ∧ s = .int .u32 (W so) ∧ Kept w3 w4 ∧ Hid (1 ≤ q → consB nn (so ||| nth (upE (2 * nn) (edgeL nn rs)) t) = false) ∧ Hid (2 ≤ q → consB nn (so ||| nth (upE (2 * nn) (edgeL nn rs)) v) = false)) (fun _ i _ => 2 - (intOf i).toNat)
      case atStart => exact ⟨0, by omega, rfl, rfl, Kept.refl _, Lib.hid (by omega), Lib.hid (by omega)⟩
      case round =>
        obtain ⟨q, hq, rfl, rfl, hk4, hc1, hc2⟩ := hrel
        obtain ⟨b, o, rfl, _, hcell⟩ := (hW2.kept (hka.trans hk4)).open_ (by omega)
        have b0 := (HB.out.kept hk4).at_ 0 rfl
        have b1 := (HB.out.kept hk4).at_ 1 rfl
        have d0 := hcell t (by omega)
        have d1 := hcell v (by omega)
        clear hcell
        have HE := Lib.hid (show ∀ x, consB nn x = (x &&& (1#32 <<< nn - 1#32) &&& (x >>> nn) == 0#32) from fun _ => rfl)
        have Hq := Lib.hid hq
        match q, hq with
        | 0, _ =>
          generalize nth (upE (2 * nn) (edgeL nn rs)) t = y at HP2 hc1 d0
          obtain ⟨bb, hb⟩ : ∃ bb, consB nn (so ||| y) = bb := ⟨_, rfl⟩
          cases bb
          · have HBB := Lib.hid hb
            rw [HE.out] at hb
            go_wp2_with fail
            go_roundw
            case rel => exact ⟨1, by omega, by go_num, rfl, hk4, Lib.hid (fun _ => HBB.out), Lib.hid (by omega)⟩
            case measure => simp [intOf]
          · have HBB := Lib.hid hb
            rw [HE.out] at hb
            go_wp2_with fail
            go_roundw
            case rel => exact ⟨v, by omega, by go_num, by rw [HP.out, HP2.out, HBB.out, if_pos rfl], hka.trans hk4⟩
            case measure => simp [intOf]
        | 1, _ =>
          have HC1 := Lib.hid (hc1.out (by omega))
          generalize nth (upE (2 * nn) (edgeL nn rs)) v = y at HP2 hc2 d1
          obtain ⟨bb, hb⟩ : ∃ bb, consB nn (so ||| y) = bb := ⟨_, rfl⟩
          cases bb
          · have HBB := Lib.hid hb
            rw [HE.out] at hb
            go_wp2_with fail
            go_roundw
            case rel => exact ⟨2, by omega, by go_num, rfl, hk4, Lib.hid (fun _ => HC1.out), Lib.hid (fun _ => HBB.out)⟩
            case measure => simp [intOf]
          · have HBB := Lib.hid hb
            rw [HE.out] at hb
            go_wp2_with fail
            go_roundw
            case rel => exact ⟨v, by omega, by go_num, by rw [HP.out, HP2.out, HC1.out, if_neg (by decide), HBB.out, if_pos rfl], hka.trans hk4⟩
            case measure => simp [intOf]
        | 2, _ =>
          have HC1 := Lib.hid (hc1.out (by omega))
          have HC2 := Lib.hid (hc2.out (by omega))
          go_wp2_with fail
          go_roundw
          case rel => exact ⟨v, by omega, by go_num, by rw [HP.out, HP2.out, HC1.out, if_neg (by decide), HC2.out, if_neg (by decide)], hka.trans hk4⟩
          case measure => simp [intOf]
        | _ + 3, h => exact absurd h (by omega)
    · obtain rfl : u = 0 := by omega
      have FIN := Lib.hid (show RetTwoS w nn rs (.returned (.tuple #[.int .u32 (W (soW nn rs nn &&& (1#32 <<< nn - 1#32))), .int .i64 0])) wr from ⟨KW2.out.trans hkw, .inl ⟨H0.out, HZ.out.trans HZ0.out, rfl⟩⟩)
      go_wp2_with fail
      go_ret2
      exact FIN.out
end Go.Proofs.Ytekpifobhgjepaa
