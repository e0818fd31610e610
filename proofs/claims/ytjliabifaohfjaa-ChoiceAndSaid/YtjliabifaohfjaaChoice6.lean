/- The walks of choice.Read, and of Branches. -/
import Derived.Test.YtjliabifaohfjaaChoice5
namespace Go.Proofs.Ytjliabifaohfjaa
open Go Go.RowKit
set_option linter.unusedVariables false
set_option linter.unusedSimpArgs false

set_option maxRecDepth 100000 in
set_option maxHeartbeats 4000000 in
theorem read_good (n : Nat) (hn : n ≤ 4) (A : Option Addr) (len c : Nat) (l : List Bn) (k : Nat) (w : World) (hl : SlBn w A len l) (ht : TreeOk n l) (hk : k ≤ len + 1) (hl20 : len ≤ 20) :
    Calls Try.prog 26 #[.int .i64 n, .slice A len c, .int .i64 k] w fun e w' => ∃ A2 c2, e = .returned (.tuple #[.slice A2 (2 ^ n) c2, .int .i64 0]) ∧ SlB w' A2 (2 ^ n) (readF n l k) ∧ Kept w w' := by
  have HT := Lib.hid ht
  have HL := Lib.hid hl
  have hw := i64_pow n (by omega)
  have hpl := pow_le4 n hn
  have HRD := Lib.hid (show readF n l k = (List.range (2 ^ n)).map (saysF l k) from rfl)
  obtain ⟨N, hN⟩ : ∃ N, 2 ^ n = N := ⟨_, rfl⟩
  rw [hN] at hw hpl HRD ⊢
  have d1 : decide ((n : Int) < 0) = false := by simp
  have d2 : decide (4 < (n : Int)) = false := by simp; omega
  have d3 : decide (20 < (len : Int)) = false := by simp; omega
  clear ht hl hN
  go_enter Try.func26, Try.ntmps26
  go_wp2_with fail
  refine (wrong_ok n hn A len c l k _ HL.out HT.out hk hl20).mono ?_
  rintro e w1 ⟨rfl, k1⟩
  have HL1 := Lib.hid (HL.out.kept k1)
  have K1 := Lib.hid k1
  clear k1
  go_wp2_with fail
  go_loopw [9, 31] (fun v t wr => ∃ s : Nat, s ≤ N ∧ t = .int .i64 s ∧ Own w1 wr 4 1 v s (((List.range s).map (saysF l k)).map bv)) (fun _ t _ => N - (intOf t).toNat)
  case atStart => exact ⟨0, Nat.zero_le _, rfl, Own.start (Kept.refl _)⟩
  case round =>
    obtain ⟨s, hs, rfl, hown⟩ := hrel
    by_cases hlt : s < N
    · have HS := Lib.hid (readF_snoc l k s)
      have HOWN := Lib.hid hown
      clear hown
      go_wp2_with fail
      refine (tell_any n hn A len c l k s _ (HL1.out.kept HOWN.out.2) HT.out hk hl20 (by omega)).mono ?_
      rintro e w2 ⟨rfl, k2⟩
      have hown2 := HOWN.out.kept k2
      generalize saysF l k s = x at HS ⊢
      clear k2
      go_wp2_with (at_builtin; refine wpList_push rfl _ _ 22 rfl 4 Try.underlying22 info_bool rfl (by decide) (by decide) _ _ _ _ hown2 #[.bool x] _ _ 1 1 rfl rfl rfl rfl (one_bool _) (by omega) ?_; intro v' w4 hown4 _)
      go_roundw
      case rel => exact ⟨s + 1, by omega, by go_num, by rw [HS.out]; simpa [bv] using hown4⟩
      case measure => simp [intOf]; omega
    · obtain rfl : s = N := by omega
      obtain ⟨A2, c2, rfl, hsl, _⟩ := hown.form
      have FIN := Lib.hid (show SlB wr A2 s (readF n l k) from by rw [HRD.out]; exact ⟨hsl, by simp⟩)
      have KF := Lib.hid (K1.out.trans hown.2)
      clear hown hsl
      go_wp2_with fail
      go_ret2
      exact ⟨A2, c2, rfl, FIN.out, KF.out⟩
/-! ### Branches -/
def bnsF (xs ys : List Bn) : Bool := decide (xs = ys)
theorem bn_ext {xs ys : List Bn} (hl : xs.length = ys.length) (h : ∀ k, k < xs.length → bnAt xs k = bnAt ys k) : xs = ys := by
  apply List.ext_getElem hl
  intro i h1 h2
  have := h i h1
  rw [bnAt_eq _ _ h1, bnAt_eq _ _ h2] at this
  exact this
theorem bn_neq (x0 x1 x2 y0 y1 y2 : Nat) (e0 : ¬ (x0 = y0 ∧ x1 = y1 ∧ x2 = y2)) (W : World) : (binOp .neq 74 (.agg #[.int .i64 x0, .int .i64 x1, .int .i64 x2]) (.agg #[.int .i64 y0, .int .i64 y1, .int .i64 y2])).run Try.prog W = .ok (.bool true) W := by
  by_cases a0 : x0 = y0
  · subst a0
    by_cases a1 : x1 = y1
    · subst a1
      have g : ((x2 : Int) == (y2 : Int)) = false := by rw [beq_eq_false_iff_ne]; omega
      clear e0
      go_simp
    · have g : ((x1 : Int) == (y1 : Int)) = false := by rw [beq_eq_false_iff_ne]; omega
      clear e0
      go_simp
  · have g : ((x0 : Int) == (y0 : Int)) = false := by rw [beq_eq_false_iff_ne]; omega
    clear e0
    go_simp
set_option maxHeartbeats 2000000 in
theorem branches_any (A : Option Addr) (n c : Nat) (A2 : Option Addr) (n2 c2 : Nat) (xs ys : List Bn) (w : World) (hx : SlBn w A n xs) (hy : SlBn w A2 n2 ys) (hn : n ≤ 1000) :
    Calls Try.prog 27 #[.slice A n c, .slice A2 n2 c2] w fun e w' => e = .returned (.bool (bnsF xs ys)) ∧ Kept w w' := by
  have hxl := hx.2
  have hyl := hy.2
  by_cases hne : n = n2
  · subst hne
    have HXL := Lib.hid hxl
    have HYL := Lib.hid hyl
    have hb : ((n : Int) != (n : Int)) = false := by simp
    clear hxl hyl
    go_enter Try.func27, Try.ntmps27
    go_wp2_with fail
    clear hb
    go_loopw [5] (fun t wr => ∃ k : Nat, k ≤ n ∧ t = .int .i64 k ∧ Hid (∀ j, j < k → bnAt xs j = bnAt ys j) ∧ Kept w wr) (fun t _ => n - (intOf t).toNat)
    case atStart => exact ⟨0, Nat.zero_le _, rfl, Lib.hid (fun i hi => absurd hi (by omega)), Kept.refl _⟩
    case round =>
      obtain ⟨k, hk, rfl, HNY, hkw⟩ := hrel
      by_cases hlt : k < n
      · obtain ⟨b1, o1, rfl, _, c0, c1, c2⟩ := (hx.kept hkw).getN k hlt
        obtain ⟨b2, o2, rfl, _, d0, d1, d2⟩ := (hy.kept hkw).getN k hlt
        have hi1 : (0 : Int) ≤ (k : Int) := by omega
        have hi2 : (k : Int) < (n : Int) := by omega
        have HNX := Lib.hid (fun (h : bnAt xs k = bnAt ys k) => show ∀ j, j < k + 1 → bnAt xs j = bnAt ys j from fun j hj => by
          by_cases e : j = k
          · subst e; exact h
          · exact HNY.out j (by omega))
        have HNO := Lib.hid (fun (h : bnAt xs k ≠ bnAt ys k) => show bnsF xs ys = false from decide_eq_false (fun e => h (by rw [e])))
        generalize bnAt xs k = x at c0 c1 c2 HNX HNO
        generalize bnAt ys k = y at d0 d1 d2 HNX HNO
        obtain ⟨x0, x1, x2⟩ := x
        obtain ⟨y0, y1, y2⟩ := y
        simp only at c0 c1 c2 d0 d1 d2
        by_cases e0 : x0 = y0 ∧ x1 = y1 ∧ x2 = y2
        · obtain ⟨rfl, rfl, rfl⟩ := e0
          have HN := Lib.hid (HNX.out rfl)
          go_wp2_with fail
          go_quiet (fail)
          go_wp2_with fail
          go_roundw
          case rel => exact ⟨k + 1, by omega, by go_num, HN, hkw.drewN nq⟩
          case measure => simp [intOf]; omega
        · have FIN := Lib.hid (HNO.out (fun e => e0 (by simpa using e)))
          have hneq : ∀ W : World, (binOp .neq 74 (.agg #[.int .i64 x0, .int .i64 x1, .int .i64 x2]) (.agg #[.int .i64 y0, .int .i64 y1, .int .i64 y2])).run Try.prog W = .ok (.bool true) W := by
            intro W
            exact bn_neq x0 x1 x2 y0 y1 y2 e0 W
          clear e0 HNX HNO
          go_wp2_with fail
          go_quiet (fail)
          go_wp2_with fail
          go_ret
          exact ⟨by rw [FIN.out]; rfl, hkw.drewN nq⟩
      · have FIN := Lib.hid (show bnsF xs ys = true from decide_eq_true (bn_ext (by rw [HXL.out, HYL.out]) fun i hi => HNY.out i (by rw [HXL.out] at hi; omega)))
        go_wp2_with fail
        go_ret
        exact ⟨by rw [FIN.out]; rfl, hkw⟩
  · have hb : ((n : Int) != (n2 : Int)) = true := by rw [bne_iff_ne]; omega
    have FIN := Lib.hid (show bnsF xs ys = false from decide_eq_false (fun e => hne (by rw [← hxl, ← hyl, e])))
    clear hne hxl hyl
    go_enter Try.func27, Try.ntmps27
    go_wp2_with fail
    go_ret
    exact ⟨by rw [FIN.out]; rfl, Kept.refl _⟩
end Go.Proofs.Ytjliabifaohfjaa
