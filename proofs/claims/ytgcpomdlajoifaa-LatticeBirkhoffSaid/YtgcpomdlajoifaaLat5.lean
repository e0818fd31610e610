/- The walks of lattice.of, Join, Meet, Is, all, Shared, Modular. -/
import Derived.Test.YtgcpomdlajoifaaLat4
import Derived.Test.YtgcpomdlajoifaaBirkP
import Derived.BigQuiet
namespace Go.Proofs.Ytgcpomdlajoifaa
open Go Go.RowKit
set_option linter.unusedVariables false
set_option linter.unusedSimpArgs false

theorem lat_build (n : Int) (A : Option Addr) (len c : Nat) (ps : List Pr) (w : World) (hp : SlP w A len ps) :
    Calls Try.prog 55 #[.int .i64 n, .slice A len c] w (RetBuild w n ps) := by
  by_cases h : ordF n ps = 0
  · obtain ⟨⟨h1, h6, _⟩, _⟩ := ordF_zero h
    obtain ⟨nn, rfl⟩ := Int.eq_ofNat_of_zero_le (show 0 ≤ n by omega)
    refine (latBuild_good nn A len c ps w hp h (by omega) (by omega)).mono ?_
    rintro e w1 ⟨k1, B, rfl, ht⟩
    exact ⟨k1, .inr ⟨h, nn, B, rfl, rfl, ht⟩⟩
  · exact latBuild_bad n A len c ps w hp (by simpa using h)
theorem pickJ_any (B : Nat) (A : Option Addr) (n c : Nat) (w : World) (hc : w.cell? ⟨B, 2, none⟩ = some (.slice A n c)) :
    Calls Try.prog 52 #[.pointer (some ⟨B, 0, none⟩)] w fun e w' => e = .returned (.slice A n c) ∧ w = w' := by
  go_enter Try.func52, Try.ntmps52
  go_wp2
  go_ret
  exact ⟨rfl, rfl⟩
theorem pickM_any (B : Nat) (A : Option Addr) (n c : Nat) (w : World) (hc : w.cell? ⟨B, 3, none⟩ = some (.slice A n c)) :
    Calls Try.prog 53 #[.pointer (some ⟨B, 0, none⟩)] w fun e w' => e = .returned (.slice A n c) ∧ w = w' := by
  go_enter Try.func53, Try.ntmps53
  go_wp2
  go_ret
  exact ⟨rfl, rfl⟩
/-- what of hands back -/
noncomputable def latR (n : Int) (ps : List Pr) (a b : Int) (f : Nat → Nat → Int) : Int × Int :=
  if ordF n ps ≠ 0 then (0, ordF n ps) else if a < 0 ∨ b < 0 ∨ n ≤ a ∨ n ≤ b then (0, 4) else if f a.toNat b.toNat < 0 then (0, 5) else (f a.toNat b.toNat, 0)
def RetLat (w : World) (r : Int × Int) (e : Ending) (w' : World) : Prop := Kept w w' ∧ e = .returned (.tuple #[.int .i64 r.1, .int .i64 r.2])
theorem latR_bad {n : Int} {ps : List Pr} {a b : Int} {f : Nat → Nat → Int} (h : (ordF n ps != 0) = true) : latR n ps a b f = (0, ordF n ps) := by
  unfold latR
  rw [if_pos (by simpa using h)]
theorem latR_range {n : Int} {ps : List Pr} {a b : Int} {f : Nat → Nat → Int} (h : ordF n ps = 0) (h2 : a < 0 ∨ b < 0 ∨ n ≤ a ∨ n ≤ b) : latR n ps a b f = (0, 4) := by
  unfold latR
  rw [if_neg (by simpa using h), if_pos h2]
theorem latR_none {n a b : Nat} {ps : List Pr} {f : Nat → Nat → Int} (h : ordF n ps = 0) (ha : a < n) (hb : b < n) (h3 : f a b < 0) : latR n ps a b f = (0, 5) := by
  unfold latR
  rw [if_neg (by simpa using h), if_neg (by omega), Int.toNat_natCast, Int.toNat_natCast, if_pos h3]
theorem latR_some {n a b : Nat} {ps : List Pr} {f : Nat → Nat → Int} (h : ordF n ps = 0) (ha : a < n) (hb : b < n) (h3 : 0 ≤ f a b) : latR n ps a b f = (f a b, 0) := by
  unfold latR
  rw [if_neg (by simpa using h), if_neg (by omega), Int.toNat_natCast, Int.toNat_natCast, if_neg (by omega)]
set_option maxHeartbeats 2000000 in
theorem ofJ_any (n : Int) (A : Option Addr) (len c : Nat) (ps : List Pr) (a b : Int) (w : World) (hp : SlP w A len ps) :
    Calls Try.prog 51 #[.int .i64 n, .slice A len c, .int .i64 a, .int .i64 b, .func (.func 52) #[] #[]] w (RetLat w (latR n ps a b (joinI n.toNat ps))) := by
  by_cases h : ordF n ps = 0
  · have H0 := Lib.hid h
    by_cases hr : a < 0 ∨ b < 0 ∨ n ≤ a ∨ n ≤ b
    · have HF := Lib.hid (latR_range (f := joinI n.toNat ps) h hr)
      clear h
      have fin : ∀ w', Kept w w' → RetLat w (latR n ps a b (joinI n.toNat ps)) (.returned (.tuple #[.int .i64 0, .int .i64 4])) w' := fun w' hk => ⟨hk, by rw [HF.out]⟩
      have FIN := Lib.hid fin
      clear fin
      by_cases q : b < a
      · have q2 : b ≤ a := by omega
        have q4 : ¬ a < b := by omega
        have e1 : decide (b < a) = true := by simpa using q
        have e2 : decide (b ≤ a) = true := by simpa using q2
        have e4 : decide (a < b) = false := by simpa using q4
        by_cases r : b < 0
        · have d1 : decide (b < 0) = true := by simpa using r
          clear hr
          go_enter Try.func51, Try.ntmps51
          go_wp2_with fail
          refine (lat_build n A len c ps _ hp).mono ?_
          rintro e w1 ⟨k1, ⟨hz, _⟩ | ⟨_, nn, B, rfl, rfl, ht⟩⟩
          · rw [H0.out] at hz; cases hz
          go_wp2_with fail
          go_ret2
          exact FIN.out _ k1
        · have r2 : n ≤ a := by omega
          have d1 : decide (b < 0) = false := by simpa using r
          have d2 : decide (n ≤ a) = true := by simpa using r2
          clear hr
          go_enter Try.func51, Try.ntmps51
          go_wp2_with fail
          refine (lat_build n A len c ps _ hp).mono ?_
          rintro e w1 ⟨k1, ⟨hz, _⟩ | ⟨_, nn, B, rfl, rfl, ht⟩⟩
          · rw [H0.out] at hz; cases hz
          go_wp2_with fail
          go_ret2
          exact FIN.out _ k1
      · have e1 : decide (b < a) = false := by simpa using q
        by_cases r : a < 0
        · have d1 : decide (a < 0) = true := by simpa using r
          clear hr
          go_enter Try.func51, Try.ntmps51
          go_wp2_with fail
          refine (lat_build n A len c ps _ hp).mono ?_
          rintro e w1 ⟨k1, ⟨hz, _⟩ | ⟨_, nn, B, rfl, rfl, ht⟩⟩
          · rw [H0.out] at hz; cases hz
          go_wp2_with fail
          go_ret2
          exact FIN.out _ k1
        · have r2 : n ≤ b := by omega
          have d1 : decide (a < 0) = false := by simpa using r
          have d2 : decide (n ≤ b) = true := by simpa using r2
          clear hr
          by_cases q3 : a < b
          · have e3 : decide (a < b) = true := by simpa using q3
            go_enter Try.func51, Try.ntmps51
            go_wp2_with fail
            refine (lat_build n A len c ps _ hp).mono ?_
            rintro e w1 ⟨k1, ⟨hz, _⟩ | ⟨_, nn, B, rfl, rfl, ht⟩⟩
            · rw [H0.out] at hz; cases hz
            go_wp2_with fail
            go_ret2
            exact FIN.out _ k1
          · have e3 : decide (a < b) = false := by simpa using q3
            obtain rfl : a = b := by omega
            go_enter Try.func51, Try.ntmps51
            go_wp2_with fail
            refine (lat_build n A len c ps _ hp).mono ?_
            rintro e w1 ⟨k1, ⟨hz, _⟩ | ⟨_, nn, B, rfl, rfl, ht⟩⟩
            · rw [H0.out] at hz; cases hz
            go_wp2_with fail
            go_ret2
            exact FIN.out _ k1
    · obtain ⟨nn, rfl⟩ := Int.eq_ofNat_of_zero_le (show 0 ≤ n by omega)
      obtain ⟨x, rfl⟩ := Int.eq_ofNat_of_zero_le (show 0 ≤ a by omega)
      obtain ⟨y, rfl⟩ := Int.eq_ofNat_of_zero_le (show 0 ≤ b by omega)
      rw [Int.toNat_natCast]
      have hx : x < nn := by omega
      have hy : y < nn := by omega
      have HN := Lib.hid (fun h3 => latR_none (f := joinI nn ps) h hx hy h3)
      have HS := Lib.hid (fun h3 => latR_some (f := joinI nn ps) h hx hy h3)
      clear h hr
      have g1 : decide ((x : Int) < 0) = false := by simp
      have g2 : decide ((y : Int) < 0) = false := by simp
      have g3 : decide ((nn : Int) ≤ (x : Int)) = false := by simp; omega
      have g4 : decide ((nn : Int) ≤ (y : Int)) = false := by simp; omega
      have i1 : (0 : Int) ≤ (x : Int) := by omega
      have i2 : (x : Int) < (nn : Int) := by omega
      have i3 : (0 : Int) ≤ (y : Int) := by omega
      have i4 : (y : Int) < (nn : Int) := by omega
      by_cases q : (y : Int) < (x : Int)
      · have e1 : decide ((y : Int) < (x : Int)) = true := by simpa using q
        have q2 : ¬ (x : Int) < (y : Int) := by omega
        have e2 : decide ((x : Int) < (y : Int)) = false := by simpa using q2
        go_enter Try.func51, Try.ntmps51
        go_wp2_with fail
        refine (lat_build nn A len c ps _ hp).mono ?_
        rintro e w1 ⟨k1, ⟨hz, _⟩ | ⟨_, nn', B, hnn, rfl, ht⟩⟩
        · rw [H0.out] at hz; cases hz
        obtain rfl : nn = nn' := by omega
        clear hnn
        obtain ⟨Au, Ad, Aj, Am, cu, cd, cj, cm, h0, c0, c1, c2, c3, c4, hu, hj, hm⟩ := ht
        obtain ⟨bj, oj, rfl, hbj, hjj⟩ := hj
        obtain ⟨b2, o2, r2, cr, hb2, hcc⟩ := hjj x hx
        have cxy := hcc y hy
        clear hjj hcc hm hu
        generalize joinI nn ps x y = v at cxy HN HS
        by_cases hv : v < 0
        · have dv : decide (v < 0) = true := by simpa using hv
          have FIN := Lib.hid (HN.out hv)
          clear hv
          go_wp2_with (go_at_call 52; refine (pickJ_any B _ _ _ _ c2).mono ?_; rintro e w2 ⟨rfl, rfl⟩)
          go_ret2
          exact ⟨k1, by rw [FIN.out]; rfl⟩
        · have dv : decide (v < 0) = false := by simpa using hv
          have FIN := Lib.hid (HS.out (by omega))
          clear hv
          go_wp2_with (go_at_call 52; refine (pickJ_any B _ _ _ _ c2).mono ?_; rintro e w2 ⟨rfl, rfl⟩)
          go_ret2
          exact ⟨k1, by rw [FIN.out]; rfl⟩
      · have e1 : decide ((y : Int) < (x : Int)) = false := by simpa using q
        by_cases q3 : (x : Int) < (y : Int)
        · have e3 : decide ((x : Int) < (y : Int)) = true := by simpa using q3
          go_enter Try.func51, Try.ntmps51
          go_wp2_with fail
          refine (lat_build nn A len c ps _ hp).mono ?_
          rintro e w1 ⟨k1, ⟨hz, _⟩ | ⟨_, nn', B, hnn, rfl, ht⟩⟩
          · rw [H0.out] at hz; cases hz
          obtain rfl : nn = nn' := by omega
          clear hnn
          obtain ⟨Au, Ad, Aj, Am, cu, cd, cj, cm, h0, c0, c1, c2, c3, c4, hu, hj, hm⟩ := ht
          obtain ⟨bj, oj, rfl, hbj, hjj⟩ := hj
          obtain ⟨b2, o2, r2, cr, hb2, hcc⟩ := hjj x hx
          have cxy := hcc y hy
          clear hjj hcc hm hu
          generalize joinI nn ps x y = v at cxy HN HS
          by_cases hv : v < 0
          · have dv : decide (v < 0) = true := by simpa using hv
            have FIN := Lib.hid (HN.out hv)
            clear hv
            go_wp2_with (go_at_call 52; refine (pickJ_any B _ _ _ _ c2).mono ?_; rintro e w2 ⟨rfl, rfl⟩)
            go_ret2
            exact ⟨k1, by rw [FIN.out]; rfl⟩
          · have dv : decide (v < 0) = false := by simpa using hv
            have FIN := Lib.hid (HS.out (by omega))
            clear hv
            go_wp2_with (go_at_call 52; refine (pickJ_any B _ _ _ _ c2).mono ?_; rintro e w2 ⟨rfl, rfl⟩)
            go_ret2
            exact ⟨k1, by rw [FIN.out]; rfl⟩
        · have e3 : decide ((x : Int) < (y : Int)) = false := by simpa using q3
          obtain rfl : x = y := by omega
          go_enter Try.func51, Try.ntmps51
          go_wp2_with fail
          refine (lat_build nn A len c ps _ hp).mono ?_
          rintro e w1 ⟨k1, ⟨hz, _⟩ | ⟨_, nn', B, hnn, rfl, ht⟩⟩
          · rw [H0.out] at hz; cases hz
          obtain rfl : nn = nn' := by omega
          clear hnn
          obtain ⟨Au, Ad, Aj, Am, cu, cd, cj, cm, h0, c0, c1, c2, c3, c4, hu, hj, hm⟩ := ht
          obtain ⟨bj, oj, rfl, hbj, hjj⟩ := hj
          obtain ⟨b2, o2, r2, cr, hb2, hcc⟩ := hjj x hx
          have cxy := hcc x hx
          clear hjj hcc hm hu
          generalize joinI nn ps x x = v at cxy HN HS
          by_cases hv : v < 0
          · have dv : decide (v < 0) = true := by simpa using hv
            have FIN := Lib.hid (HN.out hv)
            clear hv
            go_wp2_with (go_at_call 52; refine (pickJ_any B _ _ _ _ c2).mono ?_; rintro e w2 ⟨rfl, rfl⟩)
            go_ret2
            exact ⟨k1, by rw [FIN.out]; rfl⟩
          · have dv : decide (v < 0) = false := by simpa using hv
            have FIN := Lib.hid (HS.out (by omega))
            clear hv
            go_wp2_with (go_at_call 52; refine (pickJ_any B _ _ _ _ c2).mono ?_; rintro e w2 ⟨rfl, rfl⟩)
            go_ret2
            exact ⟨k1, by rw [FIN.out]; rfl⟩
  · have hne : (ordF n ps != 0) = true := by simpa using h
    have HF := Lib.hid (latR_bad (a := a) (b := b) (f := joinI n.toNat ps) hne)
    have HNE := Lib.hid hne
    clear h hne
    go_enter Try.func51, Try.ntmps51
    go_wp2_with fail
    refine (latBuild_bad n A len c ps _ hp HNE.out).mono ?_
    rintro e w1 ⟨k1, ⟨hz, rfl⟩ | ⟨hz, _⟩⟩
    case inr => have := HNE.out; rw [hz] at this; cases this
    go_wp2_with fail
    go_ret2
    exact ⟨k1, by rw [HF.out]; rfl⟩
theorem latJoin_any (n : Int) (A : Option Addr) (len c : Nat) (ps : List Pr) (a b : Int) (w : World) (hp : SlP w A len ps) :
    Calls Try.prog 32 #[.int .i64 n, .slice A len c, .int .i64 a, .int .i64 b] w (RetLat w (latR n ps a b (joinI n.toNat ps))) := by
  go_enter Try.func32, Try.ntmps32
  go_wp2_with fail
  refine (ofJ_any n A len c ps a b _ hp).mono ?_
  rintro e w1 ⟨k1, rfl⟩
  go_wp2_with fail
  go_ret2
  exact ⟨k1, rfl⟩
set_option maxHeartbeats 2000000 in
theorem ofM_any (n : Int) (A : Option Addr) (len c : Nat) (ps : List Pr) (a b : Int) (w : World) (hp : SlP w A len ps) :
    Calls Try.prog 51 #[.int .i64 n, .slice A len c, .int .i64 a, .int .i64 b, .func (.func 53) #[] #[]] w (RetLat w (latR n ps a b (meetI n.toNat ps))) := by
  by_cases h : ordF n ps = 0
  · have H0 := Lib.hid h
    by_cases hr : a < 0 ∨ b < 0 ∨ n ≤ a ∨ n ≤ b
    · have HF := Lib.hid (latR_range (f := meetI n.toNat ps) h hr)
      clear h
      have fin : ∀ w', Kept w w' → RetLat w (latR n ps a b (meetI n.toNat ps)) (.returned (.tuple #[.int .i64 0, .int .i64 4])) w' := fun w' hk => ⟨hk, by rw [HF.out]⟩
      have FIN := Lib.hid fin
      clear fin
      by_cases q : b < a
      · have q2 : b ≤ a := by omega
        have q4 : ¬ a < b := by omega
        have e1 : decide (b < a) = true := by simpa using q
        have e2 : decide (b ≤ a) = true := by simpa using q2
        have e4 : decide (a < b) = false := by simpa using q4
        by_cases r : b < 0
        · have d1 : decide (b < 0) = true := by simpa using r
          clear hr
          go_enter Try.func51, Try.ntmps51
          go_wp2_with fail
          refine (lat_build n A len c ps _ hp).mono ?_
          rintro e w1 ⟨k1, ⟨hz, _⟩ | ⟨_, nn, B, rfl, rfl, ht⟩⟩
          · rw [H0.out] at hz; cases hz
          go_wp2_with fail
          go_ret2
          exact FIN.out _ k1
        · have r2 : n ≤ a := by omega
          have d1 : decide (b < 0) = false := by simpa using r
          have d2 : decide (n ≤ a) = true := by simpa using r2
          clear hr
          go_enter Try.func51, Try.ntmps51
          go_wp2_with fail
          refine (lat_build n A len c ps _ hp).mono ?_
          rintro e w1 ⟨k1, ⟨hz, _⟩ | ⟨_, nn, B, rfl, rfl, ht⟩⟩
          · rw [H0.out] at hz; cases hz
          go_wp2_with fail
          go_ret2
          exact FIN.out _ k1
      · have e1 : decide (b < a) = false := by simpa using q
        by_cases r : a < 0
        · have d1 : decide (a < 0) = true := by simpa using r
          clear hr
          go_enter Try.func51, Try.ntmps51
          go_wp2_with fail
          refine (lat_build n A len c ps _ hp).mono ?_
          rintro e w1 ⟨k1, ⟨hz, _⟩ | ⟨_, nn, B, rfl, rfl, ht⟩⟩
          · rw [H0.out] at hz; cases hz
          go_wp2_with fail
          go_ret2
          exact FIN.out _ k1
        · have r2 : n ≤ b := by omega
          have d1 : decide (a < 0) = false := by simpa using r
          have d2 : decide (n ≤ b) = true := by simpa using r2
          clear hr
          by_cases q3 : a < b
          · have e3 : decide (a < b) = true := by simpa using q3
            go_enter Try.func51, Try.ntmps51
            go_wp2_with fail
            refine (lat_build n A len c ps _ hp).mono ?_
            rintro e w1 ⟨k1, ⟨hz, _⟩ | ⟨_, nn, B, rfl, rfl, ht⟩⟩
            · rw [H0.out] at hz; cases hz
            go_wp2_with fail
            go_ret2
            exact FIN.out _ k1
          · have e3 : decide (a < b) = false := by simpa using q3
            obtain rfl : a = b := by omega
            go_enter Try.func51, Try.ntmps51
            go_wp2_with fail
            refine (lat_build n A len c ps _ hp).mono ?_
            rintro e w1 ⟨k1, ⟨hz, _⟩ | ⟨_, nn, B, rfl, rfl, ht⟩⟩
            · rw [H0.out] at hz; cases hz
            go_wp2_with fail
            go_ret2
            exact FIN.out _ k1
    · obtain ⟨nn, rfl⟩ := Int.eq_ofNat_of_zero_le (show 0 ≤ n by omega)
      obtain ⟨x, rfl⟩ := Int.eq_ofNat_of_zero_le (show 0 ≤ a by omega)
      obtain ⟨y, rfl⟩ := Int.eq_ofNat_of_zero_le (show 0 ≤ b by omega)
      rw [Int.toNat_natCast]
      have hx : x < nn := by omega
      have hy : y < nn := by omega
      have HN := Lib.hid (fun h3 => latR_none (f := meetI nn ps) h hx hy h3)
      have HS := Lib.hid (fun h3 => latR_some (f := meetI nn ps) h hx hy h3)
      clear h hr
      have g1 : decide ((x : Int) < 0) = false := by simp
      have g2 : decide ((y : Int) < 0) = false := by simp
      have g3 : decide ((nn : Int) ≤ (x : Int)) = false := by simp; omega
      have g4 : decide ((nn : Int) ≤ (y : Int)) = false := by simp; omega
      have i1 : (0 : Int) ≤ (x : Int) := by omega
      have i2 : (x : Int) < (nn : Int) := by omega
      have i3 : (0 : Int) ≤ (y : Int) := by omega
      have i4 : (y : Int) < (nn : Int) := by omega
      by_cases q : (y : Int) < (x : Int)
      · have e1 : decide ((y : Int) < (x : Int)) = true := by simpa using q
        have q2 : ¬ (x : Int) < (y : Int) := by omega
        have e2 : decide ((x : Int) < (y : Int)) = false := by simpa using q2
        go_enter Try.func51, Try.ntmps51
        go_wp2_with fail
        refine (lat_build nn A len c ps _ hp).mono ?_
        rintro e w1 ⟨k1, ⟨hz, _⟩ | ⟨_, nn', B, hnn, rfl, ht⟩⟩
        · rw [H0.out] at hz; cases hz
        obtain rfl : nn = nn' := by omega
        clear hnn
        obtain ⟨Au, Ad, Aj, Am, cu, cd, cj, cm, h0, c0, c1, c2, c3, c4, hu, hj, hm⟩ := ht
        obtain ⟨bj, oj, rfl, hbj, hjj⟩ := hm
        obtain ⟨b2, o2, r2, cr, hb2, hcc⟩ := hjj x hx
        have cxy := hcc y hy
        clear hjj hcc hj hu
        generalize meetI nn ps x y = v at cxy HN HS
        by_cases hv : v < 0
        · have dv : decide (v < 0) = true := by simpa using hv
          have FIN := Lib.hid (HN.out hv)
          clear hv
          go_wp2_with (go_at_call 53; refine (pickM_any B _ _ _ _ c3).mono ?_; rintro e w2 ⟨rfl, rfl⟩)
          go_ret2
          exact ⟨k1, by rw [FIN.out]; rfl⟩
        · have dv : decide (v < 0) = false := by simpa using hv
          have FIN := Lib.hid (HS.out (by omega))
          clear hv
          go_wp2_with (go_at_call 53; refine (pickM_any B _ _ _ _ c3).mono ?_; rintro e w2 ⟨rfl, rfl⟩)
          go_ret2
          exact ⟨k1, by rw [FIN.out]; rfl⟩
      · have e1 : decide ((y : Int) < (x : Int)) = false := by simpa using q
        by_cases q3 : (x : Int) < (y : Int)
        · have e3 : decide ((x : Int) < (y : Int)) = true := by simpa using q3
          go_enter Try.func51, Try.ntmps51
          go_wp2_with fail
          refine (lat_build nn A len c ps _ hp).mono ?_
          rintro e w1 ⟨k1, ⟨hz, _⟩ | ⟨_, nn', B, hnn, rfl, ht⟩⟩
          · rw [H0.out] at hz; cases hz
          obtain rfl : nn = nn' := by omega
          clear hnn
          obtain ⟨Au, Ad, Aj, Am, cu, cd, cj, cm, h0, c0, c1, c2, c3, c4, hu, hj, hm⟩ := ht
          obtain ⟨bj, oj, rfl, hbj, hjj⟩ := hm
          obtain ⟨b2, o2, r2, cr, hb2, hcc⟩ := hjj x hx
          have cxy := hcc y hy
          clear hjj hcc hj hu
          generalize meetI nn ps x y = v at cxy HN HS
          by_cases hv : v < 0
          · have dv : decide (v < 0) = true := by simpa using hv
            have FIN := Lib.hid (HN.out hv)
            clear hv
            go_wp2_with (go_at_call 53; refine (pickM_any B _ _ _ _ c3).mono ?_; rintro e w2 ⟨rfl, rfl⟩)
            go_ret2
            exact ⟨k1, by rw [FIN.out]; rfl⟩
          · have dv : decide (v < 0) = false := by simpa using hv
            have FIN := Lib.hid (HS.out (by omega))
            clear hv
            go_wp2_with (go_at_call 53; refine (pickM_any B _ _ _ _ c3).mono ?_; rintro e w2 ⟨rfl, rfl⟩)
            go_ret2
            exact ⟨k1, by rw [FIN.out]; rfl⟩
        · have e3 : decide ((x : Int) < (y : Int)) = false := by simpa using q3
          obtain rfl : x = y := by omega
          go_enter Try.func51, Try.ntmps51
          go_wp2_with fail
          refine (lat_build nn A len c ps _ hp).mono ?_
          rintro e w1 ⟨k1, ⟨hz, _⟩ | ⟨_, nn', B, hnn, rfl, ht⟩⟩
          · rw [H0.out] at hz; cases hz
          obtain rfl : nn = nn' := by omega
          clear hnn
          obtain ⟨Au, Ad, Aj, Am, cu, cd, cj, cm, h0, c0, c1, c2, c3, c4, hu, hj, hm⟩ := ht
          obtain ⟨bj, oj, rfl, hbj, hjj⟩ := hm
          obtain ⟨b2, o2, r2, cr, hb2, hcc⟩ := hjj x hx
          have cxy := hcc x hx
          clear hjj hcc hj hu
          generalize meetI nn ps x x = v at cxy HN HS
          by_cases hv : v < 0
          · have dv : decide (v < 0) = true := by simpa using hv
            have FIN := Lib.hid (HN.out hv)
            clear hv
            go_wp2_with (go_at_call 53; refine (pickM_any B _ _ _ _ c3).mono ?_; rintro e w2 ⟨rfl, rfl⟩)
            go_ret2
            exact ⟨k1, by rw [FIN.out]; rfl⟩
          · have dv : decide (v < 0) = false := by simpa using hv
            have FIN := Lib.hid (HS.out (by omega))
            clear hv
            go_wp2_with (go_at_call 53; refine (pickM_any B _ _ _ _ c3).mono ?_; rintro e w2 ⟨rfl, rfl⟩)
            go_ret2
            exact ⟨k1, by rw [FIN.out]; rfl⟩
  · have hne : (ordF n ps != 0) = true := by simpa using h
    have HF := Lib.hid (latR_bad (a := a) (b := b) (f := meetI n.toNat ps) hne)
    have HNE := Lib.hid hne
    clear h hne
    go_enter Try.func51, Try.ntmps51
    go_wp2_with fail
    refine (latBuild_bad n A len c ps _ hp HNE.out).mono ?_
    rintro e w1 ⟨k1, ⟨hz, rfl⟩ | ⟨hz, _⟩⟩
    case inr => have := HNE.out; rw [hz] at this; cases this
    go_wp2_with fail
    go_ret2
    exact ⟨k1, by rw [HF.out]; rfl⟩
theorem latMeet_any (n : Int) (A : Option Addr) (len c : Nat) (ps : List Pr) (a b : Int) (w : World) (hp : SlP w A len ps) :
    Calls Try.prog 33 #[.int .i64 n, .slice A len c, .int .i64 a, .int .i64 b] w (RetLat w (latR n ps a b (meetI n.toNat ps))) := by
  go_enter Try.func33, Try.ntmps33
  go_wp2_with fail
  refine (ofM_any n A len c ps a b _ hp).mono ?_
  rintro e w1 ⟨k1, rfl⟩
  go_wp2_with fail
  go_ret2
  exact ⟨k1, rfl⟩
end Go.Proofs.Ytgcpomdlajoifaa
