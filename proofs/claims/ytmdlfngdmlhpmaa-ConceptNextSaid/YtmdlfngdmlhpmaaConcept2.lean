/- The walks of package concept: wrong, up, down, and the reference's check. -/
import Derived.Test.YtmdlfngdmlhpmaaConcept
namespace Go.Proofs.Ytmdlfngdmlhpmaa
open Go Go.RowKit
set_option linter.unusedVariables false

theorem conFits_any (n : Nat) (hn : n < 32) (x : BitVec 32) (w : World) : Calls Try.prog 38 #[.int .i64 n, .int .u32 (W x)] w fun e w' => e = .returned (.bool (fitB n x)) ∧ w = w' := by
  have h1 : decide (32 ≤ (n : Int)) = false := by simp; omega
  rw [fitB_lt hn]
  go_enter Try.func38, Try.ntmps38
  go_wp2
  go_ret
  exact ⟨rfl, rfl⟩
theorem conIn_any (x y : BitVec 32) (w : World) : Calls Try.prog 14 #[.int .u32 (W x), .int .u32 (W y)] w fun e w' => e = .returned (.bool (subB x y)) ∧ w = w' := by
  go_enter Try.func14, Try.ntmps14
  go_wp2
  go_ret
  exact ⟨rfl, rfl⟩
theorem guards8 {n : Int} {len : Nat} (hbad : n < 1 ∨ 6 < n ∨ 8 < len) : decide (n < 1) = true ∨ (decide (n < 1) = false ∧ decide (6 < n) = true) ∨ (decide (n < 1) = false ∧ decide (6 < n) = false ∧ decide (8 < (len : Int)) = true) := by
  simp
  omega

set_option maxHeartbeats 400000 in
theorem conWrong_any (n : Int) (A : Option Addr) (len c : Nat) (rows : List (BitVec 32)) (objects : BitVec 32) (A2 : Option Addr) (m c2 : Nat) (marks : List (BitVec 32)) (w : World) (hr : SlW w A len rows) (hm : SlW w A2 m marks) (hm2 : m ≤ 10) :
    Calls Try.prog 41 #[.int .i64 n, .slice A len c, .int .u32 (W objects), .slice A2 m c2] w fun e w' => e = .returned (.int .i64 (tabF n rows objects marks)) ∧ Kept w w' := by
  by_cases hbad : n < 1 ∨ 6 < n ∨ 8 < len
  · have HF := Lib.hid (show tabF n rows objects marks = 1 by unfold tabF; rw [hr.2, if_pos hbad])
    clear hr hm
    rcases guards8 hbad with d1 | ⟨d1, d2⟩ | ⟨d1, d2, d3⟩
    all_goals
      clear hbad
      go_enter Try.func41, Try.ntmps41
      go_wp2
      go_ret
      exact ⟨by rw [HF.out]; rfl, Kept.refl _⟩
  · have h1 : 1 ≤ n := by omega
    have h6 : n ≤ 6 := by omega
    have hlen : len ≤ 8 := by omega
    obtain ⟨nn, rfl⟩ := Int.eq_ofNat_of_zero_le (show 0 ≤ n by omega)
    have HF := Lib.hid (show tabF nn rows objects marks = if (rows ++ marks).all (fitB nn) && fitB rows.length objects then 0 else 4 by unfold tabF; rw [hr.2, if_neg hbad, Int.toNat_natCast])
    clear hbad
    have hd : decide ((nn : Int) < 1) = false := by simp; omega
    have hd2 : decide (6 < (nn : Int)) = false := by simp; omega
    have hd3 : decide (8 < (len : Int)) = false := by simp; omega
    have HRL := Lib.hid hr.2
    have HML := Lib.hid hm.2
    go_enter Try.func41, Try.ntmps41
    go_wp2_with fail
    refine (clone_any _ _ _ rows _ hr (by omega)).mono ?_
    rintro e w1 ⟨v1, rfl, ho1⟩
    have HO1 := Lib.hid ho1
    have hm' := (hm.kept ho1.2).1
    obtain ⟨L, hLe⟩ : ∃ L, rows.length + m = L := ⟨_, rfl⟩
    have HLE := Lib.hid hLe
    have hL : L ≤ 18 := by rw [← hLe, HRL.out]; omega
    clear ho1 hLe
    go_wp2_with (at_builtin; refine wpList_pushAll rfl _ _ 36 rfl 23 Try.underlying36 info_u32 rfl (by decide) (by decide) _ _ _ _ HO1.out _ _ _ _ hm' rfl rfl (one_words _) L HLE.out (by omega) ?_; intro v2 w2 hown2; obtain ⟨A3, c3, rfl, hs3, _⟩ := hown2.form)
    have hk2 : Kept w w2 := hown2.2
    rw [← List.map_append] at hs3
    have hsl : SlW w2 A3 L (rows ++ marks) := ⟨hs3, by rw [List.length_append, HML.out, HLE.out]⟩
    clear hown2 hs3 hm'
    have HLL := Lib.hid (show (rows ++ marks).length = L by rw [List.length_append, HML.out, HLE.out])
    go_loop [27] (fun t => ∃ q : Nat, q ≤ L ∧ t = .int .i64 q ∧ ((rows ++ marks).take q).all (fitB nn) = true) (fun t => L - (intOf t).toNat)
    case atStart => exact ⟨0, Nat.zero_le _, rfl, rfl⟩
    case round =>
      obtain ⟨q, hq, rfl, hall⟩ := hrel
      have HA := Lib.hid hall
      clear hall
      by_cases hlt : q < L
      · obtain ⟨b, off, hk, rfl, hb, cq⟩ := hsl.get q hlt
        have hs := Lib.hid (all_snoc (fitB nn) (rows ++ marks) q hk)
        have hno := Lib.hid (show fitB nn (rows ++ marks)[q] = false → (rows ++ marks).all (fitB nn) = false from fun h => by
          rw [List.all_eq_false]
          exact ⟨(rows ++ marks)[q], List.getElem_mem hk, by rw [h]; simp⟩)
        generalize (rows ++ marks)[q] = x at cq hs hno
        cases hb1 : fitB nn x
        · have HB := Lib.hid hb1
          go_wp2_with fail
          go_ret
          exact ⟨by rw [HF.out, hno.out HB.out]; rfl, hk2⟩
        · have HB := Lib.hid hb1
          go_wp2_with fail
          go_round
          case rel => exact ⟨q + 1, by omega, by go_num, by rw [hs.out, HA.out, HB.out]; rfl⟩
          case measure => simp [intOf]; omega
      · have HK := Lib.hid (take_all (rows ++ marks) q (by rw [HLL.out]; omega))
        cases hb1 : fitB len objects
        all_goals
          have HB := Lib.hid hb1
          go_wp2_with fail
          go_ret
          exact ⟨by rw [HF.out, ← HK.out, HA.out, HRL.out, HB.out]; rfl, hk2⟩

set_option maxHeartbeats 400000 in
theorem tableCheck_any (n : Int) (A : Option Addr) (len c : Nat) (rows : List (BitVec 32)) (objects marks : BitVec 32) (w : World) (hr : SlW w A len rows) :
    Calls Try.prog 44 #[.int .i64 n, .slice A len c, .int .u32 (W objects), .int .u32 (W marks)] w fun e w' => e = .returned (.int .i64 (tabF n rows objects [marks])) ∧ w = w' := by
  by_cases hbad : n < 1 ∨ 6 < n ∨ 8 < len
  · have HF := Lib.hid (show tabF n rows objects [marks] = 1 by unfold tabF; rw [hr.2, if_pos hbad])
    clear hr
    rcases guards8 hbad with d1 | ⟨d1, d2⟩ | ⟨d1, d2, d3⟩
    all_goals
      clear hbad
      go_enter Try.func44, Try.ntmps44
      go_wp2
      go_ret
      exact ⟨by rw [HF.out]; rfl, rfl⟩
  · have h1 : 1 ≤ n := by omega
    have h6 : n ≤ 6 := by omega
    have hlen : len ≤ 8 := by omega
    obtain ⟨nn, rfl⟩ := Int.eq_ofNat_of_zero_le (show 0 ≤ n by omega)
    have HF := Lib.hid (show tabF nn rows objects [marks] = if rows.all (fitB nn) && (fitB nn marks && fitB len objects) then 0 else 4 by
      unfold tabF; rw [hr.2, if_neg hbad, Int.toNat_natCast, List.all_append, Bool.and_assoc]; simp)
    clear hbad
    have hd : decide ((nn : Int) < 1) = false := by simp; omega
    have hd2 : decide (6 < (nn : Int)) = false := by simp; omega
    have hd3 : decide (8 < (len : Int)) = false := by simp; omega
    have HRL := Lib.hid hr.2
    go_enter Try.func44, Try.ntmps44
    go_wp2_with fail
    go_loop [24] (fun t => ∃ q : Nat, q ≤ len ∧ t = .int .i64 q ∧ (rows.take q).all (fitB nn) = true) (fun t => len - (intOf t).toNat)
    case atStart => exact ⟨0, Nat.zero_le _, rfl, rfl⟩
    case round =>
      obtain ⟨q, hq, rfl, hall⟩ := hrel
      have HA := Lib.hid hall
      clear hall
      by_cases hlt : q < len
      · obtain ⟨b, off, hk, rfl, hb, cq⟩ := hr.get q hlt
        have hs := Lib.hid (all_snoc (fitB nn) rows q hk)
        have hno := Lib.hid (show fitB nn rows[q] = false → rows.all (fitB nn) = false from fun h => by
          rw [List.all_eq_false]
          exact ⟨rows[q], List.getElem_mem hk, by rw [h]; simp⟩)
        cases hb1 : fitB nn rows[q]
        · have HB := Lib.hid hb1
          go_wp2_with (go_at_call 38; refine (conFits_any _ (by omega) _ _).mono ?_; rintro e w' ⟨rfl, rfl⟩)
          go_ret
          exact ⟨by rw [HF.out, hno.out HB.out]; rfl, rfl⟩
        · have HB := Lib.hid hb1
          go_wp2_with (go_at_call 38; refine (conFits_any _ (by omega) _ _).mono ?_; rintro e w' ⟨rfl, rfl⟩)
          go_round
          case rel => exact ⟨q + 1, by omega, by go_num, by rw [hs.out, HA.out, HB.out]; rfl⟩
          case measure => simp [intOf]; omega
      · have HK := Lib.hid (take_all rows q (by rw [HRL.out]; omega))
        cases hb0 : fitB nn marks
        · have HB0 := Lib.hid hb0
          go_wp2_with (go_at_call 38; refine (conFits_any _ (by omega) _ _).mono ?_; rintro e w' ⟨rfl, rfl⟩)
          go_ret
          exact ⟨by rw [HF.out, ← HK.out, HA.out, HB0.out]; rfl, rfl⟩
        · have HB0 := Lib.hid hb0
          cases hb1 : fitB len objects
          all_goals
            have HB := Lib.hid hb1
            go_wp2_with (go_at_call 38; refine (conFits_any _ (by omega) _ _).mono ?_; rintro e w' ⟨rfl, rfl⟩)
            go_ret
            exact ⟨by rw [HF.out, ← HK.out, HA.out, HB0.out, HB.out]; rfl, rfl⟩
theorem tabled_any (n : Int) (A : Option Addr) (len c : Nat) (rows : List (BitVec 32)) (objects marks : BitVec 32) (w : World) (hr : SlW w A len rows) :
    Calls Try.prog 27 #[.int .i64 n, .slice A len c, .int .u32 (W objects), .int .u32 (W marks)] w fun e w' => e = .returned (.bool (tabF n rows objects [marks] == 0)) ∧ w = w' := by
  go_enter Try.func27, Try.ntmps27
  go_wp2_with fail
  refine (tableCheck_any _ _ _ _ _ _ _ _ hr).mono ?_
  rintro e w1 ⟨rfl, rfl⟩
  go_wp2_with fail
  go_ret
  exact ⟨rfl, rfl⟩

theorem up_any (n : Nat) (hn : n ≤ 6) (A : Option Addr) (len c : Nat) (rows : List (BitVec 32)) (objects : BitVec 32) (w : World) (hr : SlW w A len rows) (hlen : len ≤ 8) :
    Calls Try.prog 42 #[.int .i64 n, .slice A len c, .int .u32 (W objects)] w fun e w' => e = .returned (.int .u32 (W (upF (1#32 <<< n - 1#32) objects rows len))) ∧ w = w' := by
  go_enter Try.func42, Try.ntmps42
  go_wp2_with fail
  go_loop [7, 15] (fun o t => ∃ q : Nat, q ≤ len ∧ t = .int .i64 q ∧ o = .int .u32 (W (upF (1#32 <<< n - 1#32) objects rows q))) (fun _ t => len - (intOf t).toNat)
  case atStart => exact ⟨0, Nat.zero_le _, rfl, rfl⟩
  case round =>
    obtain ⟨q, hq, rfl, rfl⟩ := hrel
    by_cases hlt : q < len
    · obtain ⟨b, off, rfl, hb, cq⟩ := hr.getN q hlt
      cases hb1 : objects.getLsbD q
      all_goals
        have HB := Lib.hid hb1
        go_wp2_with fail
        go_round
        case rel => exact ⟨q + 1, by omega, by go_num, by rw [upF, HB.out]; rfl⟩
        case measure => simp [intOf]; omega
    · have HK := Lib.hid (show q = len by omega)
      go_wp2_with fail
      go_ret
      exact ⟨by rw [← HK.out]; rfl, rfl⟩
theorem down_any (A : Option Addr) (len c : Nat) (rows : List (BitVec 32)) (marks : BitVec 32) (w : World) (hr : SlW w A len rows) (hlen : len ≤ 8) :
    Calls Try.prog 43 #[.slice A len c, .int .u32 (W marks)] w fun e w' => e = .returned (.int .u32 (W (downF marks rows len))) ∧ w = w' := by
  go_enter Try.func43, Try.ntmps43
  go_wp2_with fail
  go_loop [5, 10] (fun o t => ∃ q : Nat, q ≤ len ∧ t = .int .i64 q ∧ o = .int .u32 (W (downF marks rows q))) (fun _ t => len - (intOf t).toNat)
  case atStart => exact ⟨0, Nat.zero_le _, rfl, rfl⟩
  case round =>
    obtain ⟨q, hq, rfl, rfl⟩ := hrel
    by_cases hlt : q < len
    · obtain ⟨b, off, rfl, hb, cq⟩ := hr.getN q hlt
      cases hb1 : subB marks (nth rows q)
      all_goals
        have HB := Lib.hid hb1
        go_wp2_with fail
        go_round
        case rel => exact ⟨q + 1, by omega, by go_num, by rw [downF, HB.out]; rfl⟩
        case measure => simp [intOf]; omega
    · have HK := Lib.hid (show q = len by omega)
      go_wp2_with fail
      go_ret
      exact ⟨by rw [← HK.out]; rfl, rfl⟩
end Go.Proofs.Ytmdlfngdmlhpmaa
