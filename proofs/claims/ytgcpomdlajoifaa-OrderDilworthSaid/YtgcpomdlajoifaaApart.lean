/- The walks of order.Free and order.Apart. -/
import Derived.Test.YtgcpomdlajoifaaChain
import Derived.Test.YtgcpomdlajoifaaOff1
namespace Go.Proofs.Ytgcpomdlajoifaa
open Go Go.RowKit
set_option linter.unusedVariables false

theorem freeU_succ (up : List (BitVec 32)) (s : BitVec 32) (k : Nat) : freeU up s (k + 1) = (freeU up s k && (!s.getLsbD k || (nth up k &&& s == 1#32 <<< k))) := by
  unfold freeU
  rw [List.range_succ, List.all_append]
  simp
theorem freeU_false {up : List (BitVec 32)} {s : BitVec 32} {k n : Nat} (hk : k < n) (h1 : s.getLsbD k = true) (h2 : (nth up k &&& s == 1#32 <<< k) = false) : freeU up s n = false := by
  unfold freeU
  rw [List.all_eq_false]
  exact ⟨k, List.mem_range.2 hk, by rw [h1, h2]; simp⟩
set_option maxRecDepth 100000 in
set_option maxHeartbeats 2000000 in
theorem freeU_any (up : List (BitVec 32)) (A : Option Addr) (n c : Nat) (s : BitVec 32) (w : World) (hs : SlW w A n up) (hn : n ≤ 32) :
    Calls Try.prog 44 #[.slice A n c, .int .u32 (W s)] w fun e w' => e = .returned (.bool (freeU up s n)) ∧ Kept w w' := by
  go_enter Try.func44, Try.ntmps44
  go_wp2_with fail
  go_loopw [9] (fun t wr => ∃ k : Nat, k ≤ n ∧ t = .int .i64 (k : Nat) ∧ Hid (freeU up s k = true) ∧ Kept w wr) (fun t _ => n - (intOf t).toNat)
  case atStart => exact ⟨0, Nat.zero_le _, rfl, Lib.hid rfl, Kept.refl _⟩
  case round =>
    obtain ⟨k, hk, rfl, HY, hkw⟩ := hrel
    by_cases hlt : k < n
    · obtain ⟨b, o, rfl, hb, hc⟩ := (hs.kept hkw).open_ (by omega)
      have x1 := hc k hlt
      have HS := Lib.hid (freeU_succ up s k)
      have HF := Lib.hid (fun h1 h2 => freeU_false (up := up) (s := s) hlt h1 h2)
      have i1 : (0 : Int) ≤ (k : Int) := by omega
      have i2 : (k : Int) < (n : Int) := by omega
      generalize nth up k = y at x1 HS HF
      have HKW := Lib.hid hkw
      clear hc hs hkw
      cases hbit : s.getLsbD k with
      | false =>
        have HN := Lib.hid (show freeU up s (k + 1) = true by rw [HS.out, HY.out, hbit]; rfl)
        go_wp2_with fail
        go_roundw
        case rel => exact ⟨k + 1, by omega, by go_num, HN, HKW.out⟩
        case measure => simp [intOf]; omega
      | true =>
        cases hq : (y &&& s == 1#32 <<< k) with
        | true =>
          have HN := Lib.hid (show freeU up s (k + 1) = true by rw [HS.out, HY.out, hq]; simp)
          have hne : (y &&& s != 1#32 <<< k) = false := by unfold bne; rw [hq]; rfl
          clear hq
          go_wp2_with fail
          go_roundw
          case rel => exact ⟨k + 1, by omega, by go_num, HN, HKW.out⟩
          case measure => simp [intOf]; omega
        | false =>
          have HN := Lib.hid (HF.out hbit hq)
          have hne : (y &&& s != 1#32 <<< k) = true := by unfold bne; rw [hq]; rfl
          clear hq
          go_wp2_with fail
          go_ret
          exact ⟨by rw [HN.out]; rfl, HKW.out⟩
    · have HN := Lib.hid (show freeU up s n = true by
        have := HY.out
        rw [show k = n by omega] at this
        exact this)
      go_wp2_with fail
      go_ret
      exact ⟨by rw [HN.out]; rfl, hkw⟩
theorem fit_six {n : Nat} {s : BitVec 32} (hn : n ≤ 6) (h : fitB n s = true) : fitB 6 s = true := fitB_iff.2 fun i hi => Nat.lt_of_lt_of_le (fitB_iff.1 h i hi) hn
theorem fit_small {n k : Nat} (hn : n ≤ 6) (h : k < 2 ^ n) : fitB 6 (BitVec.ofNat 32 k) = true := by
  rw [fitB_iff]
  intro i hi
  rw [BitVec.getLsbD_ofNat, Bool.and_eq_true] at hi
  refine Decidable.byContradiction fun hc => ?_
  have := Nat.testBit_lt_two_pow (i := i) (x := k) (Nat.lt_of_lt_of_le h (Nat.pow_le_pow_right (by omega) (by omega)))
  rw [this] at hi
  exact Bool.noConfusion hi.2
set_option maxRecDepth 100000 in
set_option maxHeartbeats 2000000 in
theorem apart_yes (nn : Nat) (A : Option Addr) (len c : Nat) (ps : List Pr) (w : World) (hp : SlP w A len ps) (hc : ordF nn ps = 0) :
    Calls Try.prog 23 #[.int .i64 nn, .slice A len c] w fun e w' => e = .returned (.tuple #[.int .u32 (W (apartS nn ps)), .int .i64 0]) ∧ Kept w w' := by
  obtain ⟨⟨hn1, hn6, hlen⟩, hrng, hanti⟩ := ordF_zero hc
  have HC := Lib.hid hc
  have hn32 : nn < 32 := by omega
  have hi0 : (0 : Int) ≤ (nn : Int) := by omega
  clear hc hrng hanti hlen
  go_enter Try.func23, Try.ntmps23
  go_wp2_with fail
  refine (table_any nn _ _ _ ps _ hp).mono ?_
  rintro e w1 ⟨k1, ⟨_, A1, c1, rfl, hup⟩ | ⟨hne, _⟩⟩
  case inr => rw [HC.out] at hne; cases hne
  rw [Int.toNat_natCast] at hup
  have HUP := Lib.hid hup
  have HK1 := Lib.hid k1
  have HFU := Lib.hid (fun s => freeU_upL (ps := ps) (n := nn) (by omega) s)
  have HAP := Lib.hid (show apartS nn ps = bestF (freeF nn ps) (2 ^ nn) from rfl)
  have HBL := Lib.hid (fun k hk => bestF_lt (f := freeF nn ps) (n := nn) (by omega) k hk)
  generalize hff : freeF nn ps = ff at HFU HAP HBL
  clear hff hup k1
  go_wp2_with fail
  go_loopw [8, 21] (fun v t wr => ∃ k : Nat, k ≤ 2 ^ nn ∧ t = .int .u32 (W (BitVec.ofNat 32 k)) ∧ v = .int .u32 (W (bestF ff k)) ∧ Kept w1 wr) (fun _ t _ => 2 ^ nn - (intOf t).toNat)
  case atStart => exact ⟨0, Nat.zero_le _, rfl, rfl, Kept.refl _⟩
  case round =>
    obtain ⟨k, hk, rfl, rfl, hkw⟩ := hrel
    by_cases hlt : k < 2 ^ nn
    · have hyes := word_yes hn32 hlt
      have HFR := Lib.hid (freeU_any (upL nn ps) A1 nn c1 (BitVec.ofNat 32 k) wr (HUP.out.kept hkw) (by omega))
      rw [HFU.out] at HFR
      have HB1 := Lib.hid (fit_six (by omega) (HBL.out k (by omega)))
      have HS1 := Lib.hid (fit_small (by omega) hlt)
      have HSU := Lib.hid (show bestF ff (k + 1) = if ff (BitVec.ofNat 32 k) = true ∧ bitsN (bestF ff k) 32 < bitsN (BitVec.ofNat 32 k) 32 then BitVec.ofNat 32 k else bestF ff k from rfl)
      have hsc := word_succ k
      have HME := Lib.hid (word_meas hn32 hlt)
      have HLT := Lib.hid hlt
      have HKW := Lib.hid hkw
      clear hkw hk
      cases hf : ff (BitVec.ofNat 32 k) with
      | false =>
        have HSV := Lib.hid (show bestF ff (k + 1) = bestF ff k by rw [HSU.out, if_neg]; intro h; rw [hf] at h; exact Bool.noConfusion h.1)
        rw [hf] at HFR
        clear hf
        go_wp2_with fail
        refine HFR.out.mono ?_
        rintro e w2 ⟨rfl, k2⟩
        go_wp2_with fail
        go_roundw
        case rel => exact ⟨k + 1, HLT.out, by first | rfl | rw [hsc], by rw [HSV.out], HKW.out.trans k2⟩
        case measure => exact HME.out
      | true =>
        have HO1 := Lib.hid (fun W => ones6_any (BitVec.ofNat 32 k) HS1.out W)
        have HO2 := Lib.hid (fun W => ones6_any (bestF ff k) HB1.out W)
        rw [hf] at HFR HSU
        clear hf
        generalize hb1 : bitsN (BitVec.ofNat 32 k) 32 = n1 at HO1 HSU
        generalize hb2 : bitsN (bestF ff k) 32 = n2 at HO2 HSU
        clear hb1 hb2
        by_cases hlt2 : n2 < n1
        · have hgi : decide ((n2 : Int) < (n1 : Int)) = true := by rw [decide_eq_true_eq]; omega
          have hgn : decide (n2 < n1) = true := by rw [decide_eq_true_eq]; exact hlt2
          have HSV := Lib.hid (show bestF ff (k + 1) = BitVec.ofNat 32 k by rw [HSU.out, if_pos ⟨rfl, hlt2⟩])
          go_wp2_with fail
          refine HFR.out.mono ?_
          rintro e w2 ⟨rfl, k2⟩
          go_wp2_with fail
          refine (HO1.out _).mono ?_
          rintro e w3 ⟨rfl, k3⟩
          go_wp2_with fail
          refine (HO2.out _).mono ?_
          rintro e w4 ⟨rfl, k4⟩
          go_wp2_with fail
          go_roundw
          case rel => exact ⟨k + 1, HLT.out, by first | rfl | rw [hsc], by rw [HSV.out], HKW.out.trans (k2.trans (k3.trans k4))⟩
          case measure => exact HME.out
        · have hgi : decide ((n2 : Int) < (n1 : Int)) = false := by rw [decide_eq_false_iff_not]; omega
          have hgn : decide (n2 < n1) = false := by rw [decide_eq_false_iff_not]; exact hlt2
          have HSV := Lib.hid (show bestF ff (k + 1) = bestF ff k by rw [HSU.out, if_neg (fun h => hlt2 h.2)])
          go_wp2_with fail
          refine HFR.out.mono ?_
          rintro e w2 ⟨rfl, k2⟩
          go_wp2_with fail
          refine (HO1.out _).mono ?_
          rintro e w3 ⟨rfl, k3⟩
          go_wp2_with fail
          refine (HO2.out _).mono ?_
          rintro e w4 ⟨rfl, k4⟩
          go_wp2_with fail
          go_roundw
          case rel => exact ⟨k + 1, HLT.out, by first | rfl | rw [hsc], by rw [HSV.out], HKW.out.trans (k2.trans (k3.trans k4))⟩
          case measure => exact HME.out
    · have HE := Lib.hid (show k = 2 ^ nn by omega)
      have hno := word_no hn32 HE.out
      have HKW := Lib.hid hkw
      clear hlt hk hkw
      go_wp2_with fail
      go_ret2
      exact ⟨by rw [HAP.out, ← HE.out]; rfl, HK1.out.trans HKW.out⟩
theorem apart_no (n : Int) (A : Option Addr) (len c : Nat) (ps : List Pr) (w : World) (hp : SlP w A len ps) (hc : ordF n ps ≠ 0) :
    Calls Try.prog 23 #[.int .i64 n, .slice A len c] w fun e w' => e = .returned (.tuple #[.int .u32 0, .int .i64 (ordF n ps)]) ∧ Kept w w' := by
  go_enter Try.func23, Try.ntmps23
  go_wp2_with fail
  refine (table_any n _ _ _ ps _ hp).mono ?_
  rintro e w1 ⟨k1, ⟨h0, _⟩ | ⟨hne, rfl⟩⟩
  case inl => exact absurd h0 hc
  have hne2 : (ordF n ps != 0) = true := hne
  have HK1 := Lib.hid k1
  clear k1 hne hc hp
  go_wp2_with fail
  go_ret2
  exact ⟨rfl, HK1.out⟩
end Go.Proofs.Ytgcpomdlajoifaa
