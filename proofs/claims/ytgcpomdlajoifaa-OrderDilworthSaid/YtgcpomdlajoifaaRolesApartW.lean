/- RolesApart: the walk of the statement. -/
import Derived.Test.YtgcpomdlajoifaaOff3
namespace Go.Proofs.Ytgcpomdlajoifaa.rolesApartDone
open Go Go.RowKit
set_option linter.unusedVariables false

theorem bitsN_le (x : BitVec 32) : ∀ k, bitsN x k ≤ k := by
  intro k
  induction k with
  | zero => exact Nat.le_refl _
  | succ k ih => show bitsN x k + _ ≤ _; split <;> omega
theorem size_any (x : BitVec 32) (w : World) : Calls Try.prog 25 #[.int .u32 (W x)] w fun e w' => e = .returned (.int .i64 (bitsN x 32)) ∧ w = w' := by
  go_enter Try.func25, Try.ntmps25
  go_wp2_with fail
  go_loop [3, 4] (fun s t => ∃ k : Nat, k ≤ 32 ∧ t = .int .i64 k ∧ s = .int .i64 (bitsN x k)) (fun _ t => 32 - (intOf t).toNat)
  case atStart => exact ⟨0, by omega, rfl, rfl⟩
  case round =>
    obtain ⟨k, hk, rfl, rfl⟩ := hrel
    have hle := bitsN_le x k
    by_cases hlt : k < 32
    · have hi2 : (k : Int) < 32 := by omega
      have HS := Lib.hid (show bitsN x (k + 1) = bitsN x k + if x.getLsbD k then 1 else 0 from rfl)
      have HB0 := Lib.hid (bit_any x k hlt)
      generalize x.getLsbD k = b at HS HB0
      clear hlt
      go_wp2_with fail
      refine (HB0.out _).mono ?_
      rintro e w' ⟨rfl, rfl⟩
      cases b
      · go_wp2_with fail
        go_round
        case rel => exact ⟨k + 1, by omega, by go_num, by rw [HS.out]; rfl⟩
        case measure => simp [intOf]; omega
      · go_wp2_with fail
        go_round
        case rel => exact ⟨k + 1, by omega, by go_num, by rw [HS.out]; rfl⟩
        case measure => simp [intOf]; omega
    · have HK := Lib.hid (show k = 32 by omega)
      go_wp2_with fail
      go_ret
      exact ⟨by rw [← HK.out]; rfl, rfl⟩
set_option maxRecDepth 100000 in
set_option maxHeartbeats 4000000 in
theorem bad (n : Int) (A : Option Addr) (len c : Nat) (ps : List Pr) (Ao : Option Addr) (no co : Nat) (odds : List (BitVec 32)) (users : Int) (A3 : Option Addr) (nd c3 : Nat) (w : World) (hp : SlP w A len ps) (ho : SlW w Ao no odds) (hbad : offF n ps odds users nd ≠ 0) :
    Calls Try.prog 14 #[.int .i64 n, .slice A len c, .slice Ao no co, .int .i64 users, .slice A3 nd c3] w fun e w' => e = .returned (.bool true) ∧ Kept w w' := by
  have HP := Lib.hid (oplay_bad n A len c ps Ao no co odds users A3 nd c3 w hp ho hbad)
  clear hbad
  go_enter Try.func14, Try.ntmps14
  go_wp2_with fail
  refine HP.out.mono ?_
  rintro e w1 ⟨k1, code, hcode, rfl⟩
  have hc2 : (code != 0) = true := by simpa using hcode
  have k2 := k1.alloc (.cells #[.slice none 0 0, .slice none 0 0, .slice none 0 0] 61)
  clear hcode
  go_wp2_with fail
  go_ret
  exact ⟨rfl, k2⟩
set_option maxRecDepth 100000 in
set_option maxHeartbeats 8000000 in
theorem good (n : Nat) (A : Option Addr) (len c : Nat) (ps : List Pr) (Ao : Option Addr) (no co : Nat) (odds : List (BitVec 32)) (users : Nat) (A3 : Option Addr) (nd c3 : Nat) (ds : List De) (w : World) (hp : SlP w A len ps) (ho : SlW w Ao no odds) (hd : SlD w A3 nd ds) (hc : ordF n ps = 0) (h1 : 1 ≤ users) (h5 : users ≤ 5) (hnd : nd ≤ 30) (hno : no ≤ 10) (hmis : odds.any (misR n) = false) :
    Calls Try.prog 14 #[.int .i64 n, .slice A len c, .slice Ao no co, .int .i64 users, .slice A3 nd c3] w fun e w' => e = .returned (.bool true) ∧ Kept w w' := by
  have hn6 : n ≤ 6 := by have := (ordF_zero hc).1.2.1; omega
  have hlen : len ≤ 20 := by rw [← hp.2]; exact (ordF_zero hc).1.2.2
  have HP := Lib.hid (oplay_good n A len c ps Ao no co odds users A3 nd c3 ds w hp ho hd hc h1 h5 hnd hno hmis)
  have HC := Lib.hid hc
  have HPP := Lib.hid hp
  have HOO := Lib.hid ho
  have HLO := Lib.hid ho.2
  have n1 : ((users : Int) != (users : Int)) = false := by simp
  have n2 : ((nd : Int) != (nd : Int)) = false := by simp
  clear hc hmis hp ho hd
  go_enter Try.func14, Try.ntmps14
  go_wp2_with fail
  refine HP.out.mono ?_
  rintro e w1 ⟨k1, AC, cC, G, P, s, rfl, hG, hP, hinv⟩
  have HI := Lib.hid hinv
  have kb := (Kept.refl w1).alloc (.cells #[.slice AC nd cC, .slice (some ⟨G, 0, none⟩) users users, .slice (some ⟨P, 0, none⟩) users users] 61)
  have bx := Box.new w1 #[.slice AC nd cC, .slice (some ⟨G, 0, none⟩) users users, .slice (some ⟨P, 0, none⟩) users users] 61 w1.heap.size rfl
  have b0 := bx.at_ 0 rfl
  have b1 := bx.at_ 1 rfl
  have b2 := bx.at_ 2 rfl
  obtain ⟨w2, hw2⟩ : ∃ w2, w1.alloc (.cells #[.slice AC nd cC, .slice (some ⟨G, 0, none⟩) users users, .slice (some ⟨P, 0, none⟩) users users] 61) = w2 := ⟨_, rfl⟩
  rw [hw2] at kb b0 b1 b2
  have K2 := Lib.hid (k1.trans kb)
  have HG := Lib.hid (hG.kept kb)
  have HP2 := Lib.hid (hP.kept kb)
  have HORD := Lib.hid (fun w' (k : Kept w2 w') => ordered_any n A len c ps w' (HPP.out.kept (K2.out.trans k)))
  rw [HC.out] at HORD
  have HB1 := Lib.hid b1
  have HB2 := Lib.hid b2
  clear hinv bx hG hP k1 kb HP
  go_wp2_with fail
  obtain ⟨B, hB⟩ : ∃ B, w1.heap.size = B := ⟨_, rfl⟩
  rw [hB] at b0 b1 b2 HB1 HB2 ⊢
  clear hB hw2
  refine (HORD.out _ (Kept.refl _)).mono ?_
  rintro e w3 ⟨rfl, k3⟩
  have b0' := (k3.cell (cell_lt b0)).trans b0
  have b1' := (k3.cell (cell_lt b1)).trans b1
  have b2' := (k3.cell (cell_lt b2)).trans b2
  clear b0 b1 b2
  go_wp2_with fail
  clear b0' b1' b2'
  go_loopw [13] (fun t wr => ∃ u : Nat, u ≤ users ∧ t = .int .i64 u ∧ Kept w2 wr) (fun t _ => users - (intOf t).toNat)
  case atStart => exact ⟨0, Nat.zero_le _, rfl, k3⟩
  case round =>
    clear k3
    obtain ⟨u, hu, rfl, ku⟩ := hrel
    have b1 := (ku.cell (cell_lt HB1.out)).trans HB1.out
    have b2 := (ku.cell (cell_lt HB2.out)).trans HB2.out
    by_cases hlt : u < users
    · obtain ⟨bg, og, eg, _, cg⟩ := (HG.out.kept ku).getN u hlt
      cases eg
      obtain ⟨bp, op, ep, _, cp⟩ := (HP2.out.kept ku).getN u hlt
      cases ep
      rw [show nth ((List.range users).map s.given) u = s.given u by rw [nth_eq _ _ (by simpa using hlt)]; simp] at cg
      rw [show nth ((List.range users).map s.play) u = s.play u by rw [nth_eq _ _ (by simpa using hlt)]; simp] at cp
      rw [Nat.zero_add] at cg cp
      have HCG := Lib.hid cg
      have HCP := Lib.hid cp
      have HAS := Lib.hid (HI.out.has u hlt)
      have HFT := Lib.hid (HI.out.fit u hlt)
      have HOD := Lib.hid (HI.out.odd u hlt)
      have HWI := Lib.hid (with_any n hn6 A len c ps (s.given u) wr (HPP.out.kept (K2.out.trans ku)) (by omega))
      generalize s.given u = gu at cg HCG HAS HFT HOD HWI
      generalize s.play u = pu at cp HCP HAS
      generalize dnW n ps gu = hs at HAS HOD HWI
      have hi1 : (0 : Int) ≤ (u : Int) := by omega
      have hi2 : (u : Int) < (users : Int) := by omega
      go_wp2_with fail
      refine HWI.out.mono ?_
      rintro e w4 ⟨rfl, k4⟩
      have q4 := ku.trans k4
      have cg4 := (k4.cell (cell_lt HCG.out)).trans HCG.out
      have cp4 := (k4.cell (cell_lt HCP.out)).trans HCP.out
      have b1q := (q4.cell (cell_lt HB1.out)).trans HB1.out
      have b2q := (q4.cell (cell_lt HB2.out)).trans HB2.out
      clear cg cp b1 b2
      go_wp2_with fail
      refine (inS_is pu hs true HAS.out _).mono ?_
      rintro e w5 ⟨rfl, rfl⟩
      go_wp2_with fail
      refine (fitsS_any n (by omega) gu _).mono ?_
      rintro e w6 ⟨rfl, rfl⟩
      rw [HFT.out]
      go_wp2_with fail
      clear cg4 cp4 b1q b2q
      go_loop [97] (fun t => ∃ q : Nat, q ≤ no ∧ t = .int .i64 q) (fun t => no - (intOf t).toNat)
      case atStart => exact ⟨0, Nat.zero_le _, rfl⟩
      case round =>
        obtain ⟨q, hq, rfl⟩ := hrel
        by_cases hltq : q < no
        · obtain ⟨bo, oo, hkq, rfl, _, cq⟩ := (HOO.out.kept (K2.out.trans q4)).get q hltq
          have hod := HOD.out _ (List.getElem_mem hkq)
          generalize odds[q] = od at cq hod
          have HSZ := Lib.hid (fun w => size_any (od &&& hs) w)
          have hdd : decide ((1 : Int) < ((bitsN (od &&& hs) 32 : Nat) : Int)) = false := by
            unfold oddR at hod
            rw [decide_eq_false_iff_not] at hod ⊢
            omega
          generalize bitsN (od &&& hs) 32 = m at HSZ hdd
          have hdd2 : decide (1 < m) = false := by rw [decide_eq_false_iff_not] at hdd ⊢; omega
          clear hod
          go_wp2_with fail
          refine (HSZ.out _).mono ?_
          rintro e w7 ⟨rfl, rfl⟩
          go_wp2_with fail
          go_round
          case rel => exact ⟨q + 1, by omega, by go_num⟩
          case measure => simp [intOf]; omega
        · go_wp2_with fail
          go_roundw
          case rel => exact ⟨u + 1, by omega, by go_num, q4⟩
          case measure => simp [intOf]; omega
    · go_wp2_with fail
      go_ret
      exact ⟨rfl, K2.out.trans ku⟩
theorem rolesApart_walk (n : Int) (A : Option Addr) (len c : Nat) (ps : List Pr) (Ao : Option Addr) (no co : Nat) (odds : List (BitVec 32)) (users : Int) (A3 : Option Addr) (nd c3 : Nat) (ds : List De) (w : World) (_wn : (Lit.int .i64 n).wf = true) (hl : len ≤ maxLen) (hp : SlP w A len ps) (hl2 : no ≤ maxLen) (ho : SlW w Ao no odds) (_wu : (Lit.int .i64 users).wf = true) (hl3 : nd ≤ maxLen) (hd : SlD w A3 nd ds) :
    Calls Try.prog 14 #[.int .i64 n, .slice A len c, .slice Ao no co, .int .i64 users, .slice A3 nd c3] w fun e w' => e = .returned (.bool true) ∧ Below w.heap.size w w' := by
  suffices h : Calls Try.prog 14 #[.int .i64 n, .slice A len c, .slice Ao no co, .int .i64 users, .slice A3 nd c3] w fun e w' => e = .returned (.bool true) ∧ Kept w w' from h.mono fun e w' ⟨h1, h2⟩ => ⟨h1, h2.below⟩
  by_cases h0 : offF n ps odds users nd = 0
  · have hc : ordF n ps = 0 := by
      by_cases h : ordF n ps = 0
      · exact h
      · unfold offF at h0; rw [if_pos h] at h0; exact h0
    unfold offF at h0
    rw [if_neg (by rw [hc]; simp)] at h0
    by_cases h1 : users < 1 ∨ 5 < users ∨ 30 < nd ∨ 10 < odds.length
    · rw [if_pos h1] at h0; cases h0
    · rw [if_neg h1] at h0
      obtain ⟨m, rfl⟩ := Int.eq_ofNat_of_zero_le (show 0 ≤ n by have := (ordF_zero hc).1.1; omega)
      obtain ⟨us, rfl⟩ := Int.eq_ofNat_of_zero_le (show 0 ≤ users by omega)
      rw [Int.toNat_natCast] at h0
      rw [ho.2] at h1
      have hm : odds.any (misR m) = false := by
        cases hq : odds.any (misR m)
        · rfl
        · rw [hq] at h0; cases h0
      exact good m A len c ps Ao no co odds us A3 nd c3 ds w hp ho hd hc (by omega) (by omega) (by omega) (by omega) hm
  · exact bad n A len c ps Ao no co odds users A3 nd c3 w hp ho h0
end Go.Proofs.Ytgcpomdlajoifaa.rolesApartDone
