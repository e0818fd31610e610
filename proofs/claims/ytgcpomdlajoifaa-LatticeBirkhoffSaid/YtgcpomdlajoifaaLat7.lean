/- The walk of lattice.Irreducible. -/
import Derived.Test.YtgcpomdlajoifaaLat5
namespace Go.Proofs.Ytgcpomdlajoifaa
open Go Go.RowKit
set_option linter.unusedVariables false
set_option linter.unusedSimpArgs false

noncomputable def irTo (n : Nat) (ps : List Pr) (i a b : Nat) : Bool := (irBot n ps i && (List.range a).all fun x => (List.range n).all fun y => irAt n ps i x y) && (List.range b).all fun y => irAt n ps i a y
theorem irTo_start (n : Nat) (ps : List Pr) (i : Nat) : irTo n ps i 0 0 = irBot n ps i := by
  unfold irTo
  simp
theorem irTo_step (n : Nat) (ps : List Pr) (i a b : Nat) : irTo n ps i a (b + 1) = (irTo n ps i a b && irAt n ps i a b) := by
  unfold irTo
  rw [List.range_succ (n := b), List.all_append]
  simp [Bool.and_assoc]
theorem irTo_next (n : Nat) (ps : List Pr) (i a : Nat) : irTo n ps i (a + 1) 0 = irTo n ps i a n := by
  unfold irTo
  rw [List.range_succ (n := a), List.all_append]
  simp [Bool.and_assoc]
theorem irTo_done (n : Nat) (ps : List Pr) (i : Nat) : irTo n ps i n 0 = irB n ps i := by
  unfold irTo irB
  simp
noncomputable def irR (n : Int) (ps : List Pr) : BitVec 32 × Int := if ordF n ps ≠ 0 then (0#32, ordF n ps) else if isL n.toNat ps then (irW n.toNat ps, 0) else (0#32, 3)
def RetWI (w : World) (r : BitVec 32 × Int) (e : Ending) (w' : World) : Prop := Kept w w' ∧ e = .returned (.tuple #[.int .u32 (W r.1), .int .i64 r.2])
theorem irR_bad {n : Int} {ps : List Pr} (h : (ordF n ps != 0) = true) : irR n ps = (0#32, ordF n ps) := by
  unfold irR
  rw [if_pos (by simpa using h)]
theorem irR_no {n : Nat} {ps : List Pr} (h : ordF n ps = 0) (h2 : isL n ps = false) : irR n ps = (0#32, 3) := by
  unfold irR
  rw [if_neg (by simpa using h), Int.toNat_natCast, if_neg (by simp [h2])]
theorem irR_yes {n : Nat} {ps : List Pr} (h : ordF n ps = 0) (h2 : isL n ps = true) : irR n ps = (irW n ps, 0) := by
  unfold irR
  rw [if_neg (by simpa using h), Int.toNat_natCast, if_pos h2]
set_option maxRecDepth 100000 in
set_option maxHeartbeats 8000000 in
theorem irr_yes (n : Nat) (A : Option Addr) (len c : Nat) (ps : List Pr) (w : World) (hp : SlP w A len ps) (h : ordF n ps = 0) (hL : isL n ps = true) :
    Calls Try.prog 37 #[.int .i64 n, .slice A len c] w fun e w' => Kept w w' ∧ e = .returned (.tuple #[.int .u32 (W (irW n ps)), .int .i64 0]) := by
  have LAT := Lib.hid (Lat.of (Ord.of h) hL)
  have H0 := Lib.hid h
  have HL0 := Lib.hid hL
  obtain ⟨⟨h1, h6, _⟩, _⟩ := ordF_zero h
  have h6 : n ≤ 6 := by omega
  clear h1 h hL
  go_enter Try.func37, Try.ntmps37
  go_wp2_with fail
  refine (lat_build n A len c ps _ hp).mono ?_
  rintro e w1 ⟨k1, ⟨hz, _⟩ | ⟨_, nn', B, hnn, rfl, ht⟩⟩
  · rw [H0.out] at hz; cases hz
  obtain rfl : n = nn' := by omega
  clear hnn
  obtain ⟨Au, Ad, Aj, Am, cu, cd, cj, cm, h0, c0, c1, c2, c3, c4, hu, hj, hm⟩ := ht
  rw [HL0.out] at c4
  obtain ⟨bj, oj, rfl, hbj, hjj⟩ := hj
  have HJ := Lib.hid hjj
  have HU := Lib.hid hu
  clear hjj hu hm
  go_wp2_with fail
  go_loopw [8, 28] (fun s t wr => ∃ i : Nat, i ≤ n ∧ t = .int .i64 i ∧ s = .int .u32 (W (wordN i (irB n ps))) ∧ Kept w1 wr) (fun _ t _ => n - (intOf t).toNat)
  case atStart => exact ⟨0, Nat.zero_le _, rfl, rfl, Kept.refl _⟩
  case round =>
    obtain ⟨i, hi, rfl, rfl, hki⟩ := hrel
    by_cases hlt : i < n
    · have HLI := Lib.hid hlt
      obtain ⟨bu, ou, rfl, hbu, cui⟩ := HU.out.getN i hlt
      have HBOT := Lib.hid (show irBot n ps i = (nth (upL n ps) i != 1#32 <<< n - 1#32) from rfl)
      have HWS := Lib.hid (wordN_succ i (irB n ps))
      generalize nth (upL n ps) i = ui at cui HBOT
      have d0 := (hki.cell (p := ⟨B, 0, none⟩) h0).trans c0
      have eu := (hki.cell (p := ⟨bu, ou + i, none⟩) hbu).trans cui
      have i1 : (0 : Int) ≤ (i : Int) := by omega
      have i2 : (i : Int) < (n : Int) := by omega
      have hi31 : i ≤ 31 := by omega
      have hn31 : n ≤ 31 := by omega
      have KI := Lib.hid (fun w' (k : Kept wr w') => hki.trans k)
      clear hki
      generalize wordN i (irB n ps) = acc at HWS ⊢
      cases hx : (ui != 1#32 <<< n - 1#32)
      all_goals
        rw [hx] at HBOT
        go_wp2_with fail
        go_quiet (fail)
        have hk2 := KI.out _ ((Kept.refl wr).drewN nq)
        obtain ⟨wq, hwq⟩ : ∃ wq, wr.drewN nq = wq := ⟨_, rfl⟩
        rw [hwq] at hk2 ⊢
        clear hx d0 eu
        go_wp2_with fail
        go_loopw [10, 43] (fun o t wr => ∃ (a : Nat) (ok : Bool), a ≤ n ∧ t = .int .i64 a ∧ o = .bool ok ∧ Kept w1 wr ∧ Hid (irTo n ps i a 0 = ok)) (fun _ t _ => n - (intOf t).toNat)
        case atStart => exact ⟨0, _, Nat.zero_le _, rfl, rfl, hk2, Lib.hid (by rw [irTo_start]; exact HBOT.out)⟩
        case round =>
          obtain ⟨a, ok, ha, rfl, rfl, hka, HA⟩ := hrel
          by_cases hlt2 : a < n
          · have HLA := Lib.hid hlt2
            obtain ⟨bja, oja, cja, cJa, hbja, hJa⟩ := HJ.out a hlt2
            have HJA := Lib.hid hJa
            clear hJa
            obtain ⟨wa, hwa⟩ : ∃ wa : World, wa = wr := ⟨_, rfl⟩
            subst hwa
            go_wp2_with fail
            go_loopw [10, 47] (fun o t wr => ∃ (b : Nat) (ok : Bool), b ≤ n ∧ t = .int .i64 b ∧ o = .bool ok ∧ Kept w1 wr ∧ Hid (irTo n ps i a b = ok)) (fun _ t _ => n - (intOf t).toNat)
            case atStart => exact ⟨0, ok, Nat.zero_le _, rfl, rfl, hka, HA⟩
            case round =>
              obtain ⟨b, ok, hb, rfl, rfl, hkb, HB⟩ := hrel
              by_cases hlt3 : b < n
              · have HST := Lib.hid (irTo_step n ps i a b)
                cases ok
                · go_wp2_with fail
                  go_roundw
                  case rel => exact ⟨b + 1, false, by omega, by go_num, rfl, hkb, Lib.hid (by rw [HST.out, HB.out]; rfl)⟩
                  case measure => simp [intOf]; omega
                · have cab := HJA.out b hlt3
                  have HAT := Lib.hid (show irAt n ps i a b = (decide (joinI n ps a b ≠ i) || (decide (a = i) || decide (b = i))) from rfl)
                  rw [joinI_eq LAT.out HLA.out hlt3] at cab HAT
                  generalize jn n ps a b = x at cab HAT
                  have d2 := (hkb.cell (p := ⟨B, 2, none⟩) h0).trans c2
                  have eJa := (hkb.cell (p := ⟨bj, oj + a, none⟩) hbj).trans cJa
                  have eab := (hkb.cell (p := ⟨bja, oja + b, none⟩) hbja).trans cab
                  have j1 : (0 : Int) ≤ (a : Int) := by omega
                  have j2 : (a : Int) < (n : Int) := by omega
                  have j3 : (0 : Int) ≤ (b : Int) := by omega
                  have j4 : (b : Int) < (n : Int) := by omega
                  by_cases hxi : x = i
                  · have t1 : ((x : Int) != (i : Int)) = false := by subst hxi; simp
                    by_cases hai : a = i
                    · have t2 : ((a : Int) == (i : Int)) = true := by subst hai; simp
                      have HT := Lib.hid (show irTo n ps i a (b + 1) = true by rw [HST.out, HB.out, HAT.out]; simp [hai])
                      clear hxi hai
                      go_wp2_with fail
                      go_roundw
                      case rel => exact ⟨b + 1, true, by omega, by go_num, rfl, hkb, HT⟩
                      case measure => simp [intOf]; omega
                    · have t2 : ((a : Int) == (i : Int)) = false := by
                        rw [beq_eq_false_iff_ne]; omega
                      by_cases hbi : b = i
                      · have t3 : ((b : Int) == (i : Int)) = true := by subst hbi; simp
                        have HT := Lib.hid (show irTo n ps i a (b + 1) = true by rw [HST.out, HB.out, HAT.out]; simp [hbi])
                        clear hxi hai hbi
                        go_wp2_with fail
                        go_roundw
                        case rel => exact ⟨b + 1, true, by omega, by go_num, rfl, hkb, HT⟩
                        case measure => simp [intOf]; omega
                      · have t3 : ((b : Int) == (i : Int)) = false := by
                          rw [beq_eq_false_iff_ne]; omega
                        have HT := Lib.hid (show irTo n ps i a (b + 1) = false by rw [HST.out, HB.out, HAT.out]; simp [hxi, hai, hbi])
                        clear hxi hai hbi
                        go_wp2_with fail
                        go_roundw
                        case rel => exact ⟨b + 1, false, by omega, by go_num, rfl, hkb, HT⟩
                        case measure => simp [intOf]; omega
                  · have t1 : ((x : Int) != (i : Int)) = true := by
                      rw [bne_iff_ne]; omega
                    have HT := Lib.hid (show irTo n ps i a (b + 1) = true by
                      rw [HST.out, HB.out, HAT.out]
                      have : ¬ (x : Int) = (i : Int) := by omega
                      simp [this])
                    clear hxi
                    go_wp2_with fail
                    go_roundw
                    case rel => exact ⟨b + 1, true, by omega, by go_num, rfl, hkb, HT⟩
                    case measure => simp [intOf]; omega
              · obtain rfl : b = n := by omega
                have HNX := Lib.hid (irTo_next b ps i a)
                go_wp2_with fail
                go_roundw
                case rel => exact ⟨a + 1, ok, by omega, by go_num, rfl, hkb, Lib.hid (by rw [HNX.out]; exact HB.out)⟩
                case measure => simp [intOf]; omega
          · obtain rfl : a = n := by omega
            have HDN := Lib.hid (irTo_done a ps i)
            cases ok
            · have HS2 := Lib.hid (show wordN (i + 1) (irB a ps) = acc by rw [HWS.out, ← HDN.out, HA.out]; rfl)
              go_wp2_with fail
              go_roundw
              case rel => exact ⟨i + 1, by omega, by go_num, by rw [HS2.out], hka⟩
              case measure => simp [intOf]; omega
            · have HS2 := Lib.hid (show wordN (i + 1) (irB a ps) = acc ||| 1#32 <<< i by rw [HWS.out, ← HDN.out, HA.out]; rfl)
              go_wp2_with fail
              go_roundw
              case rel => exact ⟨i + 1, by omega, by go_num, by rw [HS2.out], hka⟩
              case measure => simp [intOf]; omega
    · obtain rfl : i = n := by omega
      have HW := Lib.hid (show irW i ps = wordN i (irB i ps) from rfl)
      go_wp2_with fail
      go_ret2
      exact ⟨k1.trans hki, by rw [HW.out]; rfl⟩
theorem irreducible_any (n : Int) (A : Option Addr) (len c : Nat) (ps : List Pr) (w : World) (hp : SlP w A len ps) :
    Calls Try.prog 37 #[.int .i64 n, .slice A len c] w (RetWI w (irR n ps)) := by
  by_cases h : ordF n ps = 0
  · obtain ⟨nn, rfl⟩ := Int.eq_ofNat_of_zero_le (show 0 ≤ n by have := (ordF_zero h).1.1; omega)
    cases hL : isL nn ps
    · have FIN := Lib.hid (irR_no h hL)
      have H0 := Lib.hid h
      have HL0 := Lib.hid hL
      clear h hL
      go_enter Try.func37, Try.ntmps37
      go_wp2_with fail
      refine (lat_build nn A len c ps _ hp).mono ?_
      rintro e w1 ⟨k1, ⟨hz, _⟩ | ⟨_, nn', B, hnn, rfl, ht⟩⟩
      · rw [H0.out] at hz; cases hz
      obtain rfl : nn = nn' := by omega
      clear hnn
      obtain ⟨Au, Ad, Aj, Am, cu, cd, cj, cm, h0, c0, c1, c2, c3, c4, hu, hj, hm⟩ := ht
      rw [HL0.out] at c4
      clear hu hj hm
      go_wp2_with fail
      go_ret2
      exact ⟨k1, by rw [FIN.out]; rfl⟩
    · have FIN := Lib.hid (irR_yes h hL)
      refine (irr_yes nn A len c ps w hp h hL).mono ?_
      rintro e w' ⟨k, rfl⟩
      exact ⟨k, by rw [FIN.out]⟩
  · have hne : (ordF n ps != 0) = true := by simpa using h
    have FIN := Lib.hid (irR_bad hne)
    have HNE := Lib.hid hne
    clear h hne
    go_enter Try.func37, Try.ntmps37
    go_wp2_with fail
    refine (latBuild_bad n A len c ps _ hp HNE.out).mono ?_
    rintro e w1 ⟨k1, ⟨hz, rfl⟩ | ⟨hz, _⟩⟩
    case inr => have := HNE.out; rw [hz] at this; cases this
    go_wp2_with fail
    go_ret2
    exact ⟨k1, by rw [FIN.out]; rfl⟩
end Go.Proofs.Ytgcpomdlajoifaa
