/- The walks of lattice.Is, all, Shared, Modular. -/
import Derived.Test.YtgcpomdlajoifaaLat5
namespace Go.Proofs.Ytgcpomdlajoifaa
open Go Go.RowKit
set_option linter.unusedVariables false
set_option linter.unusedSimpArgs false

noncomputable def isR (n : Int) (ps : List Pr) : Bool × Int := if ordF n ps ≠ 0 then (false, ordF n ps) else (isL n.toNat ps, 0)
noncomputable def allR (n : Int) (ps : List Pr) (always : Bool) : Bool × Int := if ordF n ps ≠ 0 then (false, ordF n ps) else if isL n.toNat ps then (allL n.toNat ps always, 0) else (false, 3)
def RetBI (w : World) (r : Bool × Int) (e : Ending) (w' : World) : Prop := Kept w w' ∧ e = .returned (.tuple #[.bool r.1, .int .i64 r.2])
theorem isR_bad {n : Int} {ps : List Pr} (h : (ordF n ps != 0) = true) : isR n ps = (false, ordF n ps) := by
  unfold isR
  rw [if_pos (by simpa using h)]
theorem isR_ok {n : Nat} {ps : List Pr} (h : ordF n ps = 0) : isR n ps = (isL n ps, 0) := by
  unfold isR
  rw [if_neg (by simpa using h), Int.toNat_natCast]
theorem allR_bad {n : Int} {ps : List Pr} {b : Bool} (h : (ordF n ps != 0) = true) : allR n ps b = (false, ordF n ps) := by
  unfold allR
  rw [if_pos (by simpa using h)]
theorem allR_no {n : Nat} {ps : List Pr} {b : Bool} (h : ordF n ps = 0) (h2 : isL n ps = false) : allR n ps b = (false, 3) := by
  unfold allR
  rw [if_neg (by simpa using h), Int.toNat_natCast, if_neg (by simp [h2])]
theorem allR_yes {n : Nat} {ps : List Pr} {b : Bool} (h : ordF n ps = 0) (h2 : isL n ps = true) : allR n ps b = (allL n ps b, 0) := by
  unfold allR
  rw [if_neg (by simpa using h), Int.toNat_natCast, if_pos h2]
theorem latIs_any (n : Int) (A : Option Addr) (len c : Nat) (ps : List Pr) (w : World) (hp : SlP w A len ps) :
    Calls Try.prog 36 #[.int .i64 n, .slice A len c] w (RetBI w (isR n ps)) := by
  have H1 := Lib.hid (isR_bad (n := n) (ps := ps))
  have H2 := Lib.hid (fun (m : Nat) (h : ordF m ps = 0) => isR_ok h)
  go_enter Try.func36, Try.ntmps36
  go_wp2_with fail
  refine (lat_build n A len c ps _ hp).mono ?_
  rintro e w1 ⟨k1, ⟨hz, rfl⟩ | ⟨hz, nn, B, rfl, rfl, ht⟩⟩
  · have FIN := Lib.hid (H1.out hz)
    have HZ := Lib.hid hz
    have hne := hz
    clear hz
    go_wp2_with fail
    go_ret2
    exact ⟨k1, by rw [FIN.out]; rfl⟩
  · have FIN := Lib.hid (H2.out nn hz)
    clear hz
    obtain ⟨Au, Ad, Aj, Am, cu, cd, cj, cm, h0, c0, c1, c2, c3, c4, hu, hj, hm⟩ := ht
    clear hu hj hm
    go_wp2_with fail
    go_ret2
    exact ⟨k1, by rw [FIN.out]; rfl⟩
theorem allL_yes {n : Nat} {ps : List Pr} {b : Bool} (h : ∀ x, x < n → ∀ y, y < n → ∀ z, z < n → lawB n ps b x y z = true) : allL n ps b = true := by
  unfold allL
  simp only [List.all_eq_true, List.mem_range]
  exact h
theorem allL_no {n : Nat} {ps : List Pr} {b : Bool} {x y z : Nat} (hx : x < n) (hy : y < n) (hz : z < n) (h : lawB n ps b x y z = false) : allL n ps b = false := by
  cases ha : allL n ps b
  · rfl
  · unfold allL at ha
    simp only [List.all_eq_true, List.mem_range] at ha
    rw [ha x hx y hy z hz] at h
    cases h
set_option maxRecDepth 100000 in
set_option maxHeartbeats 8000000 in
theorem latAll_yes (n : Nat) (A : Option Addr) (len c : Nat) (ps : List Pr) (always : Bool) (w : World) (hp : SlP w A len ps) (h : ordF n ps = 0) (hL : isL n ps = true) :
    Calls Try.prog 54 #[.int .i64 n, .slice A len c, .bool always] w fun e w' => Kept w w' ∧ e = .returned (.tuple #[.bool (allL n ps always), .int .i64 0]) := by
  have LAT := Lib.hid (Lat.of (Ord.of h) hL)
  have H0 := Lib.hid h
  have HL0 := Lib.hid hL
  obtain ⟨⟨h1, h6, _⟩, _⟩ := ordF_zero h
  have h6 : n ≤ 6 := by omega
  clear h1 h hL
  go_enter Try.func54, Try.ntmps54
  go_wp2_with fail
  refine (lat_build n A len c ps _ hp).mono ?_
  rintro e w1 ⟨k1, ⟨hz, _⟩ | ⟨_, nn', B, hnn, rfl, ht⟩⟩
  · rw [H0.out] at hz; cases hz
  obtain rfl : n = nn' := by omega
  clear hnn
  obtain ⟨Au, Ad, Aj, Am, cu, cd, cj, cm, h0, c0, c1, c2, c3, c4, hu, hj, hm⟩ := ht
  rw [HL0.out] at c4
  obtain ⟨bj, oj, rfl, hbj, hjj⟩ := hj
  obtain ⟨bm, om, rfl, hbm, hmm⟩ := hm
  have HJ := Lib.hid hjj
  have HM := Lib.hid hmm
  have HU := Lib.hid hu
  clear hjj hmm hu
  go_wp2_with fail
  go_loopw [28] (fun t wr => ∃ a : Nat, a ≤ n ∧ t = .int .i64 a ∧ Kept w1 wr ∧ Hid (∀ x, x < a → ∀ y, y < n → ∀ z, z < n → lawB n ps always x y z = true)) (fun t _ => n - (intOf t).toNat)
  case atStart => exact ⟨0, Nat.zero_le _, rfl, Kept.refl _, Lib.hid (fun x hx => absurd hx (Nat.not_lt_zero _))⟩
  case round =>
    obtain ⟨a, ha, rfl, hka, HA⟩ := hrel
    by_cases hlt : a < n
    · have HLA := Lib.hid hlt
      obtain ⟨bma, oma, cma, cMa, hbma, hMa⟩ := HM.out a hlt
      have HMA := Lib.hid hMa
      clear hMa
      obtain ⟨wa, hwa⟩ : ∃ wa : World, wa = wr := ⟨_, rfl⟩
      subst hwa
      go_wp2_with fail
      go_loopw [32] (fun t wr => ∃ b : Nat, b ≤ n ∧ t = .int .i64 b ∧ Kept w1 wr ∧ Hid (∀ y, y < b → ∀ z, z < n → lawB n ps always a y z = true)) (fun t _ => n - (intOf t).toNat)
      case atStart => exact ⟨0, Nat.zero_le _, rfl, hka, Lib.hid (fun y hy => absurd hy (Nat.not_lt_zero _))⟩
      case round =>
        obtain ⟨b, hb, rfl, hkb, HB⟩ := hrel
        by_cases hlt2 : b < n
        · have HLB := Lib.hid hlt2
          obtain ⟨bjb, ojb, cjb, cJb, hbjb, hJb⟩ := HJ.out b hlt2
          have HJB := Lib.hid hJb
          clear hJb
          have cab := HMA.out b hlt2
          rw [meetI_eq LAT.out hlt hlt2] at cab
          have HMLT := Lib.hid (LAT.out.mlt hlt hlt2)
          obtain ⟨bjy, ojy, cjy, cJy, hbjy, hJy⟩ := HJ.out _ HMLT.out
          have HJY := Lib.hid hJy
          clear hJy
          have HLAWU := Lib.hid (fun z (hz : z < n) => show lawB n ps always a b z = !((always || under ps z a) && mt n ps a (jn n ps b z) != jn n ps (mt n ps a b) (mt n ps a z)) from rfl)
          have HMTJ := Lib.hid (fun z (hz : z < n) => LAT.out.mlt hlt (LAT.out.jlt hlt2 hz))
          obtain ⟨y, hy⟩ : ∃ y, mt n ps a b = y := ⟨_, rfl⟩
          rw [hy] at cab HMLT HLAWU cJy HJY
          clear hy
          obtain ⟨wb, hwb⟩ : ∃ wb : World, wb = wr := ⟨_, rfl⟩
          subst hwb
          go_wp2_with fail
          go_loopw [36] (fun t wr => ∃ z : Nat, z ≤ n ∧ t = .int .i64 z ∧ Kept w1 wr ∧ Hid (∀ x, x < z → lawB n ps always a b x = true)) (fun t _ => n - (intOf t).toNat)
          case atStart => exact ⟨0, Nat.zero_le _, rfl, hkb, Lib.hid (fun y hy => absurd hy (Nat.not_lt_zero _))⟩
          case round =>
            obtain ⟨z, hz, rfl, hkz, HZ⟩ := hrel
            by_cases hlt3 : z < n
            · obtain ⟨bu, ou, rfl, hbu, cuz⟩ := HU.out.getN z hlt3
              have HUB := Lib.hid (upL_bit ps (by omega : n ≤ 32) hlt3 a)
              generalize nth (upL n ps) z = uz at cuz HUB
              have cbz := HJB.out z hlt3
              rw [joinI_eq LAT.out hlt2 hlt3] at cbz
              have hjlt := LAT.out.jlt hlt2 hlt3
              have cax := HMA.out _ hjlt
              rw [meetI_eq LAT.out hlt hjlt] at cax
              have caz := HMA.out z hlt3
              rw [meetI_eq LAT.out hlt hlt3] at caz
              have hmlt := LAT.out.mlt hlt hlt3
              have cyz := HJY.out _ hmlt
              rw [joinI_eq LAT.out HMLT.out hmlt] at cyz
              have HLAW := Lib.hid (HLAWU.out z hlt3)
              generalize jn n ps b z = x at cbz hjlt cax HLAW
              generalize mt n ps a x = p at cax HLAW
              generalize mt n ps a z = v at caz hmlt cyz HLAW
              generalize jn n ps y v = q at cyz HLAW
              have HUB2 := Lib.hid (show uz.getLsbD a = under ps z a by rw [HUB.out]; simp [HLA.out])
              have k1z := hkz
              have d0 := (hkz.cell (p := ⟨B, 0, none⟩) h0).trans c0
              have d2 := (hkz.cell (p := ⟨B, 2, none⟩) h0).trans c2
              have d3 := (hkz.cell (p := ⟨B, 3, none⟩) h0).trans c3
              have eu := (hkz.cell (p := ⟨bu, ou + z, none⟩) hbu).trans cuz
              have eMa := (hkz.cell (p := ⟨bm, om + a, none⟩) hbm).trans cMa
              have eJb := (hkz.cell (p := ⟨bj, oj + b, none⟩) hbj).trans cJb
              have eJy := (hkz.cell (p := ⟨bj, oj + y, none⟩) hbj).trans cJy
              have ebz := (hkz.cell (p := ⟨bjb, ojb + z, none⟩) hbjb).trans cbz
              have eax := (hkz.cell (p := ⟨bma, oma + x, none⟩) hbma).trans cax
              have eab := (hkz.cell (p := ⟨bma, oma + b, none⟩) hbma).trans cab
              have eaz := (hkz.cell (p := ⟨bma, oma + z, none⟩) hbma).trans caz
              have eyz := (hkz.cell (p := ⟨bjy, ojy + v, none⟩) hbjy).trans cyz
              have KEEP := Lib.hid (fun w' (k : Kept wr w') => hkz.trans k)
              have NEXT := Lib.hid (fun (h : lawB n ps always a b z = true) => show ∀ t, t < z + 1 → lawB n ps always a b t = true from fun t ht => by
                by_cases e : t = z
                · subst e; exact h
                · exact HZ.out t (by omega))
              have STOP := Lib.hid (fun (h : lawB n ps always a b z = false) => allL_no (n := n) (ps := ps) (b := always) HLA.out HLB.out hlt3 h)
              have hy6 := HMLT.out
              have i1 : (0 : Int) ≤ (a : Int) := by omega
              have i2 : (a : Int) < (n : Int) := by omega
              have i3 : (0 : Int) ≤ (b : Int) := by omega
              have i4 : (b : Int) < (n : Int) := by omega
              have i5 : (0 : Int) ≤ (z : Int) := by omega
              have i6 : (z : Int) < (n : Int) := by omega
              have i7 : (0 : Int) ≤ (x : Int) := by omega
              have i8 : (x : Int) < (n : Int) := by omega
              have i9 : (0 : Int) ≤ (y : Int) := by omega
              have i10 : (y : Int) < (n : Int) := by omega
              have i11 : (0 : Int) ≤ (v : Int) := by omega
              have i12 : (v : Int) < (n : Int) := by omega
              have ha31 : a ≤ 31 := by omega
              clear c0 c1 c2 c3 c4 cuz cMa cJb cJy cbz cax cab caz cyz hkz hkb hka hlt hlt2 hlt3 hbu hbm hbj hbjb hbma hbjy h0 hjlt hmlt hy6
              cases hg : (always || uz.getLsbD a)
              · have hal : always = false := by
                  cases always
                  · rfl
                  · cases hg
                subst hal
                have hbt : uz.getLsbD a = false := by simpa using hg
                have LAWT := Lib.hid (show lawB n ps false a b z = true by rw [HLAW.out, ← HUB2.out, hbt]; rfl)
                clear hg
                go_wp2_with fail
                go_quiet (fail)
                go_wp2_with fail
                go_roundw
                case rel => exact ⟨z + 1, by omega, by go_num, KEEP.out _ ((Kept.refl _).drewN _), Lib.hid (NEXT.out LAWT.out)⟩
                case measure => simp [intOf]; omega
              · have HG := Lib.hid (show (always || under ps z a) = true by rw [← HUB2.out]; exact hg)
                cases hpq : ((p : Int) != (q : Int))
                · have LAWT := Lib.hid (show lawB n ps always a b z = true by
                    rw [HLAW.out, HG.out]
                    have e : p = q := by
                      have : (p : Int) = (q : Int) := by simpa using hpq
                      omega
                    rw [e]; simp)
                  cases hal : always
                  · subst hal
                    have hbt : uz.getLsbD a = true := by simpa using hg
                    clear hg
                    go_wp2_with fail
                    go_quiet (fail)
                    go_wp2_with fail
                    go_roundw
                    case rel => exact ⟨z + 1, by omega, by go_num, KEEP.out _ ((Kept.refl _).drewN _), Lib.hid (NEXT.out LAWT.out)⟩
                    case measure => simp [intOf]; omega
                  · subst hal
                    clear hg
                    go_wp2_with fail
                    go_quiet (fail)
                    go_wp2_with fail
                    go_roundw
                    case rel => exact ⟨z + 1, by omega, by go_num, KEEP.out _ ((Kept.refl _).drewN _), Lib.hid (NEXT.out LAWT.out)⟩
                    case measure => simp [intOf]; omega
                · have FIN := Lib.hid (STOP.out (by
                    rw [HLAW.out, HG.out]
                    have e : p ≠ q := by
                      have : (p : Int) ≠ (q : Int) := by simpa using hpq
                      omega
                    simp [e]))
                  cases hal : always
                  · subst hal
                    have hbt : uz.getLsbD a = true := by simpa using hg
                    clear hg
                    go_wp2_with fail
                    go_quiet (fail)
                    go_wp2_with fail
                    go_ret2
                    exact ⟨k1.trans (KEEP.out _ ((Kept.refl _).drewN _)), by rw [FIN.out]; rfl⟩
                  · subst hal
                    clear hg
                    go_wp2_with fail
                    go_quiet (fail)
                    go_wp2_with fail
                    go_ret2
                    exact ⟨k1.trans (KEEP.out _ ((Kept.refl _).drewN _)), by rw [FIN.out]; rfl⟩
            · obtain rfl : z = n := by omega
              have hkz2 := hkz
              go_wp2_with fail
              go_roundw
              case rel => exact ⟨b + 1, by omega, by go_num, hkz2, Lib.hid (fun y2 hy2 => by
                by_cases e : y2 = b
                · subst e; exact HZ.out
                · exact HB.out y2 (by omega))⟩
              case measure => simp [intOf]; omega
        · obtain rfl : b = n := by omega
          go_wp2_with fail
          go_roundw
          case rel => exact ⟨a + 1, by omega, by go_num, hkb, Lib.hid (fun x2 hx2 => by
            by_cases e : x2 = a
            · subst e; exact HB.out
            · exact HA.out x2 (by omega))⟩
          case measure => simp [intOf]; omega
    · obtain rfl : a = n := by omega
      have FIN := Lib.hid (allL_yes HA.out)
      go_wp2_with fail
      go_ret2
      exact ⟨k1.trans hka, by rw [FIN.out]; rfl⟩
theorem latAll_any (n : Int) (A : Option Addr) (len c : Nat) (ps : List Pr) (always : Bool) (w : World) (hp : SlP w A len ps) :
    Calls Try.prog 54 #[.int .i64 n, .slice A len c, .bool always] w (RetBI w (allR n ps always)) := by
  by_cases h : ordF n ps = 0
  · obtain ⟨nn, rfl⟩ := Int.eq_ofNat_of_zero_le (show 0 ≤ n by have := (ordF_zero h).1.1; omega)
    cases hL : isL nn ps
    · have FIN := Lib.hid (allR_no (b := always) h hL)
      have H0 := Lib.hid h
      have HL0 := Lib.hid hL
      clear h hL
      go_enter Try.func54, Try.ntmps54
      go_wp2_with fail
      refine (lat_build nn A len c ps _ hp).mono ?_
      rintro e w1 ⟨k1, ⟨hz, _⟩ | ⟨_, nn', B, hnn, rfl, ht⟩⟩
      · rw [H0.out] at hz; cases hz
      obtain rfl : nn = nn' := by omega
      clear hnn
      obtain ⟨Au, Ad, Aj, Am, cu, cd, cj, cm, h0, c0, c1, c2, c3, c4, hu, hj, hm⟩ := ht
      rw [HL0.out] at c4
      clear hu hj hm
      go_wp2_with fail
      go_ret2
      exact ⟨k1, by rw [FIN.out]; rfl⟩
    · have FIN := Lib.hid (allR_yes (b := always) h hL)
      refine (latAll_yes nn A len c ps always w hp h hL).mono ?_
      rintro e w' ⟨k, rfl⟩
      exact ⟨k, by rw [FIN.out]⟩
  · have hne : (ordF n ps != 0) = true := by simpa using h
    have FIN := Lib.hid (allR_bad (b := always) hne)
    have HNE := Lib.hid hne
    clear h hne
    go_enter Try.func54, Try.ntmps54
    go_wp2_with fail
    refine (latBuild_bad n A len c ps _ hp HNE.out).mono ?_
    rintro e w1 ⟨k1, ⟨hz, rfl⟩ | ⟨hz, _⟩⟩
    case inr => have := HNE.out; rw [hz] at this; cases this
    go_wp2_with fail
    go_ret2
    exact ⟨k1, by rw [FIN.out]; rfl⟩
theorem shared_any (n : Int) (A : Option Addr) (len c : Nat) (ps : List Pr) (w : World) (hp : SlP w A len ps) :
    Calls Try.prog 34 #[.int .i64 n, .slice A len c] w (RetBI w (allR n ps true)) := by
  go_enter Try.func34, Try.ntmps34
  go_wp2_with fail
  refine (latAll_any n A len c ps true _ hp).mono ?_
  rintro e w1 ⟨k1, rfl⟩
  go_wp2_with fail
  go_ret2
  exact ⟨k1, rfl⟩
theorem modular_any (n : Int) (A : Option Addr) (len c : Nat) (ps : List Pr) (w : World) (hp : SlP w A len ps) :
    Calls Try.prog 35 #[.int .i64 n, .slice A len c] w (RetBI w (allR n ps false)) := by
  go_enter Try.func35, Try.ntmps35
  go_wp2_with fail
  refine (latAll_any n A len c ps false _ hp).mono ?_
  rintro e w1 ⟨k1, rfl⟩
  go_wp2_with fail
  go_ret2
  exact ⟨k1, rfl⟩
end Go.Proofs.Ytgcpomdlajoifaa
