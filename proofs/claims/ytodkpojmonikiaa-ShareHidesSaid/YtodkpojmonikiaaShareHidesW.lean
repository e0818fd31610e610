/- ShareHides: the walk of the statement. -/
import Derived.Test.YtodkpojmonikiaaShare4
import Derived.Test.YtodkpojmonikiaaPushAll
namespace Go.Proofs.Ytodkpojmonikiaa.shareHidesDone
open Go Go.RowKit
set_option linter.unusedVariables false

set_option maxRecDepth 100000 in
set_option maxHeartbeats 16000000 in
theorem good (n : Nat) (A : Option Addr) (len c : Nat) (sets : List (BitVec 32)) (a b : By) (A2 : Option Addr) (m c2 : Nat) (d : List By) (who : BitVec 32) (w : World) (hs : SlW w A len sets) (hd : SlY w A2 m d) (h : dealF n sets m = 0) :
    Calls Try.prog 11 #[.int .i64 n, .slice A len c, .int .u8 (B8 a), .int .u8 (B8 b), .slice A2 m c2, .int .u32 (W who)] w fun e w' => e = .returned (.bool true) ∧ Kept w w' := by
  obtain ⟨h0, hno, hm⟩ := dealF_good h
  obtain ⟨nn, e, hn1, hn6, hl10, _⟩ := setsF_zero h0
  obtain rfl : n = nn := by omega
  clear e
  have hl : len ≤ 1000 := by rw [← hs.2]; omega
  have hle := mostL_le hn6 sets
  have H := Lib.hid h
  have H0 := Lib.hid h0
  have HNO := Lib.hid hno
  have HM := Lib.hid hm
  have HLE := Lib.hid hle
  have HDL := Lib.hid hd.2
  have HMD := Lib.hid (show d.length + 1 = (mostL n sets).length by rw [hd.2]; exact hm)
  have HSW := Lib.hid hs
  have HDW := Lib.hid hd
  have HHID := Lib.hid (fun k (hk : k < (mostL n sets).length) (hsub : subB who (nth (mostL n sets) k) = true) i (hi : who.getLsbD i = true) => hides (L := mostL n sets) (d := d) (k := k) (i := i) (a := a) (b := b) (who := who) HMD.out hk hsub hi)
  have HLOST := Lib.hid (fun (hf : fitB n who = true) => lost_iff_most (n := n) (sets := sets) (by omega) hf)
  have hnn : ((n : Int) != (n : Int)) = false := by simp
  have hn32 : n < 32 := by omega
  have hm64 : m ≤ 64 := by omega
  clear h h0 hno hm hs hd hle
  go_enter Try.func11, Try.ntmps11
  go_wp2_with fail
  refine (deal_good n A len c sets a A2 m c2 d _ HSW.out HDW.out H0.out HNO.out HM.out).mono ?_
  rintro e w1 ⟨k1, A3, c3, rows, rfl, hr, hrows⟩
  have HS1 := Lib.hid (HSW.out.kept k1)
  have HR1 := Lib.hid hr
  have HROWS := Lib.hid hrows
  have K1 := Lib.hid k1
  clear hr hrows k1
  go_wp2_with fail
  refine (dealt_any n A len c sets A2 m c2 _ HS1.out).mono ?_
  rintro e w2 ⟨rfl, k2⟩
  rw [H.out]
  have HS2 := Lib.hid (HS1.out.kept k2)
  have HR2 := Lib.hid (HR1.out.kept k2)
  have K2 := Lib.hid (K1.out.trans k2)
  have HD2 := Lib.hid (HDW.out.kept K2.out)
  clear k2
  cases hf : fitB n who
  · have HF := Lib.hid hf
    clear hf
    go_wp2_with fail
    refine (fitsX_is n hn32 who false HF.out _).mono ?_
    rintro e w4 ⟨rfl, rfl⟩
    go_wp2_with fail
    go_ret
    exact ⟨rfl, K2.out⟩
  · have HF := Lib.hid hf
    cases hlo : lostB sets who
    · have HLO := Lib.hid hlo
      clear hf hlo
      go_wp2_with fail
      refine (fitsX_is n hn32 who true HF.out _).mono ?_
      rintro e w4 ⟨rfl, rfl⟩
      go_wp2_with fail
      refine (lostS_is _ _ _ sets who false HLO.out _ HS2.out hl).mono ?_
      rintro e w5 ⟨rfl, rfl⟩
      go_wp2_with fail
      go_ret
      exact ⟨rfl, K2.out⟩
    · have HLO := Lib.hid hlo
      clear hf hlo
      go_wp2_with fail
      refine (fitsX_is n hn32 who true HF.out _).mono ?_
      rintro e w4 ⟨rfl, rfl⟩
      go_wp2_with fail
      refine (lostS_is _ _ _ sets who true HLO.out _ HS2.out hl).mono ?_
      rintro e w5 ⟨rfl, rfl⟩
      have HEMP := Lib.hid (Own.empty (Kept.refl w2) 5 1 _ rfl)
      have HD3 := Lib.hid (HD2.out.kept ((Kept.refl w2).alloc (.cells #[] 5))).1
      go_wp2_with (at_builtin; refine wpList_pushAll rfl _ _ 60 rfl 5 Try.underlying60 info_byte rfl (by decide) (by decide) _ _ _ _ HEMP.out _ _ _ _ HD3.out rfl rfl (one_ys _) m (by omega) (by omega) ?_; intro v5 w5 hown5)
      rw [List.nil_append] at hown5
      obtain ⟨A5, c5, rfl, _, _⟩ := hown5.form
      have HOWN5 := Lib.hid hown5
      have HS5 := Lib.hid (HS2.out.kept hown5.2)
      clear hown5
      go_wp2_with fail
      refine (mostLost_any n hn6 A len c sets _ HS5.out hl).mono ?_
      rintro e w6 ⟨A6, c6, rfl, h6, k6⟩
      have HL6 := Lib.hid h6
      have HOWN6 := Lib.hid (HOWN5.out.kept k6)
      have K6' := Lib.hid (HOWN5.out.2.trans k6)
      clear h6 k6
      have hle := HLE.out
      go_wp2_with fail
      go_loop [61] (fun t => ∃ k : Nat, k ≤ (mostL n sets).length ∧ t = .int .i64 k ∧ Hid (∀ j, j < k → subB who (nth (mostL n sets) j) = false)) (fun t => (mostL n sets).length - (intOf t).toNat)
      case atStart => exact ⟨0, Nat.zero_le _, rfl, Lib.hid (fun j hj => absurd hj (Nat.not_lt_zero _))⟩
      case round =>
        obtain ⟨k, hk, rfl, HN⟩ := hrel
        by_cases hlt : k < (mostL n sets).length
        · obtain ⟨bl, ol, rfl, hbl, cl⟩ := HL6.out.getN k hlt
          have HKL := Lib.hid hlt
          have j1 : (0 : Int) ≤ (k : Int) := by omega
          have j2 : (k : Int) < ((mostL n sets).length : Int) := by omega
          cases hsub : subB who (nth (mostL n sets) k)
          · have HSUB := Lib.hid hsub
            clear hsub
            go_wp2_with fail
            refine (inX_is who _ false HSUB.out _).mono ?_
            rintro e w7 ⟨rfl, rfl⟩
            go_wp2_with fail
            go_round
            case rel => exact ⟨k + 1, by omega, by go_num, Lib.hid (fun j hj => by
              by_cases e : j = k
              · subst e; exact HSUB.out
              · exact HN.out j (by omega))⟩
            case measure => simp [intOf]; omega
          · have HSUB := Lib.hid hsub
            clear hsub
            by_cases hkm : k < m
            · obtain ⟨g, rfl, hg0, hg1⟩ := HOWN6.out.block (by omega)
              have cg := HOWN6.out.cell k (show (d.map yv)[k]? = some (.int .u8 (B8 (bth d k))) by rw [List.getElem?_map, List.getElem?_eq_getElem (by rw [HDL.out]; exact hkm), bth_eq _ _ (by rw [HDL.out]; exact hkm)]; rfl)
              have fg := HOWN6.out.free k
              have HPUT := Lib.hid (HOWN6.out.put k (.int .u8 (B8 (bth d k ^^^ a ^^^ b))))
              have HOE := Lib.hid (show (otherF d k (a ^^^ b)).map yv = (d.map yv).set k (.int .u8 (B8 (bth d k ^^^ a ^^^ b))) by
                unfold otherF
                rw [if_pos (by rw [HDL.out]; exact hkm), BitVec.xor_assoc, List.map_set]
                rfl)
              have HOTL := Lib.hid (other_length d k (a ^^^ b))
              have jm : (k : Int) < (m : Int) := by omega
              have dkm : decide (k < m) = true := by simpa using hkm
              generalize bth d k = x at cg HPUT HOE
              go_wp2_with fail
              refine (inX_is who _ true HSUB.out _).mono ?_
              rintro e w7 ⟨rfl, rfl⟩
              go_wp2_with fail
              refine (deal_good n A len c sets b (some ⟨g, 0, none⟩) m c5 (otherF d k (a ^^^ b)) _ (HS2.out.kept HPUT.out.2) ⟨by
                obtain ⟨A9, c9, e9, hs9, _⟩ := HPUT.out.form
                injection e9 with e9
                subst e9
                rw [HOE.out]; exact hs9, by rw [HOTL.out, HDL.out]⟩ H0.out HNO.out HM.out).mono ?_
              rintro e w8 ⟨k8, A8, c8, rows2, rfl, hr8, hrows8⟩
              have K6 := Lib.hid HPUT.out.2
              have HR8 := Lib.hid hr8
              have HROWS8 := Lib.hid hrows8
              have HR18 := Lib.hid (HR2.out.kept (K6.out.trans k8))
              have K8 := Lib.hid (K2.out.trans (K6.out.trans k8))
              clear hr8 hrows8 k8
              go_wp2_with fail
              go_loopw [20] (fun t wr => ∃ i : Nat, i ≤ n ∧ t = .int .i64 i ∧ Kept w8 wr) (fun t _ => n - (intOf t).toNat)
              case atStart => exact ⟨0, Nat.zero_le _, rfl, Kept.refl _⟩
              case round =>
                obtain ⟨i, hi, rfl, hki⟩ := hrel
                by_cases hlti : i < n
                · obtain ⟨b1, o1, hil1, rfl, hb1, cr1, hrow1⟩ := (HR18.out.kept hki).get i hlti
                  obtain ⟨b2, o2, hil2, rfl, hb2, cr2, hrow2⟩ := (HR8.out.kept hki).get i hlti
                  have hrl1 := rows_len HR18.out HROWS.out _ (List.getElem_mem hil1)
                  have hrl2 := rows_len HR8.out HROWS8.out _ (List.getElem_mem hil2)
                  have hra1 := rows_at HROWS.out hil1 hlti
                  have hra2 := rows_at HROWS8.out hil2 hlti
                  have HID := Lib.hid (fun (hbit : who.getLsbD i = true) => HHID.out k HKL.out HSUB.out i hbit)
                  generalize rows[i] = r1 at hrl1 hra1 hrow1 cr1
                  generalize rows2[i] = r2 at hrl2 hra2 hrow2 cr2
                  obtain ⟨Ai1, mi1, ci1, xs1⟩ := r1
                  obtain ⟨Ai2, mi2, ci2, xs2⟩ := r2
                  have s1 : SlI wr Ai1 mi1 xs1 := hrow1.1
                  have s2 : SlI wr Ai2 mi2 xs2 := hrow2.1
                  have g1 : mi1 = (mostL n sets).length := hrl1
                  have g2 : mi2 = (mostL n sets).length := hrl2
                  have g3 : xs1 = shRow (mostL n sets) (partsF a d) i := hra1
                  have g4 : xs2 = shRow (mostL n sets) (partsF b (otherF d k (a ^^^ b))) i := hra2
                  have c1 : wr.cell? ⟨b1, o1 + i, none⟩ = some (.slice Ai1 mi1 ci1) := cr1
                  have c2 : wr.cell? ⟨b2, o2 + i, none⟩ = some (.slice Ai2 mi2 ci2) := cr2
                  have HLE2 := HLE.out
                  clear hrl1 hrl2 hra1 hra2 hrow1 hrow2 cr1 cr2
                  subst g1 g2
                  have HX1 := Lib.hid (fun (x : KW wr) => s1.kept x.kept)
                  have HX2 := Lib.hid (fun (x : KW wr) (hbit : who.getLsbD i = true) => show SlI x.val Ai2 (mostL n sets).length xs1 from by
                    rw [g3, ← HID.out hbit, ← g4]; exact s2.kept x.kept)
                  have q1 := kw_cell c1
                  have q2 := kw_cell c2
                  have i1 : (0 : Int) ≤ (i : Int) := by omega
                  have i2 : (i : Int) < (n : Int) := by omega
                  have hmx : (mostL n sets).length ≤ maxLen := by unfold maxLen; omega
                  clear s1 s2 g3 g4 c1 c2 HLE2
                  generalize (mostL n sets).length = ll at q1 q2 HX1 HX2 hmx
                  cases hbit : who.getLsbD i
                  · have HBIT := Lib.hid hbit
                    clear hbit
                    go_wp2_with fail
                    refine wp_region_kept (by kernel_rfl) (by kernel_rfl) ?_
                    repeat (go_big_quiet_step ((go_at_call 18; exact kept_of_same (bitX_is who i (by omega) false HBIT.out _))))
                    refine wpQuiet_nil ?_
                    intro w9 k9
                    go_wp2_with fail
                    go_roundw
                    case rel => exact ⟨i + 1, by omega, by go_num, hki.trans k9⟩
                    case measure => simp [intOf]; omega
                  · have HBIT := Lib.hid hbit
                    clear hbit
                    go_wp2_with fail
                    refine wp_region_kept (by kernel_rfl) (by kernel_rfl) ?_
                    repeat (go_big_quiet_step ((first | (go_at_call 18; exact kept_of_same (bitX_is who i (by omega) true HBIT.out _)) | (go_at_call 39; exact kept_of (intsX_same _ _ _ _ _ xs1 _ (HX1.out _) (HX2.out _ HBIT.out) hmx)))))
                    refine wpQuiet_nil ?_
                    intro w9 k9
                    go_wp2_with fail
                    go_roundw
                    case rel => exact ⟨i + 1, by omega, by go_num, hki.trans k9⟩
                    case measure => simp [intOf]; omega
                · go_wp2_with fail
                  go_ret
                  exact ⟨rfl, K8.out.trans hki⟩
            · have HOE := Lib.hid (show otherF d k (a ^^^ b) = d by unfold otherF; rw [if_neg (by rw [HDL.out]; exact hkm)])
              have dkm : decide (k < m) = false := by simpa using hkm
              have jm : ¬ (k : Int) < (m : Int) := by omega
              have K6 := Lib.hid HOWN6.out.2
              go_wp2_with fail
              refine (inX_is who _ true HSUB.out _).mono ?_
              rintro e w7 ⟨rfl, rfl⟩
              go_wp2_with fail
              refine (deal_good n A len c sets b A5 m c5 (otherF d k (a ^^^ b)) _ (HS2.out.kept K6.out) ⟨by
                obtain ⟨A9, c9, e9, hs9, _⟩ := HOWN6.out.form
                injection e9 with e9
                subst e9
                rw [HOE.out]; exact hs9, by rw [HOE.out, HDL.out]⟩ H0.out HNO.out HM.out).mono ?_
              rintro e w8 ⟨k8, A8, c8, rows2, rfl, hr8, hrows8⟩
              have HR8 := Lib.hid hr8
              have HROWS8 := Lib.hid hrows8
              have HR18 := Lib.hid (HR2.out.kept (K6.out.trans k8))
              have K8 := Lib.hid (K2.out.trans (K6.out.trans k8))
              clear hr8 hrows8 k8
              go_wp2_with fail
              go_loopw [20] (fun t wr => ∃ i : Nat, i ≤ n ∧ t = .int .i64 i ∧ Kept w8 wr) (fun t _ => n - (intOf t).toNat)
              case atStart => exact ⟨0, Nat.zero_le _, rfl, Kept.refl _⟩
              case round =>
                obtain ⟨i, hi, rfl, hki⟩ := hrel
                by_cases hlti : i < n
                · obtain ⟨b1, o1, hil1, rfl, hb1, cr1, hrow1⟩ := (HR18.out.kept hki).get i hlti
                  obtain ⟨b2, o2, hil2, rfl, hb2, cr2, hrow2⟩ := (HR8.out.kept hki).get i hlti
                  have hrl1 := rows_len HR18.out HROWS.out _ (List.getElem_mem hil1)
                  have hrl2 := rows_len HR8.out HROWS8.out _ (List.getElem_mem hil2)
                  have hra1 := rows_at HROWS.out hil1 hlti
                  have hra2 := rows_at HROWS8.out hil2 hlti
                  have HID := Lib.hid (fun (hbit : who.getLsbD i = true) => HHID.out k HKL.out HSUB.out i hbit)
                  generalize rows[i] = r1 at hrl1 hra1 hrow1 cr1
                  generalize rows2[i] = r2 at hrl2 hra2 hrow2 cr2
                  obtain ⟨Ai1, mi1, ci1, xs1⟩ := r1
                  obtain ⟨Ai2, mi2, ci2, xs2⟩ := r2
                  have s1 : SlI wr Ai1 mi1 xs1 := hrow1.1
                  have s2 : SlI wr Ai2 mi2 xs2 := hrow2.1
                  have g1 : mi1 = (mostL n sets).length := hrl1
                  have g2 : mi2 = (mostL n sets).length := hrl2
                  have g3 : xs1 = shRow (mostL n sets) (partsF a d) i := hra1
                  have g4 : xs2 = shRow (mostL n sets) (partsF b (otherF d k (a ^^^ b))) i := hra2
                  have c1 : wr.cell? ⟨b1, o1 + i, none⟩ = some (.slice Ai1 mi1 ci1) := cr1
                  have c2 : wr.cell? ⟨b2, o2 + i, none⟩ = some (.slice Ai2 mi2 ci2) := cr2
                  have HLE2 := HLE.out
                  clear hrl1 hrl2 hra1 hra2 hrow1 hrow2 cr1 cr2
                  subst g1 g2
                  have HX1 := Lib.hid (fun (x : KW wr) => s1.kept x.kept)
                  have HX2 := Lib.hid (fun (x : KW wr) (hbit : who.getLsbD i = true) => show SlI x.val Ai2 (mostL n sets).length xs1 from by
                    rw [g3, ← HID.out hbit, ← g4]; exact s2.kept x.kept)
                  have q1 := kw_cell c1
                  have q2 := kw_cell c2
                  have i1 : (0 : Int) ≤ (i : Int) := by omega
                  have i2 : (i : Int) < (n : Int) := by omega
                  have hmx : (mostL n sets).length ≤ maxLen := by unfold maxLen; omega
                  clear s1 s2 g3 g4 c1 c2 HLE2
                  generalize (mostL n sets).length = ll at q1 q2 HX1 HX2 hmx
                  cases hbit : who.getLsbD i
                  · have HBIT := Lib.hid hbit
                    clear hbit
                    go_wp2_with fail
                    refine wp_region_kept (by kernel_rfl) (by kernel_rfl) ?_
                    repeat (go_big_quiet_step ((go_at_call 18; exact kept_of_same (bitX_is who i (by omega) false HBIT.out _))))
                    refine wpQuiet_nil ?_
                    intro w9 k9
                    go_wp2_with fail
                    go_roundw
                    case rel => exact ⟨i + 1, by omega, by go_num, hki.trans k9⟩
                    case measure => simp [intOf]; omega
                  · have HBIT := Lib.hid hbit
                    clear hbit
                    go_wp2_with fail
                    refine wp_region_kept (by kernel_rfl) (by kernel_rfl) ?_
                    repeat (go_big_quiet_step ((first | (go_at_call 18; exact kept_of_same (bitX_is who i (by omega) true HBIT.out _)) | (go_at_call 39; exact kept_of (intsX_same _ _ _ _ _ xs1 _ (HX1.out _) (HX2.out _ HBIT.out) hmx)))))
                    refine wpQuiet_nil ?_
                    intro w9 k9
                    go_wp2_with fail
                    go_roundw
                    case rel => exact ⟨i + 1, by omega, by go_num, hki.trans k9⟩
                    case measure => simp [intOf]; omega
                · go_wp2_with fail
                  go_ret
                  exact ⟨rfl, K8.out.trans hki⟩
        · exfalso
          obtain ⟨j, hj, hs⟩ := (HLOST.out HF.out).1 HLO.out
          rw [HN.out j (by omega)] at hs
          cases hs
theorem shareHides_walk (n : Int) (A : Option Addr) (len c : Nat) (sets : List (BitVec 32)) (a0 b0 : Int) (A2 : Option Addr) (m c2 : Nat) (d : List By) (who : BitVec 32) (w : World) (_wn : (Lit.int .i64 n).wf = true) (hl : len ≤ maxLen) (hs : SlW w A len sets) (wa : (Lit.int .u8 a0).wf = true) (wb : (Lit.int .u8 b0).wf = true) (hl2 : m ≤ maxLen) (hd : SlY w A2 m d) :
    Calls Try.prog 11 #[.int .i64 n, .slice A len c, .int .u8 a0, .int .u8 b0, .slice A2 m c2, .int .u32 (W who)] w fun e w' => e = .returned (.bool true) ∧ Kept w w' := by
  obtain ⟨a, rfl⟩ := byOf_wf wa
  obtain ⟨b, rfl⟩ := byOf_wf wb
  clear wa wb
  by_cases h : dealF n sets m = 0
  · obtain ⟨nn, rfl⟩ : ∃ nn : Nat, n = nn := by
      have : setsF n sets = 0 := by
        unfold dealF at h
        by_cases h0 : setsF n sets = 0
        · exact h0
        · rw [if_pos h0] at h; exact absurd h h0
      obtain ⟨nn, e, _⟩ := setsF_zero this
      exact ⟨nn, e⟩
    exact good nn A len c sets a b A2 m c2 d who w hs hd h
  · have H := Lib.hid (show (dealF n sets m == 0) = false by simpa using h)
    have HH := Lib.hid h
    clear h
    go_enter Try.func11, Try.ntmps11
    go_wp2_with fail
    refine (deal_bad n A len c sets a A2 m c2 d _ hs hd HH.out).mono ?_
    rintro e w1 ⟨k1, x, rfl, hx⟩
    have HS1 := Lib.hid (hs.kept k1)
    have K1 := Lib.hid k1
    clear k1
    go_wp2_with fail
    refine (dealt_any n A len c sets A2 m c2 _ HS1.out).mono ?_
    rintro e w2 ⟨rfl, k2⟩
    rw [H.out]
    have K2 := Lib.hid (K1.out.trans k2)
    clear k2
    go_wp2_with fail
    go_ret
    exact ⟨rfl, K2.out⟩
end Go.Proofs.Ytodkpojmonikiaa.shareHidesDone
