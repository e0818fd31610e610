/- ShareBack: the walk of the statement. -/
import Derived.Test.YtodkpojmonikiaaShare4
namespace Go.Proofs.Ytodkpojmonikiaa.shareBackDone
open Go Go.RowKit
set_option linter.unusedVariables false

theorem join_is (n : Nat) (A : Option Addr) (len c : Nat) (sets : List (BitVec 32)) (s : By) (d : List By) (A3 : Option Addr) (c3 : Nat) (rows : List Rv) (who : BitVec 32) (w : World) (hs : SlW w A len sets) (hr : SlM w A3 n rows)
    (h0 : setsF n sets = 0) (hno : noneB n (mostL n sets) = false) (hm : d.length + 1 = (mostL n sets).length) (hrows : rows.map (·.2.2.2) = (List.range n).map (shRow (mostL n sets) (partsF s d))) (x y : Int) (hR : joinF (mostL n sets) n sets s who = (x, y)) :
    Calls Try.prog 40 #[.int .i64 n, .slice A len c, .slice A3 n c3, .int .u32 (W who)] w fun e w' => e = .returned (.tuple #[.int .i64 x, .int .i64 y]) ∧ Kept w w' :=
  (join_good n A len c sets s d A3 c3 rows who w hs hr h0 hno hm hrows).mono fun e w' ⟨he, k⟩ => ⟨by rw [he, hR], k⟩
set_option maxHeartbeats 2000000 in
theorem good (n : Nat) (A : Option Addr) (len c : Nat) (sets : List (BitVec 32)) (s : By) (A2 : Option Addr) (m c2 : Nat) (d : List By) (who : BitVec 32) (w : World) (hs : SlW w A len sets) (hd : SlY w A2 m d) (h : dealF n sets m = 0) :
    Calls Try.prog 12 #[.int .i64 n, .slice A len c, .int .u8 (B8 s), .slice A2 m c2, .int .u32 (W who)] w fun e w' => e = .returned (.bool true) ∧ Kept w w' := by
  obtain ⟨h0, hno, hm⟩ := dealF_good h
  obtain ⟨nn, e, hn1, hn6, hl10, _⟩ := setsF_zero h0
  obtain rfl : n = nn := by omega
  clear e
  have hl : len ≤ 1000 := by rw [← hs.2]; omega
  have H := Lib.hid h
  have H0 := Lib.hid h0
  have HNO := Lib.hid hno
  have HM := Lib.hid hm
  have HMD := Lib.hid (show d.length + 1 = (mostL n sets).length by rw [hd.2]; exact hm)
  have HSW := Lib.hid hs
  have HJ := Lib.hid (show joinF (mostL n sets) n sets s who = if fitB n who = false then (0, 4) else if lostB sets who then (0, 7) else (B8 s, 0) from rfl)
  have hn32 : n < 32 := by omega
  clear h h0 hno hm
  go_enter Try.func12, Try.ntmps12
  go_wp2_with fail
  refine (deal_good n A len c sets s A2 m c2 d _ hs hd H0.out HNO.out HM.out).mono ?_
  rintro e w1 ⟨k1, A3, c3, rows, rfl, hr, hrows⟩
  have HS1 := Lib.hid (hs.kept k1)
  have HR1 := Lib.hid hr
  have HROWS := Lib.hid hrows
  have K1 := Lib.hid k1
  clear hr hrows k1 hs hd
  go_wp2_with fail
  refine (dealt_any n A len c sets A2 m c2 _ HS1.out).mono ?_
  rintro e w2 ⟨rfl, k2⟩
  rw [H.out]
  have HS2 := Lib.hid (HS1.out.kept k2)
  have HR2 := Lib.hid (HR1.out.kept k2)
  have K2 := Lib.hid (K1.out.trans k2)
  clear k2
  cases hf : fitB n who
  · have HF := Lib.hid hf
    have HV := Lib.hid (show joinF (mostL n sets) n sets s who = (0, 4) by rw [HJ.out, hf]; rfl)
    clear hf
    go_wp2_with fail
    refine (join_is n A len c sets s d A3 c3 rows who _ HS2.out HR2.out H0.out HNO.out HMD.out HROWS.out _ _ HV.out).mono ?_
    rintro e w3 ⟨rfl, k3⟩
    have K3 := Lib.hid (K2.out.trans k3)
    clear k3
    go_wp2_with fail
    refine (fitsX_is n hn32 who false HF.out _).mono ?_
    rintro e w4 ⟨rfl, rfl⟩
    go_wp2_with fail
    go_ret
    exact ⟨rfl, K3.out⟩
  · have HF := Lib.hid hf
    cases hlo : lostB sets who
    · have HLO := Lib.hid hlo
      have HV := Lib.hid (show joinF (mostL n sets) n sets s who = (B8 s, 0) by rw [HJ.out, hf, hlo]; rfl)
      have hbb : (B8 s == B8 s) = true := by simp
      clear hf hlo
      go_wp2_with fail
      refine (join_is n A len c sets s d A3 c3 rows who _ HS2.out HR2.out H0.out HNO.out HMD.out HROWS.out _ _ HV.out).mono ?_
      rintro e w3 ⟨rfl, k3⟩
      have K3 := Lib.hid (K2.out.trans k3)
      have HS3 := Lib.hid (HS2.out.kept k3)
      clear k3
      go_wp2_with fail
      refine (fitsX_is n hn32 who true HF.out _).mono ?_
      rintro e w4 ⟨rfl, rfl⟩
      go_wp2_with fail
      refine (lostS_is _ _ _ sets who false HLO.out _ HS3.out hl).mono ?_
      rintro e w5 ⟨rfl, rfl⟩
      go_wp2_with fail
      go_ret
      exact ⟨rfl, K3.out⟩
    · have HLO := Lib.hid hlo
      have HV := Lib.hid (show joinF (mostL n sets) n sets s who = (0, 7) by rw [HJ.out, hf, hlo]; rfl)
      clear hf hlo
      go_wp2_with fail
      refine (join_is n A len c sets s d A3 c3 rows who _ HS2.out HR2.out H0.out HNO.out HMD.out HROWS.out _ _ HV.out).mono ?_
      rintro e w3 ⟨rfl, k3⟩
      have K3 := Lib.hid (K2.out.trans k3)
      have HS3 := Lib.hid (HS2.out.kept k3)
      clear k3
      go_wp2_with fail
      refine (fitsX_is n hn32 who true HF.out _).mono ?_
      rintro e w4 ⟨rfl, rfl⟩
      go_wp2_with fail
      refine (lostS_is _ _ _ sets who true HLO.out _ HS3.out hl).mono ?_
      rintro e w5 ⟨rfl, rfl⟩
      go_wp2_with fail
      go_ret
      exact ⟨rfl, K3.out⟩
theorem shareBack_walk (n : Int) (A : Option Addr) (len c : Nat) (sets : List (BitVec 32)) (s0 : Int) (A2 : Option Addr) (m c2 : Nat) (d : List By) (who : BitVec 32) (w : World) (_wn : (Lit.int .i64 n).wf = true) (hl : len ≤ maxLen) (hs : SlW w A len sets) (ws : (Lit.int .u8 s0).wf = true) (hl2 : m ≤ maxLen) (hd : SlY w A2 m d) :
    Calls Try.prog 12 #[.int .i64 n, .slice A len c, .int .u8 s0, .slice A2 m c2, .int .u32 (W who)] w fun e w' => e = .returned (.bool true) ∧ Kept w w' := by
  obtain ⟨s, rfl⟩ := byOf_wf ws
  clear ws
  by_cases h : dealF n sets m = 0
  · obtain ⟨nn, rfl⟩ : ∃ nn : Nat, n = nn := by
      have : setsF n sets = 0 := by
        unfold dealF at h
        by_cases h0 : setsF n sets = 0
        · exact h0
        · rw [if_pos h0] at h; exact absurd h h0
      obtain ⟨nn, e, _⟩ := setsF_zero this
      exact ⟨nn, e⟩
    exact good nn A len c sets s A2 m c2 d who w hs hd h
  · have H := Lib.hid (show (dealF n sets m == 0) = false by simpa using h)
    have HH := Lib.hid h
    clear h
    go_enter Try.func12, Try.ntmps12
    go_wp2_with fail
    refine (deal_bad n A len c sets s A2 m c2 d _ hs hd HH.out).mono ?_
    rintro e w1 ⟨k1, x, rfl, hx⟩
    have HS1 := Lib.hid (hs.kept k1)
    have K1 := Lib.hid k1
    clear k1
    go_wp2_with fail
    refine (dealt_any n A len c sets A2 m c2 _ HS1.out).mono ?_
    rintro e w2 ⟨rfl, k2⟩
    rw [H.out]
    have K2 := Lib.hid (K1.out.trans k2)
    clear k2
    go_wp2_with fail
    go_ret
    exact ⟨rfl, K2.out⟩
end Go.Proofs.Ytodkpojmonikiaa.shareBackDone
