/- The walks of rights.Close. -/
import Derived.Test.YtekpifobhgjepaaRound
namespace Go.Proofs.Ytekpifobhgjepaa
open Go Go.RowKit
set_option linter.unusedVariables false

/-- where the rounds are, with what is still free -/
def CRel (w : World) (n : Nat) (cs : List Ch) (m : Mx) (k : Nat) (p : Value × Value) (wr : World) : Prop :=
  ∃ A c rs2 more, p.1 = .slice A n c ∧ p.2 = .bool more ∧ Kept w wr ∧ SlX wr A n rs2 ∧ (∀ r ∈ rs2, r.2.1 = n) ∧ CInv n cs m (mxOf rs2) more ∧ 2 * slack n (mxOf rs2) n + (if more then 1 else 0) ≤ k
theorem round_less {n : Nat} {cs : List Ch} {cur nx : Mx} {more : Bool} (hr : RInv n cs cur nx more) : 2 * slack n nx n + (if more then 1 else 0) < 2 * slack n cur n + 1 := by
  have h1 := slack_le hr.1 n (Nat.le_refl _)
  cases more
  · simp; omega
  · have := slack_more hr.1 (hr.2.2.2 rfl)
    simp; omega
/-- what Close hands back -/
def RetClose (w : World) (n : Int) (rs : List Wr) (cs : List Ch) (e : Ending) (w' : World) : Prop :=
  Kept w w' ∧ ((rightF n rs cs.length ≠ 0 ∧ e = .returned (.tuple #[.slice none 0 0, .int .i64 (rightF n rs cs.length)])) ∨
   (rightF n rs cs.length = 0 ∧ ∃ (nn : Nat) (A : Option Addr) (c : Nat) (rs2 : List Wr), n = nn ∧ e = .returned (.tuple #[.slice A nn c, .int .i64 0]) ∧ SlX w' A nn rs2 ∧ (∀ r ∈ rs2, r.2.1 = nn) ∧ IsClose nn cs (mxOf rs) (mxOf rs2)))
set_option maxRecDepth 100000 in
set_option maxHeartbeats 4000000 in
theorem close_any (n : Int) (A : Option Addr) (len c : Nat) (rs : List Wr) (A2 : Option Addr) (k2 c2 : Nat) (cs : List Ch) (w : World) (hs : SlX w A len rs) (hc : SlC w A2 k2 cs) :
    Calls Try.prog 26 #[.int .i64 n, .slice A len c, .slice A2 k2 c2] w (RetClose w n rs cs) := by
  have hw := rightsWrong_any n A len c rs A2 k2 c2 w hs
  have hF : rightF n rs k2 = rightF n rs cs.length := by rw [hc.2]
  rw [hF] at hw
  clear hF
  by_cases h0 : rightF n rs cs.length = 0
  · obtain ⟨nn, rfl, h1, h6, hk, hl, hr⟩ := rightF_zero h0
    have hl2 := hs.2.1
    obtain rfl : len = nn := by omega
    have H0 := Lib.hid h0
    have HR := Lib.hid (fun w' h => round_any len A c rs A2 k2 c2 cs w' (hs.kept h) (hc.kept h) h1 h6 (by rw [← hc.2]; omega) hr)
    have HRR := Lib.hid (fun A c rs w' h hk hr => round_any len A c rs A2 k2 c2 cs w' h (hc.kept hk) h1 h6 (by rw [← hc.2]; omega) hr)
    obtain ⟨M, hM⟩ := measure_of (CRel w len cs (mxOf rs))
    have HM := Lib.hid hM
    rw [h0] at hw
    clear h0 hr hM
    go_enter Try.func26, Try.ntmps26
    go_wp2_with fail
    refine hw.mono ?_
    rintro e w1 ⟨rfl, k1⟩
    go_wp2_with fail
    refine (HR.out _ k1).mono ?_
    rintro e w2 ⟨A1, c1, rs1, more1, rfl, k2', hs1, hr1, hi1, hd1⟩
    have hst : CRel w len cs (mxOf rs) (2 * slack len (mxOf rs1) len + (if more1 then 1 else 0)) (.slice A1 len c1, .bool more1) w2 := ⟨A1, c1, rs1, more1, rfl, rfl, k1.trans k2', hs1, hr1, CInv.round ⟨leM_refl _ _, fun d h _ => h⟩ hi1 hd1, Nat.le_refl _⟩
    have HST := Lib.hid hst
    clear hst hs1 hr1 hi1 hd1
    go_wp2_with fail
    go_loopw [1, 9] (fun vm vmore wr => ∃ k, CRel w len cs (mxOf rs) k (vm, vmore) wr) (fun vm vmore wr => M (vm, vmore) wr)
    case atStart => exact ⟨_, HST.out⟩
    case round =>
      obtain ⟨k0, hk0⟩ := hrel
      have hk1 := (HM.out _ _ _ hk0).1
      obtain ⟨A3, c3, rs3, more, hv1, hv2, kw, hs3, hr3, hci, hle⟩ := hk1
      simp only at hv1 hv2
      subst hv1 hv2
      have HLE := Lib.hid hle
      have HCI := Lib.hid hci
      have HKW := Lib.hid kw
      have HS3 := Lib.hid hs3
      have HR3 := Lib.hid hr3
      clear hle hci hk0 hs3 hr3
      cases more
      · go_wp2_with fail
        go_ret2
        exact ⟨HKW.out, .inr ⟨H0.out, len, A3, c3, rs3, rfl, rfl, HS3.out, HR3.out, HCI.out.done⟩⟩
      · go_wp2_with fail
        refine (HRR.out A3 c3 rs3 _ HS3.out HKW.out HR3.out).mono ?_
        rintro e w4 ⟨A4, c4, rs4, more4, rfl, k4, hs4, hr4, hi4, hd4⟩
        have hlt := round_less hi4
        have hst : CRel w len cs (mxOf rs) (2 * slack len (mxOf rs4) len + (if more4 then 1 else 0)) (.slice A4 len c4, .bool more4) w4 := ⟨A4, c4, rs4, more4, rfl, rfl, HKW.out.trans k4, hs4, hr4, CInv.round ⟨HCI.out.1, HCI.out.2.1⟩ hi4 hd4, Nat.le_refl _⟩
        have HST := Lib.hid hst
        have HLT := Lib.hid hlt
        clear hst hs4 hr4 hi4 hd4 hlt
        go_wp2_with fail
        go_roundw
        case rel => exact ⟨_, HST.out⟩
        case measure =>
          have h1 := (HM.out _ _ _ HST.out).2
          have h2 := HLT.out
          have h3 := HLE.out
          simp at h3
          omega
  · have H0 := Lib.hid h0
    have hne : (rightF n rs cs.length != 0) = true := by simpa using h0
    clear h0
    go_enter Try.func26, Try.ntmps26
    go_wp2_with fail
    refine hw.mono ?_
    rintro e w1 ⟨rfl, k1⟩
    go_wp2_with fail
    go_ret2
    exact ⟨k1, .inl ⟨H0.out, rfl⟩⟩
end Go.Proofs.Ytekpifobhgjepaa
