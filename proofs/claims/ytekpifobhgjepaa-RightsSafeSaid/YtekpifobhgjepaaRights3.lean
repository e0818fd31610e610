/- The walks of rights.Steps and rights.Safe. -/
import Derived.Test.YtekpifobhgjepaaRights2
namespace Go.Proofs.Ytekpifobhgjepaa
open Go Go.RowKit
set_option linter.unusedVariables false

def stepsF (n : Int) (rs : List Wr) (k : Nat) (x y : Int) : Int := if rightF n rs k ≠ 0 then rightF n rs k else if x < 0 ∨ y < 0 ∨ n ≤ x ∨ n ≤ y then 2 else 0
theorem stepsF_zero {n : Int} {rs : List Wr} {k : Nat} {x y : Int} (h : stepsF n rs k x y = 0) : rightF n rs k = 0 ∧ 0 ≤ x ∧ 0 ≤ y ∧ x < n ∧ y < n := by
  unfold stepsF at h
  by_cases h0 : rightF n rs k = 0
  · rw [if_neg (by simpa using h0)] at h
    by_cases h1 : x < 0 ∨ y < 0 ∨ n ≤ x ∨ n ≤ y
    · rw [if_pos h1] at h; cases h
    · exact ⟨h0, by omega, by omega, by omega, by omega⟩
  · rw [if_pos h0] at h; exact absurd h h0
theorem slackRow_bound (m : Mx) (i : Nat) : ∀ j, slackRow m i j ≤ j * 4294967296 := by
  intro j
  induction j with
  | zero => exact Nat.zero_le _
  | succ j ih => show slackRow m i j + (4294967296 - _) ≤ _; omega
theorem slack_bound (n : Nat) (m : Mx) : ∀ i, slack n m i ≤ i * (n * 4294967296) := by
  intro i
  induction i with
  | zero => exact Nat.zero_le _
  | succ i ih =>
    have := slackRow_bound m i n
    show slack n m i + slackRow m i n ≤ _
    rw [Nat.add_mul, Nat.one_mul]
    omega
theorem slack_big {n : Nat} (h6 : n ≤ 6) (m : Mx) : slack n m n ≤ 154618822656 := by
  have h := slack_bound n m n
  have h1 : n * (n * 4294967296) ≤ 6 * (6 * 4294967296) := Nat.mul_le_mul h6 (Nat.mul_le_mul h6 (Nat.le_refl _))
  omega
/-- where the rounds of Steps are, with what is still free -/
def SRel (w : World) (n : Nat) (cs : List Ch) (m : Mx) (x y : Nat) (right : BitVec 32) (k : Nat) (p : Value × Value × Value) (wr : World) : Prop :=
  ∃ (A : Option Addr) (c : Nat) (rs2 : List Wr) (more : Bool) (t : Nat), p.1 = .slice A n c ∧ p.2.1 = .bool more ∧ p.2.2 = .int .i64 t ∧ Kept w wr ∧ SlX wr A n rs2 ∧ (∀ r ∈ rs2, r.2.1 = n) ∧ CInv n cs m (mxOf rs2) more ∧
    (more = false → subB right (mxOf rs2 x y) = false) ∧ (0 < t → subB right (m x y) = false) ∧ (t = 0 → eqM n (mxOf rs2) m) ∧ t + slack n (mxOf rs2) n ≤ slack n m n + (if more then 0 else 1) ∧ 2 * slack n (mxOf rs2) n + (if more then 1 else 0) ≤ k
theorem round_count {n t s : Nat} {cs : List Ch} {cur nx : Mx} {more : Bool} (hr : RInv n cs cur nx more) (h : t + slack n cur n ≤ s) : t + 1 + slack n nx n ≤ s + (if more then 0 else 1) := by
  have h1 := slack_le hr.1 n (Nat.le_refl _)
  cases more
  · simp; omega
  · have := slack_more hr.1 (hr.2.2.2 rfl)
    simp; omega
/-- what Steps hands back where nothing is wrong: the number of rounds, or none -/
def Stepped (n : Nat) (cs : List Ch) (m : Mx) (x y : Nat) (right : BitVec 32) (t : Nat) (code : Int) : Prop :=
  (code = 0 ∧ (∀ a, IsClose n cs m a → subB right (a x y) = true) ∧ (t = 0 ↔ subB right (m x y) = true)) ∨ (code = 5 ∧ t = 0 ∧ ∀ a, IsClose n cs m a → subB right (a x y) = false)
def RetSteps (w : World) (n : Int) (rs : List Wr) (cs : List Ch) (x y : Int) (right : BitVec 32) (e : Ending) (w' : World) : Prop :=
  Kept w w' ∧ ((stepsF n rs cs.length x y ≠ 0 ∧ e = .returned (.tuple #[.int .i64 0, .int .i64 (stepsF n rs cs.length x y)])) ∨
    (stepsF n rs cs.length x y = 0 ∧ ∃ (t : Nat) (code : Int), e = .returned (.tuple #[.int .i64 t, .int .i64 code]) ∧ Stepped n.toNat cs (mxOf rs) x.toNat y.toNat right t code))
theorem steps_bad (n : Int) (A : Option Addr) (len c : Nat) (rs : List Wr) (A2 : Option Addr) (k2 c2 : Nat) (cs : List Ch) (x y : Int) (right : BitVec 32) (w : World) (hs : SlX w A len rs) (hc : SlC w A2 k2 cs) (h : stepsF n rs cs.length x y ≠ 0) :
    Calls Try.prog 30 #[.int .i64 n, .slice A len c, .slice A2 k2 c2, .int .i64 x, .int .i64 y, .int .u32 (W right)] w (RetSteps w n rs cs x y right) := by
  have hw := rightsWrong_any n A len c rs A2 k2 c2 w hs
  have hF : rightF n rs k2 = rightF n rs cs.length := by rw [hc.2]
  rw [hF] at hw
  clear hF
  have HH := Lib.hid h
  by_cases h0 : rightF n rs cs.length = 0
  · have HV := Lib.hid (show stepsF n rs cs.length x y = 2 by
      unfold stepsF at h ⊢
      rw [if_neg (by simpa using h0)] at h ⊢
      by_cases h1 : x < 0 ∨ y < 0 ∨ n ≤ x ∨ n ≤ y
      · rw [if_pos h1]
      · rw [if_neg h1] at h; exact absurd rfl h)
    have hbad : x < 0 ∨ y < 0 ∨ n ≤ x ∨ n ≤ y := by
      unfold stepsF at h
      rw [if_neg (by simpa using h0)] at h
      refine Classical.byContradiction fun h1 => ?_
      rw [if_neg h1] at h
      exact h rfl
    rw [h0] at hw
    clear h0 h
    by_cases hxy : x < y
    · have g1 : decide (x < y) = true := by simp; omega
      have g2 : decide (y < x) = false := by simp; omega
      by_cases hx : x < 0
      · have g3 : decide (x < 0) = true := by simp; omega
        clear hbad
        go_enter Try.func30, Try.ntmps30
        go_wp2_with fail
        refine hw.mono ?_
        rintro e w1 ⟨rfl, k1⟩
        go_wp2_with fail
        go_ret2
        exact ⟨k1, .inl ⟨HH.out, by rw [HV.out]; rfl⟩⟩
      · have g3 : decide (x < 0) = false := by simp; omega
        have g4 : decide (n ≤ y) = true := by simp; omega
        clear hbad
        go_enter Try.func30, Try.ntmps30
        go_wp2_with fail
        refine hw.mono ?_
        rintro e w1 ⟨rfl, k1⟩
        go_wp2_with fail
        go_ret2
        exact ⟨k1, .inl ⟨HH.out, by rw [HV.out]; rfl⟩⟩
    · by_cases hyx : y < x
      · have g1 : decide (x < y) = false := by simp; omega
        have g2 : decide (y < x) = true := by simp; omega
        by_cases hx : y < 0
        · have g3 : decide (y < 0) = true := by simp; omega
          clear hbad
          go_enter Try.func30, Try.ntmps30
          go_wp2_with fail
          refine hw.mono ?_
          rintro e w1 ⟨rfl, k1⟩
          go_wp2_with fail
          go_ret2
          exact ⟨k1, .inl ⟨HH.out, by rw [HV.out]; rfl⟩⟩
        · have g3 : decide (y < 0) = false := by simp; omega
          have g4 : decide (n ≤ x) = true := by simp; omega
          clear hbad
          go_enter Try.func30, Try.ntmps30
          go_wp2_with fail
          refine hw.mono ?_
          rintro e w1 ⟨rfl, k1⟩
          go_wp2_with fail
          go_ret2
          exact ⟨k1, .inl ⟨HH.out, by rw [HV.out]; rfl⟩⟩
      · obtain rfl : x = y := by omega
        have g1 : decide (x < x) = false := by simp
        by_cases hx : x < 0
        · have g3 : decide (x < 0) = true := by simp; omega
          clear hbad
          go_enter Try.func30, Try.ntmps30
          go_wp2_with fail
          refine hw.mono ?_
          rintro e w1 ⟨rfl, k1⟩
          go_wp2_with fail
          go_ret2
          exact ⟨k1, .inl ⟨HH.out, by rw [HV.out]; rfl⟩⟩
        · have g3 : decide (x < 0) = false := by simp; omega
          have g4 : decide (n ≤ x) = true := by simp; omega
          clear hbad
          go_enter Try.func30, Try.ntmps30
          go_wp2_with fail
          refine hw.mono ?_
          rintro e w1 ⟨rfl, k1⟩
          go_wp2_with fail
          go_ret2
          exact ⟨k1, .inl ⟨HH.out, by rw [HV.out]; rfl⟩⟩
  · have hne : (rightF n rs cs.length != 0) = true := by simpa using h0
    have HV := Lib.hid (show stepsF n rs cs.length x y = rightF n rs cs.length by unfold stepsF; rw [if_pos h0])
    clear h0 h
    go_enter Try.func30, Try.ntmps30
    go_wp2_with fail
    refine hw.mono ?_
    rintro e w1 ⟨rfl, k1⟩
    go_wp2_with fail
    go_ret2
    exact ⟨k1, .inl ⟨HH.out, by rw [HV.out]; rfl⟩⟩
set_option maxRecDepth 100000 in
set_option maxHeartbeats 8000000 in
theorem steps_good (n : Nat) (A : Option Addr) (c : Nat) (rs : List Wr) (A2 : Option Addr) (k2 c2 : Nat) (cs : List Ch) (x y : Nat) (right : BitVec 32) (w : World) (hs : SlX w A n rs) (hc : SlC w A2 k2 cs) (h : rightF n rs cs.length = 0) (h1 : 1 ≤ n) (h6 : n ≤ 6) (hk10 : k2 ≤ 10) (hr : ∀ r ∈ rs, r.2.1 = n) (hx : x < n) (hy : y < n) :
    Calls Try.prog 30 #[.int .i64 n, .slice A n c, .slice A2 k2 c2, .int .i64 x, .int .i64 y, .int .u32 (W right)] w fun e w' => Kept w w' ∧ ∃ (t : Nat) (code : Int), e = .returned (.tuple #[.int .i64 t, .int .i64 code]) ∧ Stepped n cs (mxOf rs) x y right t code := by
  have hw := rightsWrong_any n A n c rs A2 k2 c2 w hs
  have hF : rightF n rs k2 = rightF n rs cs.length := by rw [hc.2]
  rw [hF, h] at hw
  have HRR := Lib.hid (fun A c rs w' h hk hr => round_any n A c rs A2 k2 c2 cs w' h (hc.kept hk) h1 h6 (by omega) hr)
  obtain ⟨M, hM⟩ := measure_of (SRel w n cs (mxOf rs) x y right)
  have HM := Lib.hid hM
  have HB := Lib.hid (slack_big h6 (mxOf rs))
  have HST0 := Lib.hid (fun w1 (k1 : Kept w w1) => show SRel w n cs (mxOf rs) x y right (2 * slack n (mxOf rs) n + 1) (.slice A n c, .bool true, .int .i64 ((0 : Nat) : Int)) w1 from
    ⟨A, c, rs, true, 0, rfl, rfl, rfl, k1, hs.kept k1, hr, ⟨leM_refl _ _, (fun d h _ => h), (fun h => by cases h)⟩, (fun h => by cases h), (fun h => absurd h (Nat.lt_irrefl 0)), (fun _ _ _ _ _ => rfl), Nat.le_of_eq (Nat.zero_add _), Nat.le_refl _⟩)
  have hx0 : (0 : Int) ≤ (x : Int) := by omega
  have hx1 : (x : Int) < (n : Int) := by omega
  have hy0 : (0 : Int) ≤ (y : Int) := by omega
  have hy1 : (y : Int) < (n : Int) := by omega
  have d1 : decide ((x : Int) < 0) = false := by simp
  have d2 : decide ((y : Int) < 0) = false := by simp
  have d3 : decide (n ≤ x) = false := by simp; omega
  have d4 : decide (n ≤ y) = false := by simp; omega
  clear h hF hr hM
  go_enter Try.func30, Try.ntmps30
  go_wp2_with fail
  refine hw.mono ?_
  rintro e w1 ⟨rfl, k1⟩
  have HST := Lib.hid (HST0.out _ k1)
  go_wp2_with fail
  all_goals
    go_loopw [1, 15, 16] (fun vm vmore vk wr => ∃ k, SRel w n cs (mxOf rs) x y right k (vm, vmore, vk) wr) (fun vm vmore vk wr => M (vm, vmore, vk) wr)
    case atStart => exact ⟨_, HST.out⟩
    case round =>
      obtain ⟨k0, hk0⟩ := hrel
      have hk1 := (HM.out _ _ _ hk0).1
      obtain ⟨A3, c3, rs3, more, t, hv1, hv2, hv3, kw, hs3, hr3, hci, hmf, hpos, hzero, hcount, hle⟩ := hk1
      simp only at hv1 hv2 hv3
      subst hv1 hv2 hv3
      have HLE := Lib.hid hle
      have HCI := Lib.hid hci
      have HMF := Lib.hid hmf
      have HPOS := Lib.hid hpos
      have HZERO := Lib.hid hzero
      have HCOUNT := Lib.hid hcount
      have HR3 := Lib.hid hr3
      clear hle hci hk0 hmf hpos hzero hcount hr3
      cases more
      · have FIN := Lib.hid (show Stepped n cs (mxOf rs) x y right 0 5 from .inr ⟨rfl, rfl, fun a ha => by
          have e := leM_antisymm (HCI.out.2.1 a ha.1 ha.2.1) (ha.2.2 _ HCI.out.1 (HCI.out.2.2 rfl))
          rw [← e x y hx hy]
          exact HMF.out rfl⟩)
        clear hs3
        go_wp2_with fail
        go_ret2
        exact ⟨kw, 0, 5, rfl, FIN.out⟩
      · have ht : t ≤ 154618822656 := by have h1 := HCOUNT.out; have h2 := HB.out; simp at h1; omega
        obtain ⟨b, off, b2, off2, c5, rfl, m1, m2⟩ := hs3.at_ HR3.out x y hx hy
        obtain ⟨z, hz⟩ : ∃ z, mxOf rs3 x y = z := ⟨_, rfl⟩
        rw [hz] at m2
        have HZ := Lib.hid hz
        have HCALL := Lib.hid (HRR.out _ c3 rs3 wr hs3 kw HR3.out)
        clear hz hs3
        cases hb : subB right z
        · have HB2 := Lib.hid hb
          go_wp2_with fail
          refine HCALL.out.mono ?_
          rintro e w4 ⟨A4, c4, rs4, more4, rfl, k4, hs4, hr4, hi4, hd4⟩
          have HST2 := Lib.hid (fun v (hv : v = .int .i64 ((t + 1 : Nat) : Int)) => show SRel w n cs (mxOf rs) x y right (2 * slack n (mxOf rs4) n + (if more4 then 1 else 0)) (.slice A4 n c4, .bool more4, v) w4 from
            ⟨A4, c4, rs4, more4, t + 1, rfl, rfl, hv, kw.trans k4, hs4, hr4, CInv.round ⟨HCI.out.1, HCI.out.2.1⟩ hi4 hd4, (fun hm => by rw [hi4.2.2.1 hm x y hx hy, HZ.out]; exact HB2.out),
              (fun _ => by
                refine Bool.eq_false_iff.2 fun hc => ?_
                have h3 := subB_trans hc (HCI.out.1 x y hx hy)
                rw [HZ.out, HB2.out] at h3
                cases h3),
              (fun h => by omega), round_count hi4 (by have h1 := HCOUNT.out; simp at h1; exact h1), Nat.le_refl _⟩)
          have HLT := Lib.hid (round_less hi4)
          clear hs4 hr4 hi4 hd4
          go_wp2_with fail
          go_roundw
          case rel => exact ⟨_, HST2.out _ (by go_num)⟩
          case measure =>
            have h1 := (HM.out _ _ _ (HST2.out (.int .i64 ((t : Int) + 1)) (by go_num))).2
            have h2 := HLT.out
            have h3 := HLE.out
            simp at h3
            omega
        · have HB2 := Lib.hid hb
          have FIN := Lib.hid (show Stepped n cs (mxOf rs) x y right t 0 from .inl ⟨rfl, fun a ha => subB_trans (HZ.out ▸ HB2.out) (HCI.out.2.1 a ha.1 ha.2.1 x y hx hy), fun h => by rw [← HZERO.out h x y hx hy, HZ.out]; exact HB2.out, fun h => by
            refine Classical.byContradiction fun hc => ?_
            have := HPOS.out (by omega)
            rw [this] at h
            cases h⟩)
          go_wp2_with fail
          go_ret2
          exact ⟨kw, t, 0, rfl, FIN.out⟩
theorem steps_any (n : Int) (A : Option Addr) (len c : Nat) (rs : List Wr) (A2 : Option Addr) (k2 c2 : Nat) (cs : List Ch) (x y : Int) (right : BitVec 32) (w : World) (hs : SlX w A len rs) (hc : SlC w A2 k2 cs) :
    Calls Try.prog 30 #[.int .i64 n, .slice A len c, .slice A2 k2 c2, .int .i64 x, .int .i64 y, .int .u32 (W right)] w (RetSteps w n rs cs x y right) := by
  by_cases h : stepsF n rs cs.length x y = 0
  · obtain ⟨h0, hx0, hy0, hx1, hy1⟩ := stepsF_zero h
    obtain ⟨nn, rfl, h1, h6, hk, hlr, hr⟩ := rightF_zero h0
    obtain rfl : len = nn := by rw [← hs.2.1]; exact hlr
    obtain ⟨x, rfl⟩ := Int.eq_ofNat_of_zero_le hx0
    obtain ⟨y, rfl⟩ := Int.eq_ofNat_of_zero_le hy0
    refine (steps_good len A c rs A2 k2 c2 cs x y right w hs hc h0 h1 h6 (by rw [← hc.2]; exact hk) hr (by omega) (by omega)).mono ?_
    rintro e w1 ⟨k1, t, code, rfl, hst⟩
    exact ⟨k1, .inr ⟨h, t, code, rfl, hst⟩⟩
  · exact steps_bad n A len c rs A2 k2 c2 cs x y right w hs hc h
/-- what Safe hands back -/
def RetSafe (w : World) (n : Int) (rs : List Wr) (cs : List Ch) (x y : Int) (right : BitVec 32) (e : Ending) (w' : World) : Prop :=
  Kept w w' ∧ ((stepsF n rs cs.length x y ≠ 0 ∧ ∃ code : Int, code ≠ 0 ∧ e = .returned (.tuple #[.bool false, .int .i64 code])) ∨
    (stepsF n rs cs.length x y = 0 ∧ ∃ is : Bool, e = .returned (.tuple #[.bool is, .int .i64 0]) ∧ ∀ a, IsClose n.toNat cs (mxOf rs) a → is = !subB right (a x.toNat y.toNat)))
theorem stepsF_ne5 (n : Int) (rs : List Wr) (k : Nat) (x y : Int) : stepsF n rs k x y ≠ 5 := by
  unfold stepsF rightF
  repeat (first | split | decide)
  all_goals omega
theorem safe_any (n : Int) (A : Option Addr) (len c : Nat) (rs : List Wr) (A2 : Option Addr) (k2 c2 : Nat) (cs : List Ch) (x y : Int) (right : BitVec 32) (w : World) (hs : SlX w A len rs) (hc : SlC w A2 k2 cs) :
    Calls Try.prog 29 #[.int .i64 n, .slice A len c, .slice A2 k2 c2, .int .i64 x, .int .i64 y, .int .u32 (W right)] w (RetSafe w n rs cs x y right) := by
  have HS := Lib.hid (steps_any n A len c rs A2 k2 c2 cs x y right w hs hc)
  have H5 := Lib.hid (stepsF_ne5 n rs cs.length x y)
  go_enter Try.func29, Try.ntmps29
  go_wp2_with fail
  refine HS.out.mono ?_
  rintro e w1 ⟨k1, ⟨h0, rfl⟩ | ⟨h0, t, code, rfl, hst⟩⟩
  · have HH := Lib.hid h0
    have h5 : (stepsF n rs cs.length x y == 5) = false := by simpa using H5.out
    have FIN := Lib.hid (show RetSafe w n rs cs x y right (.returned (.tuple #[.bool false, .int .i64 (stepsF n rs cs.length x y)])) w1 from ⟨k1, .inl ⟨h0, _, h0, rfl⟩⟩)
    generalize stepsF n rs cs.length x y = v at h5 HH FIN
    clear h0
    go_wp2_with fail
    go_ret2
    exact FIN.out
  · rcases hst with ⟨rfl, h1, _⟩ | ⟨rfl, rfl, h1⟩
    · have FIN := Lib.hid (show RetSafe w n rs cs x y right (.returned (.tuple #[.bool false, .int .i64 0])) w1 from ⟨k1, .inr ⟨h0, false, rfl, fun a ha => by rw [h1 a ha]; rfl⟩⟩)
      clear h1 h0
      go_wp2_with fail
      go_ret2
      exact FIN.out
    · have FIN := Lib.hid (show RetSafe w n rs cs x y right (.returned (.tuple #[.bool true, .int .i64 0])) w1 from ⟨k1, .inr ⟨h0, true, rfl, fun a ha => by rw [h1 a ha]; rfl⟩⟩)
      clear h1 h0
      go_wp2_with fail
      go_ret2
      exact FIN.out
end Go.Proofs.Ytekpifobhgjepaa
