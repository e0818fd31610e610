/- The walks of flow.wrong, ProgCheck and flow.labeled. -/
import Derived.Test.YtnnddjanbfamkaaFlow4
import Derived.Test.YtnnddjanbfamkaaCloneL
namespace Go.Proofs.Ytnnddjanbfamkaa
open Go Go.RowKit
set_option linter.unusedVariables false

theorem guardsP {n M : Int} {D : Nat} (h : n < 1 ∨ 6 < n ∨ 12 < M ∨ 4 < D) : (decide (n < 1) = true) ∨ (decide (n < 1) = false ∧ decide (6 < n) = true) ∨ (decide (n < 1) = false ∧ decide (6 < n) = false ∧ decide (12 < M) = true) ∨ (decide (n < 1) = false ∧ decide (6 < n) = false ∧ decide (12 < M) = false ∧ decide (4 < (D : Int)) = true) := by
  simp only [decide_eq_true_eq, decide_eq_false_iff_not]
  omega
theorem guardsQ {n M : Int} {D : Nat} (h : ¬ (n < 1 ∨ 6 < n ∨ 12 < M ∨ 4 < D)) : decide (n < 1) = false ∧ decide (6 < n) = false ∧ decide (12 < M) = false ∧ decide (4 < (D : Int)) = false := by
  simp only [decide_eq_false_iff_not]
  omega
theorem flowWrong_any (n : Int) (p : Ln) (A : Option Addr) (c : Nat) (w : World) (hs : SlLn w A p) :
    Calls Try.prog 53 #[.int .i64 n, .slice A p.len c] w fun e w' => e = .returned (.int .i64 (wrF n p)) ∧ Kept w w' := by
  have HSZ := Lib.hid (size_any (p.wt + 1) p A c 1 1 w (by omega) rfl (by omega) hs)
  have HW := Lib.hid (show wrF n p = if n < 1 ∨ 6 < n ∨ 12 < (sz p 1).1 ∨ 4 < (sz p 1).2 then 1 else lnF n p from rfl)
  have HS := Lib.hid hs
  clear hs
  by_cases hbad : n < 1 ∨ 6 < n ∨ 12 < (sz p 1).1 ∨ 4 < (sz p 1).2
  · have HR := Lib.hid (show wrF n p = 1 by rw [HW.out, if_pos hbad])
    have hg := guardsP hbad
    clear hbad
    generalize sz p 1 = s at HSZ hg
    obtain ⟨M, D⟩ := s
    simp only at HSZ hg
    clear HW
    rcases hg with g1 | ⟨g1, g2⟩ | ⟨g1, g2, g3⟩ | ⟨g1, g2, g3, g4⟩
    all_goals
      go_enter Try.func53, Try.ntmps53
      go_wp2_with fail
      refine HSZ.out.mono ?_
      rintro e w1 ⟨rfl, k1⟩
      have HK := Lib.hid k1
      clear k1
      go_wp2_with fail
      go_ret
      exact ⟨by rw [HR.out]; rfl, HK.out⟩
  · have HR := Lib.hid (show wrF n p = lnF n p by rw [HW.out, if_neg hbad])
    obtain ⟨g1, g2, g3, g4⟩ := guardsQ hbad
    have HL := Lib.hid (fun w' (k : Kept w w') => linesF_any n (by omega) (by omega) (p.wt + 1) p A c w' (by omega) (HS.out.kept k))
    clear hbad
    generalize sz p 1 = s at HSZ g3 g4
    obtain ⟨M, D⟩ := s
    simp only at HSZ g3 g4
    clear HW
    go_enter Try.func53, Try.ntmps53
    go_wp2_with fail
    refine HSZ.out.mono ?_
    rintro e w1 ⟨rfl, k1⟩
    have HL1 := Lib.hid (HL.out w1 k1)
    have HK := Lib.hid k1
    clear k1
    go_wp2_with fail
    refine HL1.out.mono ?_
    rintro e w2 ⟨rfl, k2⟩
    have HK2 := Lib.hid (HK.out.trans k2)
    clear k2
    go_wp2_with fail
    go_ret
    exact ⟨by rw [HR.out]; rfl, HK2.out⟩
theorem lsN_same (p : Ln) : (12 < (lsN p 1).1 ∨ 4 < (lsN p 1).2) ↔ (12 < (sz p 1).1 ∨ 4 < (sz p 1).2) := by
  by_cases h : p.len = 0
  · rw [lsN_zero h]
    cases p with
    | nil =>
      rw [sz_small (by show ¬ (12 < 0 ∨ 4 < 1); omega)]
      show (12 < (0 : Int) ∨ 4 < 1 - 1) ↔ (12 < ((0 : Nat) : Int) ∨ 4 < 1)
      omega
    | cons => cases h
  · rw [lsN_pos h]
theorem progCheck_any (n : Int) (p : Ln) (A : Option Addr) (c : Nat) (w : World) (hs : SlLn w A p) :
    Calls Try.prog 31 #[.int .i64 n, .slice A p.len c] w fun e w' => e = .returned (.int .i64 (wrF n p)) ∧ Kept w w' := by
  have HSZ := Lib.hid (linesR_any (p.wt + 1) p A c 1 1 w (by omega) rfl (by omega) (by omega) hs)
  have HW := Lib.hid (show wrF n p = if n < 1 ∨ 6 < n ∨ 12 < (lsN p 1).1 ∨ 4 < (lsN p 1).2 then 1 else lnF n p by
    have h1 : (n < 1 ∨ 6 < n ∨ 12 < (lsN p 1).1 ∨ 4 < (lsN p 1).2) ↔ (n < 1 ∨ 6 < n ∨ 12 < (sz p 1).1 ∨ 4 < (sz p 1).2) := by rw [lsN_same p]
    unfold wrF
    by_cases h : n < 1 ∨ 6 < n ∨ 12 < (sz p 1).1 ∨ 4 < (sz p 1).2
    · rw [if_pos h, if_pos (h1.2 h)]
    · rw [if_neg h, if_neg (fun h2 => h (h1.1 h2))])
  have HS := Lib.hid hs
  clear hs
  by_cases hbad : n < 1 ∨ 6 < n ∨ 12 < (lsN p 1).1 ∨ 4 < (lsN p 1).2
  · have HR := Lib.hid (show wrF n p = 1 by rw [HW.out, if_pos hbad])
    have hg := guardsP hbad
    clear hbad
    generalize lsN p 1 = s at HSZ hg
    obtain ⟨M, D⟩ := s
    simp only at HSZ hg
    clear HW
    rcases hg with g1 | ⟨g1, g2⟩ | ⟨g1, g2, g3⟩ | ⟨g1, g2, g3, g4⟩
    all_goals
      go_enter Try.func31, Try.ntmps31
      go_wp2_with fail
      refine HSZ.out.mono ?_
      rintro e w1 ⟨rfl, k1⟩
      have HK := Lib.hid k1
      clear k1
      go_wp2_with fail
      go_ret
      exact ⟨by rw [HR.out]; rfl, HK.out⟩
  · have HR := Lib.hid (show wrF n p = lnF n p by rw [HW.out, if_neg hbad])
    obtain ⟨g1, g2, g3, g4⟩ := guardsQ hbad
    have HL := Lib.hid (fun w' (k : Kept w w') => linesC_any n (by omega) (by omega) (p.wt + 1) p A c w' (by omega) (HS.out.kept k))
    clear hbad
    generalize lsN p 1 = s at HSZ g3 g4
    obtain ⟨M, D⟩ := s
    simp only at HSZ g3 g4
    clear HW
    go_enter Try.func31, Try.ntmps31
    go_wp2_with fail
    refine HSZ.out.mono ?_
    rintro e w1 ⟨rfl, k1⟩
    have HL1 := Lib.hid (HL.out w1 k1)
    have HK := Lib.hid k1
    clear k1
    go_wp2_with fail
    refine HL1.out.mono ?_
    rintro e w2 ⟨rfl, k2⟩
    have HK2 := Lib.hid (HK.out.trans k2)
    clear k2
    go_wp2_with fail
    go_ret
    exact ⟨by rw [HR.out]; rfl, HK2.out⟩
theorem wrF_ok {n : Int} {p : Ln} (h : wrF n p = 0) : 1 ≤ n ∧ n ≤ 6 ∧ lnF n p = 0 := by
  unfold wrF at h
  by_cases hb : n < 1 ∨ 6 < n ∨ 12 < (sz p 1).1 ∨ 4 < (sz p 1).2
  · rw [if_pos hb] at h; cases h
  · rw [if_neg hb] at h
    exact ⟨by omega, by omega, h⟩
/-- what is wrong with a program and labels -/
def lbF (n : Int) (ls : List Lab) (p : Ln) : Int := if wrF n p ≠ 0 then wrF n p else if (ls.length : Int) ≠ n then 3 else if ls.any (fun x => !labOk x) = true then 4 else 0
theorem lbF_ok {n : Int} {ls : List Lab} {p : Ln} (h : lbF n ls p = 0) : wrF n p = 0 ∧ (ls.length : Int) = n ∧ ∀ x ∈ ls, labOk x = true := by
  unfold lbF at h
  by_cases h1 : wrF n p ≠ 0
  · rw [if_pos h1] at h; exact absurd h h1
  · rw [if_neg h1] at h
    by_cases h2 : (ls.length : Int) ≠ n
    · rw [if_pos h2] at h; cases h
    · rw [if_neg h2] at h
      cases h3 : ls.any (fun x => !labOk x)
      · refine ⟨Decidable.not_not.1 h1, Decidable.not_not.1 h2, fun x hx => ?_⟩
        rw [List.any_eq_false] at h3
        simpa using h3 x hx
      · rw [if_pos h3] at h; cases h
theorem lbF_eq {n : Int} {ls : List Lab} {p : Ln} (h1 : wrF n p = 0) (h2 : (ls.length : Int) = n) (h3 : ∀ x ∈ ls, labOk x = true) : lbF n ls p = 0 := by
  unfold lbF
  rw [if_neg (fun h => h h1), if_neg (fun h => h h2), if_neg]
  intro h
  obtain ⟨x, hx, hb⟩ := List.any_eq_true.1 h
  rw [h3 x hx] at hb
  cases hb
set_option maxRecDepth 100000 in
set_option maxHeartbeats 4000000 in
theorem labeled_any (n : Int) (ls : List Lab) (A2 : Option Addr) (l2 c2 : Nat) (p : Ln) (A : Option Addr) (c : Nat) (w : World) (hl : SlLab w A2 l2 ls) (hs : SlLn w A p) :
    Calls Try.prog 49 #[.int .i64 n, .slice A2 l2 c2, .slice A p.len c] w fun e w' => e = .returned (.int .i64 (lbF n ls p)) ∧ Kept w w' := by
  have HW := Lib.hid (flowWrong_any n p A c w hs)
  have HLB := Lib.hid (show lbF n ls p = if wrF n p ≠ 0 then wrF n p else if (ls.length : Int) ≠ n then 3 else if ls.any (fun x => !labOk x) = true then 4 else 0 from rfl)
  have HL := Lib.hid hl
  have hn6 : wrF n p = 0 → n ≤ 6 := fun h => (wrF_ok h).2.1
  clear hl hs
  by_cases h1 : wrF n p = 0
  · have hn := hn6 h1
    rw [h1] at HW
    by_cases h2 : (l2 : Int) = n
    · have e2 : ((l2 : Int) != n) = false := by rw [bne_eq_false_iff_eq]; exact h2
      have HR := Lib.hid (show lbF n ls p = if ls.any (fun x => !labOk x) = true then 4 else 0 by rw [HLB.out, if_neg (fun h => h h1), if_neg (fun h => h (by rw [HL.out.2]; exact h2))])
      have hl6 : l2 ≤ 6 := by omega
      clear h1 h2 hn6 hn HLB
      go_enter Try.func49, Try.ntmps49
      go_wp2_with fail
      refine HW.out.mono ?_
      rintro e w1 ⟨rfl, k1⟩
      have HK1 := Lib.hid k1
      clear k1
      go_wp2_with fail
      clear e2
      go_loopw [23] (fun t wr => ∃ q : Nat, q ≤ l2 ∧ t = .int .i64 (q : Nat) ∧ Hid ((ls.take q).any (fun x => !labOk x) = false) ∧ Kept w wr) (fun t _ => l2 - (intOf t).toNat)
      case atStart => exact ⟨0, Nat.zero_le _, rfl, Lib.hid rfl, HK1.out⟩
      case round =>
        obtain ⟨q, hq, rfl, HNO, hkw⟩ := hrel
        by_cases hlt : q < l2
        · obtain ⟨b, off, hk, rfl, hb, c0, c1⟩ := (HL.out.kept hkw).get q hlt
          have HSN := Lib.hid (any_snoc (fun x => !labOk x) ls q hk)
          have HIN := Lib.hid (show labOk ls[q] = false → ls.any (fun x => !labOk x) = true from fun h => List.any_eq_true.2 ⟨_, List.getElem_mem hk, by rw [h]; rfl⟩)
          generalize ls[q] = x at c0 c1 HSN HIN
          obtain ⟨lv, pt⟩ := x
          simp only at c0 c1
          have j1 : (0 : Int) ≤ (q : Int) := by omega
          have j2 : (q : Int) < (l2 : Int) := by omega
          have HLT := Lib.hid hlt
          have bx := Box.new wr #[.int .i64 lv, .int .u32 (W pt)] 24 wr.heap.size rfl
          have b0 := bx.at_ 0 (u := .int .i64 lv) rfl
          have b1 := bx.at_ 1 (u := .int .u32 (W pt)) rfl
          have HKA := Lib.hid (hkw.alloc (.cells #[.int .i64 lv, .int .u32 (W pt)] 24))
          have HCK := Lib.hid (labCheck_any lv pt (wr.alloc (.cells #[.int .i64 lv, .int .u32 (W pt)] 24)))
          clear bx hkw hlt
          cases hok : labOk (lv, pt) with
          | true =>
            rw [labF_zero hok] at HCK
            have HN := Lib.hid (show (ls.take (q + 1)).any (fun x => !labOk x) = false by rw [HSN.out, HNO.out, hok]; rfl)
            clear hok
            go_wp2_with fail
            refine HCK.out.mono ?_
            rintro e w5 ⟨rfl, k5⟩
            go_wp2_with fail
            go_roundw
            case rel => exact ⟨q + 1, HLT.out, by go_num, HN, HKA.out.trans k5⟩
            case measure => have := HLT.out; simp [intOf]; omega
          | false =>
            rw [labF_four hok] at HCK
            have HN := Lib.hid (show lbF n ls p = 4 by rw [HR.out, if_pos (HIN.out hok)])
            clear hok
            go_wp2_with fail
            refine HCK.out.mono ?_
            rintro e w5 ⟨rfl, k5⟩
            go_wp2_with fail
            go_ret
            exact ⟨by rw [HN.out]; rfl, HKA.out.trans k5⟩
        · have HN := Lib.hid (show lbF n ls p = 0 by
            have h3 := HNO.out
            rw [take_all ls q (by rw [HL.out.2]; omega)] at h3
            rw [HR.out, h3]
            rfl)
          go_wp2_with fail
          go_ret
          exact ⟨by rw [HN.out]; rfl, hkw⟩
    · have e2 : ((l2 : Int) != n) = true := by rw [bne_iff_ne]; exact h2
      have HR := Lib.hid (show lbF n ls p = 3 by rw [HLB.out, if_neg (fun h => h h1), if_pos (by rw [HL.out.2]; exact h2)])
      clear h1 h2 hn6 hn HLB
      go_enter Try.func49, Try.ntmps49
      go_wp2_with fail
      refine HW.out.mono ?_
      rintro e w1 ⟨rfl, k1⟩
      go_wp2_with fail
      go_ret
      exact ⟨by rw [HR.out]; rfl, k1⟩
  · have e1 : (wrF n p != 0) = true := by rw [bne_iff_ne]; exact h1
    have HR := Lib.hid (show lbF n ls p = wrF n p by rw [HLB.out, if_pos h1])
    clear h1 hn6 HLB
    generalize wrF n p = ww at HW e1 HR
    go_enter Try.func49, Try.ntmps49
    go_wp2_with fail
    refine HW.out.mono ?_
    rintro e w1 ⟨rfl, k1⟩
    go_wp2_with fail
    go_ret
    exact ⟨by rw [HR.out]; rfl, k1⟩
end Go.Proofs.Ytnnddjanbfamkaa
