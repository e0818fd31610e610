/- The walks of package wall: wrong, any with its two tests; and of the statements' side: FirmsCheck, walled. -/
import Derived.Test.YtnnddjanbfamkaaDeed
import Derived.Test.YtnnddjanbfamkaaSeat
import Derived.Test.YtnnddjanbfamkaaQuiet
import Derived.Test.YtnnddjanbfamkaaFirst
import Derived.BigRegion
namespace Go.Proofs.Ytnnddjanbfamkaa
open Go Go.RowKit
set_option linter.unusedVariables false

def badF (m : Nat) (f : Int) : Bool := decide (f < -1) || decide ((m : Int) ≤ f)
def firmF (firm clss : List Int) : Int := if 8 < firm.length ∨ 8 < clss.length then 1 else if firm.any (badF clss.length) then 2 else 0
theorem firmF_zero {firm clss : List Int} (h : firmF firm clss = 0) : firm.length ≤ 8 ∧ clss.length ≤ 8 ∧ ∀ f ∈ firm, -1 ≤ f ∧ f < clss.length := by
  unfold firmF at h
  by_cases h1 : 8 < firm.length ∨ 8 < clss.length
  · rw [if_pos h1] at h; cases h
  · rw [if_neg h1] at h
    refine ⟨by omega, by omega, fun f hf => ?_⟩
    cases h2 : firm.any (badF clss.length)
    · rw [List.any_eq_false] at h2
      have := h2 f hf
      unfold badF at this
      simp at this
      omega
    · rw [if_pos h2] at h; cases h
theorem wall1_any (p : Addr) (Ac : Option Addr) (m cc : Nat) (f : Int) (w : World) (hp : w.cell? p = some (.slice Ac m cc)) :
    Calls Try.prog 67 #[.int .i64 f, .pointer (some p)] w fun e w' => e = .returned (.bool (badF m f)) ∧ w = w' := by
  unfold badF
  cases h1 : decide (f < -1)
  · go_enter Try.func67, Try.ntmps67
    go_wp2
    go_ret
    exact ⟨by simp, rfl⟩
  · go_enter Try.func67, Try.ntmps67
    go_wp2
    go_ret
    exact ⟨by simp, rfl⟩
theorem wallIndex_any (p : Addr) (Ac : Option Addr) (m cc : Nat) (A : Option Addr) (n c : Nat) (xs : List Int) (w : World) (hs : SlI w A n xs) (hn : n ≤ 1000) (hp : w.cell? p = some (.slice Ac m cc)) :
    Calls Try.prog 65 #[.slice A n c, .func (.func 67) #[] #[.pointer (some p)]] w fun e w' => e = .returned (.int .i64 (firstI (badF m) xs)) ∧ w = w' := by
  go_enter Try.func65, Try.ntmps65
  go_wp2_with fail
  go_loop [8] (fun t => ∃ q : Nat, q ≤ n ∧ t = .int .i64 q ∧ Hid ((xs.take q).any (badF m) = false)) (fun t => n - (intOf t).toNat)
  case atStart => exact ⟨0, Nat.zero_le _, rfl, Lib.hid rfl⟩
  case round =>
    obtain ⟨q, hq, rfl, HN⟩ := hrel
    by_cases hlt : q < n
    · obtain ⟨b, off, hk, rfl, hb, cq⟩ := hs.get q hlt
      have hsn := Lib.hid (any_snoc (badF m) xs q hk)
      have hhit := Lib.hid (firstI_hit (badF m) xs q hk HN.out)
      cases hb1 : (badF m) xs[q]
      · have HB := Lib.hid hb1
        clear hb1
        go_wp2_with fail
        refine (wall1_any p Ac m cc _ _ hp).mono ?_
        rintro e w' ⟨rfl, rfl⟩
        rw [HB.out]
        go_wp2_with fail
        go_round
        case rel => exact ⟨q + 1, by omega, by go_num, Lib.hid (by rw [hsn.out, HN.out, HB.out]; rfl)⟩
        case measure => simp [intOf]; omega
      · have HB := Lib.hid hb1
        clear hb1
        go_wp2_with fail
        refine (wall1_any p Ac m cc _ _ hp).mono ?_
        rintro e w' ⟨rfl, rfl⟩
        rw [HB.out]
        go_wp2_with fail
        go_ret
        exact ⟨by rw [hhit.out HB.out]; rfl, rfl⟩
    · have HK := Lib.hid (take_all xs q (by rw [hs.2]; omega))
      go_wp2_with fail
      go_ret
      exact ⟨by rw [firstI_none _ _ (by rw [← HK.out]; exact HN.out)]; rfl, rfl⟩
theorem wallContains_any (p : Addr) (Ac : Option Addr) (m cc : Nat) (A : Option Addr) (n c : Nat) (xs : List Int) (w : World) (hs : SlI w A n xs) (hn : n ≤ 1000) (hp : w.cell? p = some (.slice Ac m cc)) :
    Calls Try.prog 54 #[.slice A n c, .func (.func 67) #[] #[.pointer (some p)]] w fun e w' => e = .returned (.bool (xs.any (badF m))) ∧ w = w' := by
  have H := Lib.hid (firstI_ge (badF m) xs)
  go_enter Try.func54, Try.ntmps54
  go_wp2_with fail
  refine (wallIndex_any p Ac m cc _ _ _ xs _ hs hn hp).mono ?_
  rintro e w' ⟨rfl, rfl⟩
  go_wp2_with fail
  go_ret
  exact ⟨by rw [← H.out]; rfl, rfl⟩

theorem guards88 {a b : Nat} (h : 8 < a ∨ 8 < b) : decide (8 < (a : Int)) = true ∨ (decide (8 < (a : Int)) = false ∧ decide (8 < (b : Int)) = true) := by
  simp only [decide_eq_true_eq, decide_eq_false_iff_not]
  omega
set_option maxHeartbeats 800000 in
theorem wallWrong_any (A : Option Addr) (len c : Nat) (firm : List Int) (A2 : Option Addr) (m c2 : Nat) (clss : List Int) (w : World) (hs : SlI w A len firm) (hc : SlI w A2 m clss) :
    Calls Try.prog 58 #[.slice A len c, .slice A2 m c2] w fun e w' => e = .returned (.int .i64 (firmF firm clss)) ∧ Kept w w' := by
  have hka : Kept w (w.alloc (.cells #[.slice A2 m c2] 61)) := (Kept.refl _).alloc _
  have hl := hs.2
  have hl2 := hc.2
  by_cases hbad : 8 < len ∨ 8 < m
  · have HF := Lib.hid (show firmF firm clss = 1 by unfold firmF; rw [if_pos (by rw [hl, hl2]; exact hbad)])
    clear hs hc hl hl2
    rcases guards88 hbad with d1 | ⟨d1, d2⟩
    all_goals
      clear hbad
      go_enter Try.func58, Try.ntmps58
      go_wp2
      go_ret
      exact ⟨by rw [HF.out]; rfl, hka⟩
  · have d1 : decide (8 < (len : Int)) = false := by simp; omega
    have d2 : decide (8 < (m : Int)) = false := by simp; omega
    have HF := Lib.hid (show firmF firm clss = if firm.any (badF m) then 2 else 0 by unfold firmF; rw [if_neg (by rw [hl, hl2]; exact hbad), hl2])
    have hl8 : len ≤ 1000 := by omega
    clear hbad hl hl2
    go_enter Try.func58, Try.ntmps58
    go_wp2_with fail
    have bx := Box.new w #[.slice A2 m c2] 61 w.heap.size rfl
    refine (wallContains_any ⟨w.heap.size, 0, none⟩ A2 m c2 _ _ _ firm _ (hs.kept hka) hl8 (bx.at_ 0 rfl)).mono ?_
    rintro e w1 ⟨rfl, rfl⟩
    cases ha : firm.any (badF m)
    · have HV := Lib.hid (show firmF firm clss = 0 by rw [HF.out, ha]; rfl)
      clear ha
      go_wp2_with fail
      go_ret
      exact ⟨by rw [HV.out]; rfl, hka⟩
    · have HV := Lib.hid (show firmF firm clss = 2 by rw [HF.out, ha]; rfl)
      clear ha
      go_wp2_with fail
      go_ret
      exact ⟨by rw [HV.out]; rfl, hka⟩
set_option maxHeartbeats 800000 in
theorem firmsCheck_any (A : Option Addr) (len c : Nat) (firm : List Int) (A2 : Option Addr) (m c2 : Nat) (clss : List Int) (w : World) (hs : SlI w A len firm) (hc : SlI w A2 m clss) :
    Calls Try.prog 37 #[.slice A len c, .slice A2 m c2] w fun e w' => e = .returned (.int .i64 (firmF firm clss)) ∧ w = w' := by
  have hl := hs.2
  have hl2 := hc.2
  by_cases hbad : 8 < len ∨ 8 < m
  · have HF := Lib.hid (show firmF firm clss = 1 by unfold firmF; rw [if_pos (by rw [hl, hl2]; exact hbad)])
    clear hs hc hl hl2
    rcases guards88 hbad with d1 | ⟨d1, d2⟩
    all_goals
      clear hbad
      go_enter Try.func37, Try.ntmps37
      go_wp2
      go_ret
      exact ⟨by rw [HF.out]; rfl, rfl⟩
  · have d1 : decide (8 < (len : Int)) = false := by simp; omega
    have d2 : decide (8 < (m : Int)) = false := by simp; omega
    have HF := Lib.hid (show firmF firm clss = if firm.any (badF m) then 2 else 0 by unfold firmF; rw [if_neg (by rw [hl, hl2]; exact hbad), hl2])
    have hl8 : len ≤ 8 := by omega
    have HL := Lib.hid hl
    clear hbad hl hl2
    go_enter Try.func37, Try.ntmps37
    go_wp2_with fail
    clear d1 d2
    go_loop [17] (fun t => ∃ q : Nat, q ≤ len ∧ t = .int .i64 q ∧ Hid ((firm.take q).any (badF m) = false)) (fun t => len - (intOf t).toNat)
    case atStart => exact ⟨0, Nat.zero_le _, rfl, Lib.hid rfl⟩
    case round =>
      obtain ⟨q, hq, rfl, hno⟩ := hrel
      by_cases hlt : q < len
      · obtain ⟨b, off, hk, rfl, hb, cq⟩ := hs.get q hlt
        have HS := Lib.hid (any_snoc (badF m) firm q hk)
        have HE := Lib.hid (show badF m firm[q] = true → firm.any (badF m) = true from fun h => List.any_eq_true.2 ⟨_, List.getElem_mem hk, h⟩)
        have HNE := Lib.hid (show badF m firm[q] = (decide (firm[q] < -1) || decide ((m : Int) ≤ firm[q])) from rfl)
        generalize firm[q] = f at cq HS HE HNE
        have hi1 : (0 : Int) ≤ (q : Int) := by omega
        have hi2 : (q : Int) < (len : Int) := by omega
        cases h1 : decide (f < -1)
        · cases h2 : decide ((m : Int) ≤ f)
          · have HV := Lib.hid (show badF m f = false by rw [HNE.out, h1, h2]; rfl)
            go_wp2_with fail
            go_round
            case rel => exact ⟨q + 1, by omega, by go_num, Lib.hid (by rw [HS.out, hno.out, HV.out]; rfl)⟩
            case measure => simp [intOf]; omega
          · have HV := Lib.hid (show firmF firm clss = 2 by rw [HF.out, HE.out (by rw [HNE.out, h1, h2]; rfl)]; rfl)
            go_wp2_with fail
            go_ret
            exact ⟨by rw [HV.out]; rfl, rfl⟩
        · have HV := Lib.hid (show firmF firm clss = 2 by rw [HF.out, HE.out (by rw [HNE.out, h1]; rfl)]; rfl)
          go_wp2_with fail
          go_ret
          exact ⟨by rw [HV.out]; rfl, rfl⟩
      · have HV := Lib.hid (show firmF firm clss = 0 by
          have h := hno.out
          rw [take_all firm q (by rw [HL.out]; omega)] at h
          rw [HF.out, h]; rfl)
        go_wp2_with fail
        go_ret
        exact ⟨by rw [HV.out]; rfl, rfl⟩
def wallF (who : Int) (firm clss : List Int) (k : Nat) : Int := if who < 1 ∨ 5 < who ∨ 30 < k then 1 else firmF firm clss
theorem walled_any (who : Int) (A : Option Addr) (len c : Nat) (firm : List Int) (A2 : Option Addr) (m c2 : Nat) (clss : List Int) (k : Nat) (w : World) (hs : SlI w A len firm) (hc : SlI w A2 m clss) :
    Calls Try.prog 35 #[.int .i64 who, .slice A len c, .slice A2 m c2, .int .i64 k] w fun e w' => e = .returned (.bool (wallF who firm clss k == 0)) ∧ w = w' := by
  by_cases hbad : who < 1 ∨ 5 < who ∨ 30 < k
  · have HF := Lib.hid (show (wallF who firm clss k == 0) = false by unfold wallF; rw [if_pos hbad]; rfl)
    by_cases h1 : who < 1
    · have d1 : decide (1 ≤ who) = false := by simp; omega
      clear hbad h1
      go_enter Try.func35, Try.ntmps35
      go_wp2
      go_ret
      exact ⟨by rw [HF.out]; rfl, rfl⟩
    · have d1 : decide (1 ≤ who) = true := by simp; omega
      by_cases h2 : 5 < who
      · have d2 : decide (who ≤ 5) = false := by simp; omega
        clear hbad h1 h2
        go_enter Try.func35, Try.ntmps35
        go_wp2
        go_ret
        exact ⟨by rw [HF.out]; rfl, rfl⟩
      · have d2 : decide (who ≤ 5) = true := by simp; omega
        have d3 : decide ((k : Int) ≤ 30) = false := by simp; omega
        clear hbad h1 h2
        go_enter Try.func35, Try.ntmps35
        go_wp2
        go_ret
        exact ⟨by rw [HF.out]; rfl, rfl⟩
  · have HF := Lib.hid (show wallF who firm clss k = firmF firm clss by unfold wallF; rw [if_neg hbad])
    have d1 : decide (1 ≤ who) = true := by simp; omega
    have d2 : decide (who ≤ 5) = true := by simp; omega
    have d3 : decide ((k : Int) ≤ 30) = true := by simp; omega
    clear hbad
    go_enter Try.func35, Try.ntmps35
    go_wp2_with fail
    refine (firmsCheck_any A len c firm A2 m c2 clss _ hs hc).mono ?_
    rintro e w1 ⟨rfl, rfl⟩
    go_wp2_with fail
    go_ret
    exact ⟨by rw [HF.out]; rfl, rfl⟩
end Go.Proofs.Ytnnddjanbfamkaa
