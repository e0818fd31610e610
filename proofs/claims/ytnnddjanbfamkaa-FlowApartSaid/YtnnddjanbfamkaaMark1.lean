/- What is wrong with labels: mark.Wrong, and the statements' MarkCheck and marked. -/
import Derived.Test.YtnnddjanbfamkaaConcat
namespace Go.Proofs.Ytnnddjanbfamkaa
open Go Go.RowKit
set_option linter.unusedVariables false

def badL (x : Lab) : Bool := !labOk x
def marksF (clear things : List Lab) (k : Nat) : Int := if clear.length < 1 ∨ 5 < clear.length ∨ 8 < things.length ∨ 30 < k then 1 else if (clear ++ things).any badL then 4 else 0
theorem labF_bad {x : Lab} {b : Bool} (h : badL x = b) : labF x = if b then 4 else 0 := by
  subst h
  unfold badL labF
  cases labOk x <;> rfl
theorem guardsM {a b k : Nat} (h : a < 1 ∨ 5 < a ∨ 8 < b ∨ 30 < k) : decide ((a : Int) < 1) = true ∨ (decide ((a : Int) < 1) = false ∧ decide (5 < (a : Int)) = true) ∨ (decide ((a : Int) < 1) = false ∧ decide (5 < (a : Int)) = false ∧ decide (8 < (b : Int)) = true) ∨ (decide ((a : Int) < 1) = false ∧ decide (5 < (a : Int)) = false ∧ decide (8 < (b : Int)) = false ∧ decide (30 < (k : Int)) = true) := by
  simp only [decide_eq_true_eq, decide_eq_false_iff_not]
  omega
set_option maxHeartbeats 2000000 in
theorem markWrong_any (A1 : Option Addr) (n1 c1 : Nat) (clear : List Lab) (A2 : Option Addr) (n2 c2 : Nat) (things : List Lab) (k : Nat) (w : World) (s1 : SlLab w A1 n1 clear) (s2 : SlLab w A2 n2 things) :
    Calls Try.prog 44 #[.slice A1 n1 c1, .slice A2 n2 c2, .int .i64 k] w fun e w' => e = .returned (.int .i64 (marksF clear things k)) ∧ Kept w w' := by
  have hl1 := s1.2
  have hl2 := s2.2
  by_cases hbad : n1 < 1 ∨ 5 < n1 ∨ 8 < n2 ∨ 30 < k
  · have HF := Lib.hid (show marksF clear things k = 1 by unfold marksF; rw [if_pos (by rw [hl1, hl2]; exact hbad)])
    clear s1 s2 hl1 hl2
    rcases guardsM hbad with d1 | ⟨d1, d2⟩ | ⟨d1, d2, d3⟩ | ⟨d1, d2, d3, d4⟩
    all_goals
      clear hbad
      go_enter Try.func44, Try.ntmps44
      go_wp2
      go_ret
      exact ⟨by rw [HF.out]; rfl, Kept.refl _⟩
  · have d1 : decide ((n1 : Int) < 1) = false := by simp; omega
    have d2 : decide (5 < (n1 : Int)) = false := by simp; omega
    have d3 : decide (8 < (n2 : Int)) = false := by simp; omega
    have d4 : decide (30 < (k : Int)) = false := by simp; omega
    have HF := Lib.hid (show marksF clear things k = if (clear ++ things).any badL then 4 else 0 by unfold marksF; rw [if_neg (by rw [hl1, hl2]; exact hbad)])
    have hka : Kept w (w.alloc (.cells #[.slice A1 n1 c1, .slice A2 n2 c2] 36)) := (Kept.refl _).alloc _
    have bx := Box.new w #[.slice A1 n1 c1, .slice A2 n2 c2] 36 w.heap.size rfl
    have HC := Lib.hid (concat_any w.heap.size A1 n1 c1 clear A2 n2 c2 things _ (bx.at_ 0 rfl) (bx.at_ 1 rfl) (s1.kept hka) (s2.kept hka) (by omega) (by omega))
    obtain ⟨n, hn⟩ : ∃ n, n1 + n2 = n := ⟨_, rfl⟩
    have hnb : n ≤ 13 := by omega
    rw [hn] at HC
    obtain ⟨ls, hls⟩ : ∃ ls, clear ++ things = ls := ⟨_, rfl⟩
    have HLL := Lib.hid (show ls.length = n by rw [← hls, List.length_append, hl1, hl2, hn])
    rw [hls] at HC HF
    clear hbad bx hl1 hl2 hls
    go_enter Try.func44, Try.ntmps44
    go_wp2_with fail
    refine HC.out.mono ?_
    rintro e w2 ⟨A, c, rfl, hown⟩
    have HSL := Lib.hid (show SlLab w2 A n ls from ⟨own_slL hown, HLL.out⟩)
    have HK := Lib.hid (hka.trans hown.kept0)
    clear hown hka
    go_wp2_with fail
    go_loopw [32] (fun t wr => ∃ q : Nat, q ≤ n ∧ t = .int .i64 q ∧ Kept w2 wr ∧ Hid ((ls.take q).any badL = false)) (fun t _ => n - (intOf t).toNat)
    case atStart => exact ⟨0, Nat.zero_le _, rfl, Kept.refl _, Lib.hid rfl⟩
    case round =>
      obtain ⟨q, hq, rfl, kq, HNO⟩ := hrel
      by_cases hlt : q < n
      · obtain ⟨b, off, hk, rfl, _, x0, x1⟩ := (HSL.out.kept kq).get q hlt
        have HS := Lib.hid (any_snoc badL ls q hk)
        have HE := Lib.hid (show badL ls[q] = true → ls.any badL = true from fun h => List.any_eq_true.2 ⟨_, List.getElem_mem hk, h⟩)
        generalize ls[q] = x at x0 x1 HS HE
        obtain ⟨lv, pt⟩ := x
        simp only at x0 x1
        have hi1 : (0 : Int) ≤ (q : Int) := by omega
        have hi2 : (q : Int) < (n : Int) := by omega
        have hkb : Kept wr (wr.alloc (.cells #[.int .i64 lv, .int .u32 (W pt)] 24)) := (Kept.refl _).alloc _
        have bx := Box.new wr #[.int .i64 lv, .int .u32 (W pt)] 24 wr.heap.size rfl
        have y0 := bx.at_ 0 rfl
        have y1 := bx.at_ 1 rfl
        have HCK := Lib.hid (fun w => labCheck_any lv pt w)
        cases hb : badL (lv, pt)
        · have HB := Lib.hid hb
          rw [labF_bad hb] at HCK
          clear bx
          go_wp2_with fail
          refine (HCK.out _).mono ?_
          rintro e w3 ⟨rfl, k3⟩
          go_wp2_with fail
          go_roundw
          case rel => exact ⟨q + 1, by omega, by go_num, (kq.trans hkb).trans k3, Lib.hid (by rw [HS.out, HNO.out, HB.out]; rfl)⟩
          case measure => simp [intOf]; omega
        · have HV := Lib.hid (show marksF clear things k = 4 by rw [HF.out, HE.out hb]; rfl)
          rw [labF_bad hb] at HCK
          clear bx
          go_wp2_with fail
          refine (HCK.out _).mono ?_
          rintro e w3 ⟨rfl, k3⟩
          go_wp2_with fail
          go_ret
          exact ⟨by rw [HV.out]; rfl, HK.out.trans ((kq.trans hkb).trans k3)⟩
      · have HV := Lib.hid (show marksF clear things k = 0 by
          have h := HNO.out
          rw [take_all ls q (by rw [HLL.out]; omega)] at h
          rw [HF.out, h]; rfl)
        go_wp2_with fail
        go_ret
        exact ⟨by rw [HV.out]; rfl, HK.out.trans kq⟩
end Go.Proofs.Ytnnddjanbfamkaa
