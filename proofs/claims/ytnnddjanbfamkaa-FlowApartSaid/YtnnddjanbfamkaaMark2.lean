/- The statements' MarkCheck and marked. -/
import Derived.Test.YtnnddjanbfamkaaMark1
namespace Go.Proofs.Ytnnddjanbfamkaa
open Go Go.RowKit
set_option linter.unusedVariables false

set_option maxHeartbeats 4000000 in
theorem markCheck_any (A1 : Option Addr) (n1 c1 : Nat) (clear : List Lab) (A2 : Option Addr) (n2 c2 : Nat) (things : List Lab) (k : Nat) (w : World) (s1 : SlLab w A1 n1 clear) (s2 : SlLab w A2 n2 things) :
    Calls Try.prog 46 #[.slice A1 n1 c1, .slice A2 n2 c2, .int .i64 k] w fun e w' => e = .returned (.int .i64 (marksF clear things k)) ∧ Kept w w' := by
  have hl1 := s1.2
  have hl2 := s2.2
  by_cases hbad : n1 < 1 ∨ 5 < n1 ∨ 8 < n2 ∨ 30 < k
  · have HF := Lib.hid (show marksF clear things k = 1 by unfold marksF; rw [if_pos (by rw [hl1, hl2]; exact hbad)])
    clear s1 s2 hl1 hl2
    rcases guardsM hbad with d1 | ⟨d1, d2⟩ | ⟨d1, d2, d3⟩ | ⟨d1, d2, d3, d4⟩
    all_goals
      clear hbad
      go_enter Try.func46, Try.ntmps46
      go_wp2
      go_ret
      exact ⟨by rw [HF.out]; rfl, Kept.refl _⟩
  · have d1 : decide ((n1 : Int) < 1) = false := by simp; omega
    have d2 : decide (5 < (n1 : Int)) = false := by simp; omega
    have d3 : decide (8 < (n2 : Int)) = false := by simp; omega
    have d4 : decide (30 < (k : Int)) = false := by simp; omega
    have HF := Lib.hid (show marksF clear things k = if (clear ++ things).any badL then 4 else 0 by unfold marksF; rw [if_neg (by rw [hl1, hl2]; exact hbad)])
    have hka : Kept w (w.alloc (.cells #[.slice A1 n1 c1, .slice A2 n2 c2] 36)) := (Kept.refl _).alloc _
    have bx := Box.new w #[.slice A1 n1 c1, .slice A2 n2 c2] 36 w.heap.size rfl
    have HPART := Lib.hid (show ∀ q, q < 2 → ∃ (Ax : Option Addr) (nx cx : Nat) (lx : List Lab), (w.alloc (.cells #[.slice A1 n1 c1, .slice A2 n2 c2] 36)).cell? ⟨w.heap.size, q, none⟩ = some (.slice Ax nx cx) ∧ SlLab w Ax nx lx ∧ nx ≤ 8 ∧ (lx.any badL = true → marksF clear things k = 4) ∧ ((q = 0 → lx = clear) ∧ (q = 1 → lx = things)) from fun q hq => by
      have h01 : q = 0 ∨ q = 1 := by omega
      rcases h01 with rfl | rfl
      · exact ⟨A1, n1, c1, clear, bx.at_ 0 rfl, s1, by omega, fun h => by rw [HF.out, List.any_append, h]; rfl, (fun _ => rfl), (fun h => by cases h)⟩
      · exact ⟨A2, n2, c2, things, bx.at_ 1 rfl, s2, by omega, fun h => by rw [HF.out, List.any_append, h, Bool.or_true]; rfl, (fun h => by cases h), (fun _ => rfl)⟩)
    have hsz : w.heap.size < (w.alloc (.cells #[.slice A1 n1 c1, .slice A2 n2 c2] 36)).heap.size := bx.1
    have HSZ := Lib.hid hsz
    have HKA := Lib.hid hka
    clear hbad bx hl1 hl2 hsz hka s1 s2
    go_enter Try.func46, Try.ntmps46
    go_wp2_with fail
    go_loopw [32] (fun t wr => ∃ q : Nat, q ≤ 2 ∧ t = .int .i64 q ∧ Kept (w.alloc (.cells #[.slice A1 n1 c1, .slice A2 n2 c2] 36)) wr ∧ Hid ((1 ≤ q → clear.any badL = false) ∧ (2 ≤ q → things.any badL = false))) (fun t _ => 2 - (intOf t).toNat)
    case atStart => exact ⟨0, Nat.zero_le _, rfl, Kept.refl _, Lib.hid ⟨fun h => by omega, fun h => by omega⟩⟩
    case round =>
      obtain ⟨q, hq, rfl, kq, HNO⟩ := hrel
      by_cases hlt : q < 2
      · obtain ⟨Ax, nx, cx, lx, hcell, hsx, hnx, hb4, hwho⟩ := HPART.out q hlt
        have xq := (kq.cell (p := ⟨w.heap.size, q, none⟩) HSZ.out).trans hcell
        have HB4 := Lib.hid hb4
        have HWHO := Lib.hid hwho
        have hi1 : (0 : Int) ≤ (q : Int) := by omega
        have hi2 : (q : Int) < 2 := by omega
        clear hcell hb4 hwho
        go_wp2_with fail
        go_loopw [38] (fun t wr => ∃ j : Nat, j ≤ nx ∧ t = .int .i64 j ∧ Kept (w.alloc (.cells #[.slice A1 n1 c1, .slice A2 n2 c2] 36)) wr ∧ Hid ((lx.take j).any badL = false)) (fun t _ => nx - (intOf t).toNat)
        case atStart => exact ⟨0, Nat.zero_le _, rfl, kq, Lib.hid rfl⟩
        case round =>
          clear kq xq
          obtain ⟨j, hj, rfl, kj, HNJ⟩ := hrel
          by_cases hltj : j < nx
          · obtain ⟨b, off, hk, rfl, _, x0, x1⟩ := (hsx.kept (HKA.out.trans kj)).get j hltj
            have HS := Lib.hid (any_snoc badL lx j hk)
            have HE := Lib.hid (show badL lx[j] = true → lx.any badL = true from fun h => List.any_eq_true.2 ⟨_, List.getElem_mem hk, h⟩)
            generalize lx[j] = x at x0 x1 HS HE
            obtain ⟨lv, pt⟩ := x
            simp only at x0 x1
            have hj1 : (0 : Int) ≤ (j : Int) := by omega
            have hj2 : (j : Int) < (nx : Int) := by omega
            have hkb : Kept wr (wr.alloc (.cells #[.int .i64 lv, .int .u32 (W pt)] 24)) := (Kept.refl _).alloc _
            have bx := Box.new wr #[.int .i64 lv, .int .u32 (W pt)] 24 wr.heap.size rfl
            have y0 := bx.at_ 0 rfl
            have y1 := bx.at_ 1 rfl
            have HCK := Lib.hid (fun w => refLabCheck_any lv pt w)
            cases hb : badL (lv, pt)
            · have HB := Lib.hid hb
              rw [labF_bad hb] at HCK
              clear bx
              go_wp2_with fail
              refine (HCK.out _).mono ?_
              rintro e w3 ⟨rfl, k3⟩
              go_wp2_with fail
              go_roundw
              case rel => exact ⟨j + 1, by omega, by go_num, (kj.trans hkb).trans k3, Lib.hid (by rw [HS.out, HNJ.out, HB.out]; rfl)⟩
              case measure => simp [intOf]; omega
            · have HV := Lib.hid (HB4.out (HE.out hb))
              rw [labF_bad hb] at HCK
              clear bx
              go_wp2_with fail
              refine (HCK.out _).mono ?_
              rintro e w3 ⟨rfl, k3⟩
              go_wp2_with fail
              go_ret
              exact ⟨by rw [HV.out]; rfl, HKA.out.trans ((kj.trans hkb).trans k3)⟩
          · have HALL := Lib.hid (show lx.any badL = false by
              have h := HNJ.out
              rwa [take_all lx j (by rw [hsx.2]; omega)] at h)
            go_wp2_with fail
            go_roundw
            case rel => exact ⟨q + 1, by omega, by go_num, kj, Lib.hid ⟨fun _ => by
              by_cases h0 : q = 0
              · rw [← HWHO.out.1 h0]; exact HALL.out
              · exact HNO.out.1 (by omega), fun h2 => by rw [← HWHO.out.2 (by omega)]; exact HALL.out⟩⟩
            case measure => simp [intOf]; omega
      · obtain rfl : q = 2 := by omega
        have HV := Lib.hid (show marksF clear things k = 0 by rw [HF.out, List.any_append, HNO.out.1 (by omega), HNO.out.2 (by omega)]; rfl)
        go_wp2_with fail
        go_ret
        exact ⟨by rw [HV.out]; rfl, HKA.out.trans kq⟩
theorem marked_any (A1 : Option Addr) (n1 c1 : Nat) (clear : List Lab) (A2 : Option Addr) (n2 c2 : Nat) (things : List Lab) (k : Nat) (w : World) (s1 : SlLab w A1 n1 clear) (s2 : SlLab w A2 n2 things) :
    Calls Try.prog 20 #[.slice A1 n1 c1, .slice A2 n2 c2, .int .i64 k] w fun e w' => e = .returned (.bool (marksF clear things k == 0)) ∧ Kept w w' := by
  go_enter Try.func20, Try.ntmps20
  go_wp2_with fail
  refine (markCheck_any A1 n1 c1 clear A2 n2 c2 things k _ s1 s2).mono ?_
  rintro e w1 ⟨rfl, k1⟩
  go_wp2_with fail
  go_ret
  exact ⟨rfl, k1⟩
end Go.Proofs.Ytnnddjanbfamkaa
