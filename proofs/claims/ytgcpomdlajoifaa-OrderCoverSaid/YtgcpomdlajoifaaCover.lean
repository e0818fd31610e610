/- The walk of order.Covers. -/
import Derived.Test.YtgcpomdlajoifaaLine
import Derived.Test.YtgcpomdlajoifaaCoverP
import Derived.BigQuiet
namespace Go.Proofs.Ytgcpomdlajoifaa
open Go Go.RowKit
set_option linter.unusedVariables false

theorem info_pr2 : (Try.prog.info? 31).map (fun i => (i.zero, i.size, i.bytes)) = some (some (.agg #[.int .i64 0, .int .i64 0]), 2, 16) := by kernel_rfl
theorem one_pr2 (a b : Int) : ∀ u ∈ (#[Value.int .i64 a, Value.int .i64 b] : Array Value).toList, u.oneCell' = true := fun u hu => by
  simp at hu
  rcases hu with rfl | rfl <;> rfl
theorem above_bit {n i k : Nat} (ps : List Pr) (hn : n ≤ 32) (hi : i < n) (hk : k < n) : (nth (upL n ps) i &&& ~~~(1#32 <<< i)).getLsbD k = (under ps i k && k != i) := by
  rw [BitVec.getLsbD_and, BitVec.getLsbD_not, getLsbD_bit, upL_at ps hn hi hk]
  have h32 : k < 32 := by omega
  by_cases h : i = k
  · subst h
    simp [h32]
  · have h' : ¬ k = i := fun e => h e.symm
    simp [h32, h, h']
/-- what Covers hands back -/
def RetCov (w : World) (n : Int) (ps : List Pr) (e : Ending) (w' : World) : Prop :=
  Kept w w' ∧ ((ordF n ps = 0 ∧ ∃ A c, e = .returned (.tuple #[.slice A (covL ps n.toNat).length c, .int .i64 0]) ∧ SlP w' A (covL ps n.toNat).length (covL ps n.toNat)) ∨
    ((ordF n ps != 0) = true ∧ e = .returned (.tuple #[.slice none 0 0, .int .i64 (ordF n ps)])))

set_option maxHeartbeats 2000000 in
theorem covers_any (n : Int) (A : Option Addr) (len c : Nat) (ps : List Pr) (w : World) (hp : SlP w A len ps) :
    Calls Try.prog 20 #[.int .i64 n, .slice A len c] w (RetCov w n ps) := by
  by_cases hc : ordF n ps = 0
  · obtain ⟨⟨hn1, hn6, hlen⟩, hrng, hanti⟩ := ordF_zero hc
    obtain ⟨nn, rfl⟩ := Int.eq_ofNat_of_zero_le (show 0 ≤ n by omega)
    have hn32 : nn ≤ 32 := by omega
    have HC := Lib.hid hc
    clear hc hrng hanti hlen
    go_enter Try.func20, Try.ntmps20
    go_wp2_with fail
    refine (table_any nn _ _ _ ps _ hp).mono ?_
    rintro e w1 ⟨k1, ⟨_, A1, c1, rfl, hup⟩ | ⟨hne, _⟩⟩
    case inr => rw [HC.out] at hne; cases hne
    rw [Int.toNat_natCast] at hup
    obtain ⟨b1, o1, rfl, hb1, hcell⟩ := hup.open_ (by omega)
    have HCELL := Lib.hid hcell
    clear hup hcell
    go_wp2_with fail
    go_loopw [8, 25] (fun l t wr => ∃ i : Nat, i ≤ nn ∧ t = .int .i64 i ∧ Own w1 wr 31 2 l (covTo ps nn i).length (prCells (covTo ps nn i))) (fun _ t _ => nn - (intOf t).toNat)
    case atStart => exact ⟨0, Nat.zero_le _, rfl, Own.start (Kept.refl _)⟩
    case round =>
      obtain ⟨i, hi, rfl, hown⟩ := hrel
      by_cases hlt : i < nn
      · have hi1 : (0 : Int) ≤ (i : Int) := by omega
        have hi2 : (i : Int) < (nn : Int) := by omega
        go_wp2_with fail
        go_loopw [8, 30] (fun l t wr => ∃ j : Nat, j ≤ nn ∧ t = .int .i64 j ∧ Own w1 wr 31 2 l (covTo ps nn i ++ covRow ps nn i j).length (prCells (covTo ps nn i ++ covRow ps nn i j))) (fun _ t _ => nn - (intOf t).toNat)
        case atStart => exact ⟨0, Nat.zero_le _, rfl, by simpa [covRow] using hown⟩
        case round =>
          obtain ⟨j, hj, rfl, hown⟩ := hrel
          by_cases hlt2 : j < nn
          · have ci := (hown.2.cell (p := ⟨b1, o1 + i, none⟩) hb1).trans (HCELL.out i hlt)
            have HAB := Lib.hid (fun k hk => above_bit ps hn32 hlt (k := k) hk)
            have hbj := above_bit ps hn32 hlt hlt2
            have HS := Lib.hid (covRow_succ ps nn i j)
            have HCB := Lib.hid (show covB ps nn i j = ((under ps i j && j != i) && !betwTo ps i j nn) from rfl)
            have hL : (covTo ps nn i ++ covRow ps nn i j).length ≤ 100 := by
              have a := covTo_len ps nn i
              have b := covRow_len ps nn i j
              have c : i * nn ≤ 6 * 6 := Nat.mul_le_mul (by omega) (by omega)
              rw [List.length_append]
              omega
            have hj1 : (0 : Int) ≤ (j : Int) := by omega
            have hj2 : (j : Int) < (nn : Int) := by omega
            generalize nth (upL nn ps) i = x at ci HAB hbj
            go_wp2_with fail
            go_quiet (fail)
            have hown := hown.kept ((Kept.refl wr).drewN nq)
            generalize wr.drewN nq = wq at hown
            generalize x &&& ~~~(1#32 <<< i) = y at HAB hbj
            cases hyj : y.getLsbD j
            · have HB := Lib.hid (hbj.symm.trans hyj)
              clear hbj
              go_wp2_with fail
              go_roundw
              case rel => exact ⟨j + 1, by omega, by go_num, by rw [HS.out, HCB.out, HB.out]; simpa using hown⟩
              case measure => simp [intOf]; omega
            · have HB := Lib.hid (hbj.symm.trans hyj)
              clear hbj
              go_wp2_with fail
              clear hyj
              go_loopw [12, 47] (fun b t wr => ∃ k : Nat, k ≤ nn ∧ t = .int .i64 k ∧ b = .bool (betwTo ps i j k) ∧ wq = wr) (fun _ t _ => nn - (intOf t).toNat)
              case atStart => exact ⟨0, Nat.zero_le _, rfl, rfl, rfl⟩
              case round =>
                obtain ⟨k, hk, rfl, rfl, rfl⟩ := hrel
                by_cases hlt3 : k < nn
                · have ck := (hown.2.cell (p := ⟨b1, o1 + k, none⟩) hb1).trans (HCELL.out k hlt3)
                  have hbk := upL_at ps hn32 hlt3 hlt2
                  have hyk := HAB.out k hlt3
                  have HT := Lib.hid (betwTo_succ ps i j k)
                  have HW := Lib.hid (show betw ps i j k = (k != j && (under ps i k && k != i) && under ps k j) from rfl)
                  rw [← hyk] at HW
                  rw [← hbk] at HW
                  generalize nth (upL nn ps) k = z at ck hbk HW
                  have hk1 : (0 : Int) ≤ (k : Int) := by omega
                  have hk2 : (k : Int) < (nn : Int) := by omega
                  clear hbk hyk
                  cases hbt : betwTo ps i j k
                  · have HBT := Lib.hid hbt
                    clear hbt
                    by_cases hkj : k = j
                    · have d1 : ((k : Int) != (j : Int)) = false := by simp [hkj]
                      have HKJ := Lib.hid (show (k != j) = false by simp [hkj])
                      clear hkj
                      go_wp2_with fail
                      go_roundw
                      case rel => exact ⟨k + 1, by omega, by go_num, by rw [HT.out, HBT.out, HW.out, HKJ.out]; rfl, trivial⟩
                      case measure => simp [intOf]; omega
                    · have d1 : ((k : Int) != (j : Int)) = true := by simp; omega
                      have HKJ := Lib.hid (show (k != j) = true by simp [hkj])
                      clear hkj
                      cases hy : y.getLsbD k
                      · have HY := Lib.hid hy
                        go_wp2_with fail
                        go_roundw
                        case rel => exact ⟨k + 1, by omega, by go_num, by rw [HT.out, HBT.out, HW.out, HKJ.out, HY.out]; rfl, trivial⟩
                        case measure => simp [intOf]; omega
                      · have HY := Lib.hid hy
                        cases hz : z.getLsbD j
                        all_goals
                          have HZ := Lib.hid hz
                          go_wp2_with fail
                          go_roundw
                          case rel => exact ⟨k + 1, by omega, by go_num, by rw [HT.out, HBT.out, HW.out, HKJ.out, HY.out, HZ.out]; rfl, trivial⟩
                          case measure => simp [intOf]; omega
                  · have HBT := Lib.hid hbt
                    go_wp2_with fail
                    go_roundw
                    case rel => exact ⟨k + 1, by omega, by go_num, by rw [HT.out, HBT.out]; rfl, trivial⟩
                    case measure => simp [intOf]; omega
                · have HK := Lib.hid (show k = nn by omega)
                  cases hbt : betwTo ps i j k
                  · have HBT := Lib.hid (show betwTo ps i j nn = false by rw [← HK.out]; exact hbt)
                    have HCV := Lib.hid (show covB ps nn i j = true by rw [HCB.out, HB.out, HBT.out]; rfl)
                    go_wp2_with (at_builtin; refine wpList_push rfl _ _ 22 rfl 31 Try.underlying22 info_pr2 rfl (by decide) (by decide) _ _ _ _ hown #[.int .i64 i, .int .i64 j] _ _ 1 1 rfl rfl rfl rfl (one_pr2 _ _) (by omega) ?_; intro v' w7 hown7 _)
                    go_roundw
                    case rel => exact ⟨j + 1, by omega, by go_num, by rw [HS.out, HCV.out, ← List.append_assoc, if_pos rfl, prCells_snoc, List.length_append]; simpa using hown7⟩
                    case measure => simp [intOf]; omega
                  · have HBT := Lib.hid (show betwTo ps i j nn = true by rw [← HK.out]; exact hbt)
                    have HCV := Lib.hid (show covB ps nn i j = false by rw [HCB.out, HB.out, HBT.out]; rfl)
                    go_wp2_with fail
                    go_roundw
                    case rel => exact ⟨j + 1, by omega, by go_num, by rw [HS.out, HCV.out]; simpa using hown⟩
                    case measure => simp [intOf]; omega
          · have HJ := Lib.hid (show j = nn by omega)
            go_wp2_with fail
            go_roundw
            case rel => exact ⟨i + 1, by omega, by go_num, by have h := hown; rw [HJ.out] at h; rw [covTo_succ]; exact h⟩
            case measure => simp [intOf]; omega
      · have HI := Lib.hid (show i = nn by omega)
        obtain ⟨A2, c2, rfl, hsl, _⟩ := hown.form
        rw [HI.out] at hsl
        have FIN := Lib.hid (show RetCov w nn ps (.returned (.tuple #[.slice A2 (covTo ps nn nn).length c2, .int .i64 0])) wr from ⟨k1.trans hown.2, .inl ⟨HC.out, A2, c2, rfl, ⟨hsl, rfl⟩⟩⟩)
        rw [HI.out]
        go_wp2_with fail
        go_ret2
        exact FIN.out
  · have hne : (ordF n ps != 0) = true := by simpa using hc
    go_enter Try.func20, Try.ntmps20
    go_wp2_with fail
    refine (table_any n _ _ _ ps _ hp).mono ?_
    rintro e w1 ⟨k1, ⟨h0, _⟩ | ⟨_, rfl⟩⟩
    · exact absurd h0 hc
    have FIN := Lib.hid (show RetCov w n ps (.returned (.tuple #[.slice none 0 0, .int .i64 (ordF n ps)])) w1 from ⟨k1, .inr ⟨hne, rfl⟩⟩)
    clear hc
    go_wp2_with fail
    go_ret2
    exact FIN.out
end Go.Proofs.Ytgcpomdlajoifaa
