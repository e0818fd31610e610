/- The walks of what the statements ask of pages: Leaves, paged, Common. -/
import Derived.Test.YtjcooagchjjknaaPage2
namespace Go.Proofs.Ytjcooagchjjknaa
open Go Go.RowKit
set_option linter.unusedVariables false

set_option maxHeartbeats 400000 in
theorem leaves_same (A : Option Addr) (n c : Nat) (A2 : Option Addr) (c2 : Nat) (ls : List Lf) (w : World) (hx : SlL w A n ls) (hy : SlL w A2 n ls) (hn : n ≤ 1000) :
    Calls Try.prog 17 #[.slice A n c, .slice A2 n c2] w fun e w' => e = .returned (.bool true) ∧ Kept w w' := by
  have hb : ((n : Int) != (n : Int)) = false := by simp
  go_enter Try.func17, Try.ntmps17
  go_wp2_with fail
  clear hb
  go_loopw [5] (fun t wr => ∃ k : Nat, k ≤ n ∧ t = .int .i64 k ∧ Kept w wr) (fun t _ => n - (intOf t).toNat)
  case atStart => exact ⟨0, Nat.zero_le _, rfl, Kept.refl _⟩
  case round =>
    obtain ⟨k, hk, rfl, hkw⟩ := hrel
    by_cases hlt : k < n
    · obtain ⟨b1, o1, rfl, _, c0, c1, c2, c3⟩ := (hx.kept hkw).getN k hlt
      obtain ⟨b2, o2, rfl, _, d0, d1, d2, d3⟩ := (hy.kept hkw).getN k hlt
      generalize lfAt ls k = x at c0 c1 c2 c3 d0 d1 d2 d3
      obtain ⟨up, tx, lx, px⟩ := x
      simp only at c0 c1 c2 c3 d0 d1 d2 d3
      have hi1 : (0 : Int) ≤ (k : Int) := by omega
      have hi2 : (k : Int) < (n : Int) := by omega
      go_wp2_with fail
      go_quiet (fail)
      go_wp2_with fail
      go_roundw
      case rel => exact ⟨k + 1, by omega, by go_num, hkw.drewN nq⟩
      case measure => simp [intOf]; omega
    · go_wp2_with fail
      go_ret
      exact ⟨rfl, hkw⟩
def pagedB (ls : List Lf) (who : Lab) : Bool := pageF ls == 0 && labOk who
theorem paged_any (A : Option Addr) (n c : Nat) (ls : List Lf) (lv : Int) (pt : BitVec 32) (w : World) (hs : SlL w A n ls) (hn : n ≤ maxLen) :
    Calls Try.prog 14 #[.slice A n c, .agg #[.int .i64 lv, .int .u32 (W pt)]] w fun e w' => e = .returned (.bool (pagedB ls (lv, pt))) ∧ Kept w w' := by
  have hka : Kept w (w.alloc (.cells #[.int .i64 lv, .int .u32 (W pt)] 25)) := (Kept.refl _).alloc _
  have bx := Box.new w #[.int .i64 lv, .int .u32 (W pt)] 25 w.heap.size rfl
  go_enter Try.func14, Try.ntmps14
  go_wp2_with fail
  refine (refPageCheck_any _ _ _ ls _ (hs.kept hka) hn).mono ?_
  rintro e w1 ⟨rfl, k1⟩
  have bx1 := bx.kept k1
  have e0 := bx1.at_ 0 rfl
  have e1 := bx1.at_ 1 rfl
  clear bx
  by_cases hp : pageF ls = 0
  · cases hl : labOk (lv, pt)
    · have HV := Lib.hid (show pagedB ls (lv, pt) = false by unfold pagedB; rw [hp, hl]; rfl)
      have HL := Lib.hid hl
      rw [hp]
      clear hp hl
      go_wp2_with fail
      refine (refLabCheck_any lv pt _).mono ?_
      rintro e w2 ⟨rfl, k2⟩
      rw [labF_four HL.out]
      go_wp2_with fail
      go_ret
      exact ⟨by rw [HV.out]; rfl, (hka.trans k1).trans k2⟩
    · have HV := Lib.hid (show pagedB ls (lv, pt) = true by unfold pagedB; rw [hp, hl]; rfl)
      have HL := Lib.hid hl
      rw [hp]
      clear hp hl
      go_wp2_with fail
      refine (refLabCheck_any lv pt _).mono ?_
      rintro e w2 ⟨rfl, k2⟩
      rw [labF_zero HL.out]
      go_wp2_with fail
      go_ret
      exact ⟨by rw [HV.out]; rfl, (hka.trans k1).trans k2⟩
  · have hz : (pageF ls == 0) = false := by simpa using hp
    have HV := Lib.hid (show pagedB ls (lv, pt) = false by unfold pagedB; rw [hz]; rfl)
    clear hp
    go_wp2_with fail
    go_ret
    exact ⟨by rw [HV.out]; rfl, hka.trans k1⟩
theorem pagedB_iff {ls : List Lf} {who : Lab} : pagedB ls who = true ↔ pageF ls = 0 ∧ labOk who = true := by unfold pagedB; simp
theorem viewF_iff {ls : List Lf} {who : Lab} : viewF ls who = 0 ↔ pagedB ls who = true := by
  rw [pagedB_iff]
  unfold viewF
  by_cases h : pageF ls = 0
  · rw [if_neg (by simp [h])]
    unfold labF
    cases labOk who <;> simp [h]
  · rw [if_pos h]
    simp [h]
theorem common_any (l m : Int) (p q : BitVec 32) (w : World) : Calls Try.prog 16 #[.agg #[.int .i64 l, .int .u32 (W p)], .agg #[.int .i64 m, .int .u32 (W q)]] w fun e w' => e = .returned (.agg #[.int .i64 (min l m), .int .u32 (W (p &&& q))]) ∧ Kept w w' := by
  by_cases h : m < l
  · have d1 : decide (m < l) = true := by simpa using h
    rw [Int.min_eq_right (by omega)]
    go_enter Try.func16, Try.ntmps16
    go_wp2
    exact bodyPost_ret (v := .agg #[.int .i64 m, .int .u32 (W (p &&& q))]) (by simp [results, Try.results16, go_sem]) rfl ⟨rfl, (((Kept.refl _).alloc _).alloc _).alloc _⟩
  · have d1 : decide (m < l) = false := by simpa using h
    rw [Int.min_eq_left (by omega)]
    go_enter Try.func16, Try.ntmps16
    go_wp2
    exact bodyPost_ret (v := .agg #[.int .i64 l, .int .u32 (W (p &&& q))]) (by simp [results, Try.results16, go_sem]) rfl ⟨rfl, (((Kept.refl _).alloc _).alloc _).alloc _⟩
end Go.Proofs.Ytjcooagchjjknaa
