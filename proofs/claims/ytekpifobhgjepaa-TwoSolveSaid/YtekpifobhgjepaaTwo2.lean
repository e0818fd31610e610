/- Two.Reach, and the statements' side: TwoCheck. -/
import Derived.Test.YtekpifobhgjepaaTwo
import Derived.Test.YtekpifobhgjepaaHorn2
namespace Go.Proofs.Ytekpifobhgjepaa
open Go Go.RowKit
set_option linter.unusedVariables false

theorem reach2_any (n : Int) (A : Option Addr) (len c : Nat) (rs : List Ru) (w : World) (hp : SlR w A len rs) :
    Calls Try.prog 21 #[.int .i64 n, .slice A len c] w (RetTwo w n rs) := by
  go_enter Try.func21, Try.ntmps21
  go_wp2_with fail
  refine (reach_any n A len c rs _ hp).mono ?_
  rintro e w1 ⟨k1, ⟨h0, A1, c1, rfl, hs⟩ | ⟨h0, rfl⟩⟩
  · have FIN := Lib.hid (show RetTwo w n rs (.returned (.tuple #[.slice A1 (2 * n.toNat) c1, .int .i64 0])) w1 from ⟨k1, .inl ⟨h0, A1, c1, rfl, hs⟩⟩)
    go_wp2_with fail
    go_ret2
    exact FIN.out
  · have FIN := Lib.hid (show RetTwo w n rs (.returned (.tuple #[.slice none 0 0, .int .i64 (twoF n rs)])) w1 from ⟨k1, .inr ⟨h0, rfl⟩⟩)
    go_wp2_with fail
    go_ret2
    exact FIN.out
/-- the check behind k clauses -/
def twoK (n : Int) (rs : List Ru) (k : Nat) : Int := if satF n rs ≠ 0 then satF n rs else if (rs.take k).any (oddB n.toNat) then 3 else 0
theorem twoK_end {n : Int} {rs : List Ru} {k : Nat} (h : rs.length ≤ k) : twoK n rs k = twoF n rs := by
  unfold twoK twoF
  rw [take_all rs k h]
theorem twoK_bad {n : Int} {rs : List Ru} (h : satF n rs ≠ 0) (k : Nat) : twoK n rs k = satF n rs := by
  unfold twoK
  rw [if_pos h]
theorem twoK_same {n : Int} {rs : List Ru} {k : Nat} (hk : k < rs.length) (h : satF n rs ≠ 0 ∨ oddB n.toNat rs[k] = false) : twoK n rs (k + 1) = twoK n rs k := by
  unfold twoK
  rcases h with h | h
  · rw [if_pos h, if_pos h]
  · rw [any_snoc _ rs k hk, h, Bool.or_false]
theorem twoK_three {n : Int} {rs : List Ru} {k : Nat} (hk : k < rs.length) (h0 : satF n rs = 0) (h : oddB n.toNat rs[k] = true) : twoK n rs (k + 1) = 3 := by
  unfold twoK
  rw [if_neg (by simpa using h0), any_snoc _ rs k hk, h, Bool.or_true]
  simp
theorem twoK_keep {n : Int} {rs : List Ru} {k : Nat} (hk : k < rs.length) (h : twoK n rs k ≠ 0) : twoK n rs (k + 1) = twoK n rs k := by
  by_cases h0 : satF n rs = 0
  · have hne : ¬ satF n rs ≠ 0 := by simpa using h0
    unfold twoK at h ⊢
    simp only [if_neg hne] at h ⊢
    rw [any_snoc _ rs k hk]
    cases h3 : (rs.take k).any (oddB n.toNat)
    · rw [h3] at h; exact absurd rfl h
    · rfl
  · rw [twoK_bad h0, twoK_bad h0]
theorem twoK_nil {n : Int} {rs : List Ru} : twoK n rs 0 = satF n rs := by
  unfold twoK
  by_cases h0 : satF n rs = 0
  · rw [if_neg (by simpa using h0), h0]; rfl
  · rw [if_pos h0]
theorem twoK_zero {n : Int} {rs : List Ru} {k : Nat} (h : twoK n rs k = 0) : satF n rs = 0 := by
  rcases Classical.em (satF n rs = 0) with h0 | h0
  · exact h0
  · rw [twoK_bad h0] at h; exact absurd h h0
theorem oddB_size {n : Int} {rs : List Ru} (h0 : satF n rs = 0) {k : Nat} (hk : k < rs.length) : oddB n.toNat rs[k] = (decide (sizeN rs[k].1 32 + sizeN rs[k].2 32 < 1) || decide (2 < sizeN rs[k].1 32 + sizeN rs[k].2 32)) := by
  obtain ⟨nn, rfl, h1, h6, hl, hok⟩ := satF_zero h0
  have := cnt_lit h6 (hok _ (List.getElem_mem hk))
  unfold oddB
  rw [Int.toNat_natCast, this]
  generalize sizeN rs[k].1 32 + sizeN rs[k].2 32 = z
  rw [Bool.eq_iff_iff]
  simp
set_option maxHeartbeats 1000000 in
theorem twoCheck_any (n : Int) (A : Option Addr) (len c : Nat) (rs : List Ru) (w : World) (hs : SlR w A len rs) (hl : len ≤ 9223372036854775807) :
    Calls Try.prog 22 #[.int .i64 n, .slice A len c] w fun e w' => e = .returned (.int .i64 (twoF n rs)) ∧ Kept w w' := by
  go_enter Try.func22, Try.ntmps22
  go_wp2_with fail
  refine (satCheck_any n A len c rs _ hs).mono ?_
  rintro e w1 ⟨rfl, k1⟩
  have H0 := Lib.hid (twoK_nil (n := n) (rs := rs))
  go_wp2_with fail
  go_loopw [5, 14] (fun v t wr => ∃ q : Nat, q ≤ len ∧ t = .int .i64 q ∧ v = .int .i64 (twoK n rs q) ∧ Kept w wr) (fun _ t _ => len - (intOf t).toNat)
  case atStart => exact ⟨0, Nat.zero_le _, rfl, by rw [H0.out], k1⟩
  case round =>
    obtain ⟨q, hq, rfl, rfl, hkw⟩ := hrel
    by_cases hlt : q < len
    · obtain ⟨b, off, hk, rfl, hb, c1, c2⟩ := (hs.kept hkw).get q hlt
      have HSAME := Lib.hid (twoK_same (n := n) hk)
      have HTHREE := Lib.hid (twoK_three (n := n) hk)
      have HSZ := Lib.hid (fun h => oddB_size (n := n) h hk)
      have HZERO := Lib.hid (fun h => twoK_zero (n := n) (rs := rs) (k := q) h)
      have HKEEP := Lib.hid (fun h => twoK_keep (n := n) hk h)
      generalize rs[q] = x at c1 c2 HSAME HTHREE HSZ
      obtain ⟨y, z⟩ := x
      simp only at c1 c2
      obtain ⟨v, hv⟩ : ∃ v : Int, twoK n rs q = v := ⟨_, rfl⟩
      rw [hv] at HSAME HZERO HKEEP
      rw [hv]
      have hi1 : (0 : Int) ≤ (q : Int) := by omega
      have hi2 : (q : Int) < (len : Int) := by omega
      have hka := hkw.alloc (.cells #[.int .u32 (W y), .int .u32 (W z)] 29)
      have bx := Box.new wr #[.int .u32 (W y), .int .u32 (W z)] 29 wr.heap.size rfl
      have e0 := bx.at_ 0 rfl
      have e1 := bx.at_ 1 rfl
      have q0 := kw_cell e0
      have q1 := kw_cell e1
      have HSZ2 : satF n rs = 0 → oddB n.toNat (y, z) = (decide (sizeN y 32 + sizeN z 32 < 1) || decide (2 < sizeN y 32 + sizeN z 32)) := fun h => HSZ.out h
      have b1 := sizeN_le y 32
      have b2 := sizeN_le z 32
      have HSZ := Lib.hid HSZ2
      clear HSZ2 hv bx
      go_wp2_with fail
      refine wp_region_kept (by kernel_rfl) (by kernel_rfl) ?_
      repeat (go_big_quiet_step ((go_at_call 17; exact kept_of_same (satSize_any _ _))))
      refine wpQuiet_nil ?_
      intro w4 k4
      generalize sizeN y 32 = s1 at b1 HSZ ⊢
      generalize sizeN z 32 = s2 at b2 HSZ ⊢
      have q4 := hka.trans k4
      by_cases hv0 : v = 0
      · subst hv0
        by_cases ho : s1 + s2 < 1 ∨ 2 < s1 + s2
        · have HN := Lib.hid (HTHREE.out (HZERO.out rfl) ((HSZ.out (HZERO.out rfl)).trans (by simpa using ho)))
          have hcs : decide ((s1 : Int) + (s2 : Int) < 1) = true ∨ (decide ((s1 : Int) + (s2 : Int) < 1) = false ∧ decide (2 < (s1 : Int) + (s2 : Int)) = true) := by
            simp only [decide_eq_true_eq, decide_eq_false_iff_not]
            omega
          rcases hcs with g1 | ⟨g1, g2⟩
          all_goals
            clear ho
            go_wp2_with fail
            go_roundw
            case rel => exact ⟨q + 1, by omega, by go_num, by rw [HN.out], q4⟩
            case measure => simp [intOf]; omega
        · have HN := Lib.hid (HSAME.out (.inr ((HSZ.out (HZERO.out rfl)).trans (by simpa using ho))))
          have g1 : decide ((s1 : Int) + (s2 : Int) < 1) = false := by simp only [decide_eq_false_iff_not]; omega
          have g2 : decide (2 < (s1 : Int) + (s2 : Int)) = false := by simp only [decide_eq_false_iff_not]; omega
          clear ho
          go_wp2_with fail
          go_roundw
          case rel => exact ⟨q + 1, by omega, by go_num, by rw [HN.out], q4⟩
          case measure => simp [intOf]; omega
      · have HN := Lib.hid (HKEEP.out hv0)
        have g0 : (v == 0) = false := by simpa using hv0
        clear hv0
        go_wp2_with fail
        go_roundw
        case rel => exact ⟨q + 1, by omega, by go_num, by rw [HN.out], q4⟩
        case measure => simp [intOf]; omega
    · have HK := Lib.hid (twoK_end (n := n) (rs := rs) (k := q) (by rw [hs.2]; omega))
      go_wp2_with fail
      go_ret
      exact ⟨by rw [HK.out]; rfl, hkw⟩
end Go.Proofs.Ytekpifobhgjepaa
