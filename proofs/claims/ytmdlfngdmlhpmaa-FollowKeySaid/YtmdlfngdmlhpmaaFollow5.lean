/- The walks of package follow: Closed. -/
import Derived.Test.YtmdlfngdmlhpmaaFollow3
import Derived.Test.YtmdlfngdmlhpmaaSeat
namespace Go.Proofs.Ytmdlfngdmlhpmaa
open Go Go.RowKit

def closedList (n : Nat) (rs : List Ru) : List (BitVec 32) := (words n).filter (isClosed rs)
theorem closeF_beq (rs : List Ru) (s : BitVec 32) : (closeF rs s == s) = isClosed rs s := by
  rw [Bool.eq_iff_iff, beq_iff_eq]
  constructor
  · intro h
    have := (closeF_spec rs s).2.1
    rw [h] at this
    exact this
  · exact closeF_of_closed

set_option maxHeartbeats 400000 in
theorem allClosed_ok (n : Nat) (A : Option Addr) (len c : Nat) (rs : List Ru) (w : World) (hr : SlR w A len rs) (hc : checkF n rs [] = 0) :
    Calls Try.prog 17 #[.int .i64 n, .slice A len c] w (RetWords w (closedList n rs)) := by
  have hlen : len ≤ 10 := by rw [← hr.2]; exact (checkF_zero hc).2.2.1
  have hn6 : n ≤ 6 := by have := (checkF_zero hc).2.1; omega
  have hp := pow_le n hn6
  have HC := Lib.hid hc
  clear hc
  go_enter Try.func17, Try.ntmps17
  go_wp2_with fail
  refine (check_any _ _ _ _ rs _ _ _ [] _ hr (SlW.nil_ _ _) (by omega)).mono ?_
  rintro e w1 ⟨rfl, hk⟩
  rw [HC.out]
  go_wp2_with fail
  go_loopw [7, 17] (fun l i wr => ∃ k : Nat, k ≤ 2 ^ n ∧ i = .int .u32 (W (BitVec.ofNat 32 k)) ∧ Own w wr 23 1 l (((words n).take k).filter (isClosed rs)).length ((((words n).take k).filter (isClosed rs)).map wv)) (fun _ i _ => 2 ^ n - (intOf i).toNat)
  case atStart => exact ⟨0, Nat.zero_le _, rfl, Own.start hk⟩
  case round =>
    obtain ⟨k, hkn, rfl, hown⟩ := hrel
    by_cases hlt : k < 2 ^ n
    · have hy := word_yes (by omega) hlt
      have hkl : k < (words n).length := by rw [words_length]; exact hlt
      have hle := len_filter_le (isClosed rs) (words n) k
      have HS := Lib.hid (filter_snoc (isClosed rs) (words n) k hkl)
      have HW := Lib.hid (words_at hkl)
      have HO := hown
      clear hown
      go_wp2_with fail
      refine (closed_any _ _ _ rs _ _ (hr.kept HO.2) (by omega)).mono ?_
      rintro e w2 ⟨rfl, hk2⟩
      cases hb : isClosed rs (BitVec.ofNat 32 k)
      · have HB := Lib.hid hb
        have hb2 := (closeF_beq rs (BitVec.ofNat 32 k)).trans hb
        clear hb
        go_wp2_with fail
        go_roundw
        case rel => exact ⟨k + 1, by omega, by rw [word_succ], by rw [HS.out, HW.out, HB.out]; simpa using HO.kept hk2⟩
        case measure => simp only [intOf]; rw [word_succ]; exact word_meas (by omega) hlt
      · have HB := Lib.hid hb
        have hb2 := (closeF_beq rs (BitVec.ofNat 32 k)).trans hb
        clear hb
        go_wp2_with (at_builtin; refine wpList_push rfl _ _ 36 rfl 23 Try.underlying36 info_u32 rfl (by decide) (by decide) _ _ _ _ (HO.kept hk2) #[.int .u32 (W (BitVec.ofNat 32 k))] _ _ 1 1 rfl rfl rfl rfl (one_u32 _) (by omega) ?_; intro v' w3 hown3 _)
        go_roundw
        case rel => exact ⟨k + 1, by omega, by rw [word_succ], by rw [HS.out, HW.out, HB.out]; simpa [wv] using hown3⟩
        case measure => simp only [intOf]; rw [word_succ]; exact word_meas (by omega) hlt
    · have hkk : k = 2 ^ n := by omega
      have hy := word_no (by omega) hkk
      have HK := Lib.hid (take_all (words n) k (by rw [words_length]; omega))
      clear hkk
      go_wp2_with fail
      go_ret2
      rw [HK.out] at hown
      exact RetWords.mk hown
theorem allClosed_no (n : Int) (A : Option Addr) (len c : Nat) (rs : List Ru) (w : World) (hr : SlR w A len rs) (hc : (checkF n rs [] != 0) = true) :
    Calls Try.prog 17 #[.int .i64 n, .slice A len c] w fun e w' => e = .returned (.tuple #[.slice none 0 0, .int .i64 (checkF n rs [])]) ∧ Kept w w' := by
  go_enter Try.func17, Try.ntmps17
  go_wp2_with fail
  refine (check_any _ _ _ _ rs _ _ _ [] _ hr (SlW.nil_ _ _) (by omega)).mono ?_
  rintro e w1 ⟨rfl, hk⟩
  go_wp2_with fail
  go_ret2
  exact ⟨rfl, hk⟩
end Go.Proofs.Ytmdlfngdmlhpmaa
