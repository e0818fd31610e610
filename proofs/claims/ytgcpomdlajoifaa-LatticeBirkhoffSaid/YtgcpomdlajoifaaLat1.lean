/- The walk of lattice.least; the first place of a range at which a test says yes. -/
import Derived.Test.YtgcpomdlajoifaaLatP
import Derived.Test.YtgcpomdlajoifaaTable2
import Derived.Test.YtgcpomdlajoifaaMat
import Derived.Test.YtgcpomdlajoifaaHold
import Derived.Maps.AppendAt
namespace Go.Proofs.Ytgcpomdlajoifaa
open Go Go.RowKit
set_option linter.unusedVariables false

theorem find_range_some {p : Nat → Bool} {n k : Nat} (hk : k < n) (h0 : ∀ j, j < k → p j = false) (h1 : p k = true) : (List.range n).find? p = some k := by
  have e : List.range n = List.range k ++ (k :: (List.range (n - k - 1)).map (fun i => k + 1 + i)) := by
    apply List.ext_getElem?
    intro i
    by_cases hi : i < k
    · rw [List.getElem?_append_left (by simpa using hi), List.getElem?_range hi, List.getElem?_range (by omega)]
    · rw [List.getElem?_append_right (by simp; omega), List.length_range]
      by_cases hin : i < n
      · rw [List.getElem?_range hin]
        rcases Nat.eq_or_lt_of_le (Nat.le_of_not_lt hi) with e | e
        · subst e; simp
        · obtain ⟨d, rfl⟩ : ∃ d, i = k + 1 + d := ⟨i - k - 1, by omega⟩
          rw [show k + 1 + d - k = d + 1 by omega, List.getElem?_cons_succ, List.getElem?_map, List.getElem?_range (by omega)]
          rfl
      · have h2 : (List.range n)[i]? = none := by simp; omega
        rw [h2]
        symm
        rw [List.getElem?_eq_none_iff]
        simp
        omega
  rw [e, List.find?_append]
  have h2 : (List.range k).find? p = none := by
    rw [List.find?_eq_none]
    intro j hj
    rw [List.mem_range] at hj
    simp [h0 j hj]
  rw [h2]
  simp [h1]
theorem find_range_none {p : Nat → Bool} {n : Nat} (h0 : ∀ j, j < n → p j = false) : (List.range n).find? p = none := by
  rw [List.find?_eq_none]
  intro j hj
  rw [List.mem_range] at hj
  simp [h0 j hj]
def leP (xs : List (BitVec 32)) (s : BitVec 32) (i : Nat) : Bool := s.getLsbD i && subB s (nth xs i)
theorem leastI_hit {xs : List (BitVec 32)} {s : BitVec 32} {k : Nat} (hk : k < xs.length) (h0 : ∀ j, j < k → leP xs s j = false) (h1 : leP xs s k = true) : leastI xs s = k := by
  unfold leastI leastO
  rw [show (fun i => s.getLsbD i && subB s (nth xs i)) = leP xs s from rfl, find_range_some hk h0 h1]
  rfl
theorem leastI_none {xs : List (BitVec 32)} {s : BitVec 32} (h0 : ∀ j, j < xs.length → leP xs s j = false) : leastI xs s = -1 := by
  unfold leastI leastO
  rw [show (fun i => s.getLsbD i && subB s (nth xs i)) = leP xs s from rfl, find_range_none h0]
  rfl
set_option maxHeartbeats 1000000 in
theorem least_any (A : Option Addr) (n c : Nat) (xs : List (BitVec 32)) (s : BitVec 32) (w : World) (hs : SlW w A n xs) (hn : n ≤ 30) :
    Calls Try.prog 63 #[.slice A n c, .int .u32 (W s)] w fun e w' => e = .returned (.int .i64 (leastI xs s)) ∧ w = w' := by
  have HL := Lib.hid hs.2
  go_enter Try.func63, Try.ntmps63
  go_wp2_with fail
  go_loop [9] (fun t => ∃ q : Nat, q ≤ n ∧ t = .int .i64 q ∧ Hid (∀ j, j < q → leP xs s j = false)) (fun t => n - (intOf t).toNat)
  case atStart => exact ⟨0, Nat.zero_le _, rfl, Lib.hid (fun j hj => absurd hj (Nat.not_lt_zero _))⟩
  case round =>
    obtain ⟨q, hq, rfl, HN⟩ := hrel
    by_cases hlt : q < n
    · obtain ⟨b, off, rfl, hb, cq⟩ := hs.getN q hlt
      have HS := Lib.hid (show leP xs s q = (s.getLsbD q && subB s (nth xs q)) from rfl)
      have HHIT := Lib.hid (fun h1 => leastI_hit (s := s) (by rw [HL.out]; exact hlt) HN.out h1)
      have hi1 : (0 : Int) ≤ (q : Int) := by omega
      have hi2 : (q : Int) < (n : Int) := by omega
      generalize nth xs q = x at cq HS
      have HNEXT := Lib.hid (fun (h : leP xs s q = false) => show ∀ j, j < q + 1 → leP xs s j = false from fun j hj => by
        by_cases e : j = q
        · subst e; exact h
        · exact HN.out j (by omega))
      cases hb1 : s.getLsbD q
      · have HB := Lib.hid hb1
        go_wp2_with fail
        go_round
        case rel => exact ⟨q + 1, by omega, by go_num, Lib.hid (HNEXT.out (by rw [HS.out, HB.out]; rfl))⟩
        case measure => simp [intOf]; omega
      · have HB := Lib.hid hb1
        cases hb2 : subB s x
        · have HB2 := Lib.hid hb2
          go_wp2_with fail
          go_round
          case rel => exact ⟨q + 1, by omega, by go_num, Lib.hid (HNEXT.out (by rw [HS.out, HB.out, HB2.out]; rfl))⟩
          case measure => simp [intOf]; omega
        · have HB2 := Lib.hid hb2
          go_wp2_with fail
          go_ret
          exact ⟨by rw [HHIT.out (by rw [HS.out, HB.out, HB2.out]; rfl)]; rfl, rfl⟩
    · have HK := Lib.hid (leastI_none (xs := xs) (s := s) (fun j hj => HN.out j (by rw [HL.out] at hj; omega)))
      go_wp2_with fail
      go_ret
      exact ⟨by rw [HK.out]; rfl, rfl⟩
end Go.Proofs.Ytgcpomdlajoifaa
