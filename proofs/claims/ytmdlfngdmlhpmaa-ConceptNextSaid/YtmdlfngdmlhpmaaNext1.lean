/- The next concept: plain words, and the walks of concept.next and Next. -/
import Derived.Test.YtmdlfngdmlhpmaaConcept4
namespace Go.Proofs.Ytmdlfngdmlhpmaa
open Go Go.RowKit
set_option linter.unusedVariables false

/-- what a set of marks closes to -/
def clG (n : Nat) (rows : List (BitVec 32)) (m : BitVec 32) : BitVec 32 := upG n rows (downG rows m)
/-- the next closed set, looked for below the place i -/
def nextG (n : Nat) (rows : List (BitVec 32)) (cur : BitVec 32) : Nat → Option (BitVec 32)
  | 0 => none
  | i + 1 => if cur.getLsbD i then nextG n rows cur i else
      if clG n rows (cur &&& (1#32 <<< i - 1#32) ||| 1#32 <<< i) &&& (1#32 <<< i - 1#32) == cur &&& (1#32 <<< i - 1#32) then some (clG n rows (cur &&& (1#32 <<< i - 1#32) ||| 1#32 <<< i)) else nextG n rows cur i
def nextV : Option (BitVec 32) → Value
  | none => .tuple #[.int .u32 0, .bool false]
  | some c => .tuple #[.int .u32 (W c), .bool true]
set_option maxHeartbeats 2000000 in
theorem next_any (n : Nat) (hn : n ≤ 6) (A : Option Addr) (len c : Nat) (rows : List (BitVec 32)) (cur : BitVec 32) (w : World) (hr : SlW w A len rows) (hlen : len ≤ 8) :
    Calls Try.prog 46 #[.int .i64 n, .slice A len c, .int .u32 (W cur)] w fun e w' => e = .returned (nextV (nextG n rows cur n)) ∧ w = w' := by
  have hrl := hr.2
  obtain ⟨r, hrr⟩ : ∃ r, nextG n rows cur n = r := ⟨_, rfl⟩
  rw [hrr]
  have HR := Lib.hid hrr
  have HRL := Lib.hid hrl
  clear hrr hrl
  go_enter Try.func46, Try.ntmps46
  go_wp2_with fail
  go_loop [8] (fun t => ∃ k : Nat, k ≤ n ∧ t = .int .i64 ((k : Int) - 1) ∧ Hid (nextG n rows cur k = r)) (fun t => (intOf t + 1).toNat)
  case atStart => exact ⟨n, Nat.le_refl _, rfl, HR⟩
  case round =>
    obtain ⟨k, hk, rfl, HQ⟩ := hrel
    rcases k with _ | j
    · have FIN := Lib.hid (show r = none from HQ.out.symm)
      have g1 : decide ((0 : Int) ≤ ((0 : Nat) : Int) - 1) = false := by decide
      go_wp2_with fail
      go_ret2
      exact ⟨by rw [FIN.out]; rfl, rfl⟩
    · have ej : ((j + 1 : Nat) : Int) - 1 = (j : Int) := by omega
      rw [ej]
      have hj : j < 6 := by omega
      have hj0 : (0 : Int) ≤ (j : Int) := by omega
      have HQ2 : Hid ((if cur.getLsbD j then nextG n rows cur j else
        if clG n rows (cur &&& (1#32 <<< j - 1#32) ||| 1#32 <<< j) &&& (1#32 <<< j - 1#32) == cur &&& (1#32 <<< j - 1#32) then some (clG n rows (cur &&& (1#32 <<< j - 1#32) ||| 1#32 <<< j)) else nextG n rows cur j) = r) := Lib.hid HQ.out
      clear HQ ej
      cases hb : cur.getLsbD j
      · rw [hb] at HQ2
        have HC := Lib.hid (show clG n rows (cur &&& (1#32 <<< j - 1#32) ||| 1#32 <<< j) = upF (1#32 <<< n - 1#32) (downF (cur &&& (1#32 <<< j - 1#32) ||| 1#32 <<< j) rows len) rows len by unfold clG upG downG; rw [HRL.out])
        go_wp2_with fail
        refine (down_any A len c rows _ _ hr hlen).mono ?_
        rintro e w1 ⟨rfl, rfl⟩
        go_wp2_with fail
        refine (up_any n hn A len c rows _ _ hr hlen).mono ?_
        rintro e w1 ⟨rfl, rfl⟩
        rw [← HC.out]
        cases he : (clG n rows (cur &&& (1#32 <<< j - 1#32) ||| 1#32 <<< j) &&& (1#32 <<< j - 1#32) == cur &&& (1#32 <<< j - 1#32))
        · have HN := Lib.hid (show nextG n rows cur j = r by have := HQ2.out; rw [he] at this; exact this)
          go_wp2_with fail
          go_round
          case rel => exact ⟨j, by omega, by go_num, HN⟩
          case measure => simp [intOf]
        · have HN := Lib.hid (show some (clG n rows (cur &&& (1#32 <<< j - 1#32) ||| 1#32 <<< j)) = r by have := HQ2.out; rw [he] at this; exact this)
          go_wp2_with fail
          go_ret2
          exact ⟨by rw [← HN.out]; rfl, rfl⟩
      · have HN := Lib.hid (show nextG n rows cur j = r by have := HQ2.out; rw [hb] at this; exact this)
        go_wp2_with fail
        go_round
        case rel => exact ⟨j, by omega, by go_num, HN⟩
        case measure => simp [intOf]
end Go.Proofs.Ytmdlfngdmlhpmaa
