/- The walks of cmp.Compare and cmp.Or, as the sort of cubes calls them. -/
import Derived.Test.YtjliabifaohfjaaPrime1
namespace Go.Proofs.Ytjliabifaohfjaa
open Go Go.RowKit
set_option linter.unusedVariables false

def cmpU (x y : BitVec 32) : Int := if x.toNat < y.toNat then -1 else if y.toNat < x.toNat then 1 else 0
theorem nan_any (x : Int) (w : World) : Calls Try.prog 50 #[.int .u32 x] w fun e w' => e = .returned (.bool false) ∧ w = w' := by
  have h : (x != x) = false := by simp
  go_enter Try.func50, Try.ntmps50
  go_wp2
  go_ret
  exact ⟨rfl, rfl⟩
theorem compare_any (x y : BitVec 32) (w : World) : Calls Try.prog 37 #[.int .u32 (W x), .int .u32 (W y)] w fun e w' => e = .returned (.int .i64 (cmpU x y)) ∧ w = w' := by
  have h : (x.toNat < y.toNat ∧ cmpU x y = -1) ∨ (¬ x.toNat < y.toNat ∧ y.toNat < x.toNat ∧ cmpU x y = 1) ∨ (¬ x.toNat < y.toNat ∧ ¬ y.toNat < x.toNat ∧ cmpU x y = 0) := by
    unfold cmpU
    by_cases a : x.toNat < y.toNat
    · exact .inl ⟨a, by rw [if_pos a]⟩
    · by_cases b : y.toNat < x.toNat
      · exact .inr (.inl ⟨a, b, by rw [if_neg a, if_pos b]⟩)
      · exact .inr (.inr ⟨a, b, by rw [if_neg a, if_neg b]⟩)
  have e1 : W x = (x.toNat : Int) := rfl
  have e2 : W y = (y.toNat : Int) := rfl
  rw [e1, e2]
  generalize x.toNat = a at *
  generalize y.toNat = b at *
  generalize cmpU x y = r at *
  clear e1 e2
  rcases h with ⟨h1, rfl⟩ | ⟨h1, h2, rfl⟩ | ⟨h1, h2, rfl⟩
  all_goals
    go_enter Try.func37, Try.ntmps37
    go_wp2_with fail
    refine (nan_any _ _).mono ?_
    rintro e w1 ⟨rfl, rfl⟩
    go_wp2_with fail
    refine (nan_any _ _).mono ?_
    rintro e w1 ⟨rfl, rfl⟩
    go_wp2_with fail
    go_ret
    exact ⟨rfl, rfl⟩
/-- of two the first that is not nought -/
def orI (a b : Int) : Int := if a = 0 then b else a
theorem or_any (A : Option Addr) (c : Nat) (a b : Int) (w : World) (hs : SlI w A 2 [a, b]) : Calls Try.prog 36 #[.slice A 2 c] w fun e w' => e = .returned (.int .i64 (orI a b)) ∧ w = w' := by
  go_enter Try.func36, Try.ntmps36
  go_wp2_with fail
  go_loopw [8] (fun i wr => ∃ k : Nat, k ≤ 2 ∧ i = .int .i64 k ∧ w = wr ∧ Hid ((1 ≤ k → a = 0) ∧ (2 ≤ k → b = 0))) (fun i _ => 2 - (intOf i).toNat)
  case atStart => exact ⟨0, Nat.zero_le _, rfl, rfl, Lib.hid ⟨fun h => by omega, fun h => by omega⟩⟩
  case round =>
    obtain ⟨k, hk, rfl, rfl, HZ⟩ := hrel
    by_cases hlt : k < 2
    · obtain ⟨bk, off, hkr, rfl, _, c0⟩ := hs.get k hlt
      have HX := Lib.hid (show ([a, b])[k] = (if k = 0 then a else b) by
        rcases (by omega : k = 0 ∨ k = 1) with rfl | rfl <;> rfl)
      generalize ([a, b])[k] = x at c0 HX
      by_cases hx : x = 0
      · have HZ2 := Lib.hid (show (1 ≤ k + 1 → a = 0) ∧ (2 ≤ k + 1 → b = 0) from by
          have h0 := HZ.out
          have h1 := HX.out
          rw [hx] at h1
          rcases (by omega : k = 0 ∨ k = 1) with rfl | rfl
          · exact ⟨fun _ => by simpa using h1.symm, fun h => by omega⟩
          · exact ⟨fun _ => h0.1 (by omega), fun _ => by simpa using h1.symm⟩)
        have g1 : (x != 0) = false := by rw [hx]; rfl
        clear hx
        go_wp2_with fail
        go_roundw
        case rel => exact ⟨k + 1, by omega, by go_num, trivial, HZ2⟩
        case measure => simp [intOf]; omega
      · have FIN := Lib.hid (show orI a b = x from by
          have h0 := HZ.out
          have h1 := HX.out
          unfold orI
          rcases (by omega : k = 0 ∨ k = 1) with rfl | rfl
          · have h1 : x = a := by simpa using h1
            rw [← h1, if_neg hx]
          · have h1 : x = b := by simpa using h1
            rw [h0.1 (by omega), if_pos rfl, h1])
        have g1 : (x != 0) = true := by rw [bne_iff_ne]; exact hx
        clear hx
        go_wp2_with fail
        go_ret
        exact ⟨by rw [FIN.out]; rfl, rfl⟩
    · have FIN := Lib.hid (show orI a b = 0 from by
        have h0 := HZ.out
        unfold orI
        rw [h0.1 (by omega), h0.2 (by omega)]
        rfl)
      go_wp2_with fail
      go_ret
      exact ⟨by rw [FIN.out]; rfl, rfl⟩
end Go.Proofs.Ytjliabifaohfjaa
