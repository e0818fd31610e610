/- The walks of package fix: does a map rise? -/
import Derived.Test.YtmdlfngdmlhpmaaFix
namespace Go.Proofs.Ytmdlfngdmlhpmaa
open Go Go.RowKit
set_option linter.unusedVariables false

def rowB (f : List (BitVec 32)) (a b : Nat) : Bool := (List.range b).all fun b => !(a ||| b == b) || subB (nth f a) (nth f b)
def rowsB (f : List (BitVec 32)) (k : Nat) : Bool := (List.range k).all fun a => rowB f a f.length
theorem rowB_succ (f : List (BitVec 32)) (a b : Nat) : rowB f a (b + 1) = (rowB f a b && (!(a ||| b == b) || subB (nth f a) (nth f b))) := by
  unfold rowB; rw [List.range_succ, List.all_append]; simp
theorem rowsB_succ (f : List (BitVec 32)) (k : Nat) : rowsB f (k + 1) = (rowsB f k && rowB f k f.length) := by
  unfold rowsB; rw [List.range_succ, List.all_append]; simp
theorem rowsB_all (f : List (BitVec 32)) : rowsB f f.length = risesB f := rfl
theorem row_no {f : List (BitVec 32)} {a b : Nat} (ha : a < f.length) (hb : b < f.length) (h : (!(a ||| b == b) || subB (nth f a) (nth f b)) = false) : risesB f = false := by
  unfold risesB
  rw [List.all_eq_false]
  refine ⟨a, List.mem_range.2 ha, ?_⟩
  rw [Bool.not_eq_true, List.all_eq_false]
  exact ⟨b, List.mem_range.2 hb, by rw [h]; simp⟩

set_option maxHeartbeats 400000 in
theorem refRises_any (A : Option Addr) (len c : Nat) (f : List (BitVec 32)) (w : World) (hl : len ≤ 1000) (hf : SlW w A len f) :
    Calls Try.prog 21 #[.slice A len c] w fun e w' => e = .returned (.bool (risesB f)) ∧ Kept w w' := by
  have HFE := Lib.hid hf.2
  go_enter Try.func21, Try.ntmps21
  go_wp2_with fail
  go_loopw [3] (fun t wr => ∃ a : Nat, a ≤ len ∧ t = .int .i64 a ∧ rowsB f a = true ∧ Kept w wr) (fun t _ => len - (intOf t).toNat)
  case atStart => exact ⟨0, Nat.zero_le _, rfl, rfl, Kept.refl _⟩
  case round =>
    obtain ⟨a, ha, rfl, hall, hkw⟩ := hrel
    have HA := Lib.hid hall
    clear hall
    by_cases hlt : a < len
    · obtain ⟨b0, off, rfl, hb0, hcs⟩ := (hf.kept hkw).open_ (by omega)
      have ca := hcs a hlt
      have HC := Lib.hid hcs
      clear hcs
      go_wp2_with fail
      go_loopw [4] (fun t wr' => ∃ b : Nat, b ≤ len ∧ t = .int .i64 b ∧ rowB f a b = true ∧ Kept wr wr') (fun t _ => len - (intOf t).toNat)
      case atStart => exact ⟨0, Nat.zero_le _, rfl, rfl, Kept.refl _⟩
      case round =>
        obtain ⟨b, hb, rfl, hrow, hkw2⟩ := hrel
        have HR := Lib.hid hrow
        clear hrow
        by_cases hlt2 : b < len
        · have ca' := (hkw2.cell (p := ⟨b0, off + a, none⟩) hb0).trans ca
          have cb' := (hkw2.cell (p := ⟨b0, off + b, none⟩) hb0).trans (HC.out b hlt2)
          have ka := kw_cell ca'
          have kb := kw_cell cb'
          have hor := i64_or a b (by omega) (by omega)
          have HS := Lib.hid (rowB_succ f a b)
          have HNO := Lib.hid (row_no (f := f) (a := a) (b := b) (by rw [HFE.out]; exact hlt) (by rw [HFE.out]; exact hlt2))
          have hi1 : (0 : Int) ≤ (a : Int) := by omega
          have hi2 : (a : Int) < (len : Int) := by omega
          have hi3 : (0 : Int) ≤ (b : Int) := by omega
          have hi4 : (b : Int) < (len : Int) := by omega
          go_wp2_with fail
          cases hab : (a ||| b == b)
          · have HAB := Lib.hid hab
            have hab2 : (((a ||| b : Nat) : Int) == (b : Int)) = false := by rw [nat_beq]; exact hab
            refine wp_region_kept (by kernel_rfl) (by kernel_rfl) ?_
            repeat (go_big_quiet_step (fail))
            refine wpQuiet_nil ?_
            intro w3 k3
            clear ka kb hor
            go_wp2_with fail
            go_roundw
            case rel => exact ⟨b + 1, by omega, by go_num, by rw [HS.out, HR.out, HAB.out]; rfl, hkw2.trans k3⟩
            case measure => simp [intOf]; omega
          · have HAB := Lib.hid hab
            have hab2 : (((a ||| b : Nat) : Int) == (b : Int)) = true := by rw [nat_beq]; exact hab
            cases hsub : subB (nth f a) (nth f b)
            · have HSU := Lib.hid hsub
              refine wp_region_kept (by kernel_rfl) (by kernel_rfl) ?_
              repeat (go_big_quiet_step ((go_at_call 14; exact kept_of_same (fixIn_any _ _ _))))
              refine wpQuiet_nil ?_
              intro w3 k3
              clear ka kb hor
              go_wp2_with fail
              go_ret
              exact ⟨by rw [HNO.out (by rw [HAB.out, HSU.out]; rfl)]; rfl, (hkw.trans hkw2).trans k3⟩
            · have HSU := Lib.hid hsub
              refine wp_region_kept (by kernel_rfl) (by kernel_rfl) ?_
              repeat (go_big_quiet_step ((go_at_call 14; exact kept_of_same (fixIn_any _ _ _))))
              refine wpQuiet_nil ?_
              intro w3 k3
              clear ka kb hor
              go_wp2_with fail
              go_roundw
              case rel => exact ⟨b + 1, by omega, by go_num, by rw [HS.out, HR.out, HAB.out, HSU.out]; rfl, hkw2.trans k3⟩
              case measure => simp [intOf]; omega
        · have HBE := Lib.hid (show b = f.length by rw [HFE.out]; omega)
          go_wp2_with fail
          go_roundw
          case rel => exact ⟨a + 1, by omega, by go_num, by rw [rowsB_succ, HA.out, ← HBE.out, HR.out]; rfl, hkw.trans hkw2⟩
          case measure => simp [intOf]; omega
    · have HK := Lib.hid (show a = f.length by rw [HFE.out]; omega)
      go_wp2_with fail
      go_ret
      exact ⟨by rw [← rowsB_all, ← HK.out, HA.out]; rfl, hkw⟩
/-! ### the program's own test -/
def stepRow (n : Nat) (f : List (BitVec 32)) (s : Nat) : Bool := (List.range n).all fun i => subB (nth f s) (nth f (s ||| 2 ^ i))
def stepRows (n : Nat) (f : List (BitVec 32)) (k : Nat) : Bool := (List.range k).all (stepRow n f)
theorem stepRow_succ (n : Nat) (f : List (BitVec 32)) (s : Nat) : stepRow (n + 1) f s = (stepRow n f s && subB (nth f s) (nth f (s ||| 2 ^ n))) := by
  unfold stepRow; rw [List.range_succ, List.all_append]; simp
theorem stepRows_succ (n : Nat) (f : List (BitVec 32)) (k : Nat) : stepRows n f (k + 1) = (stepRows n f k && stepRow n f k) := by
  unfold stepRows; rw [List.range_succ, List.all_append]; simp
theorem step_no {n : Nat} {f : List (BitVec 32)} {s i : Nat} (hs : s < f.length) (hi : i < n) (h : subB (nth f s) (nth f (s ||| 2 ^ i)) = false) : stepsB n f = false := by
  unfold stepsB
  rw [List.all_eq_false]
  refine ⟨s, List.mem_range.2 hs, ?_⟩
  rw [Bool.not_eq_true, List.all_eq_false]
  exact ⟨i, List.mem_range.2 hi, by rw [h]; simp⟩

set_option maxHeartbeats 400000 in
theorem rises_any (n : Nat) (hn : n ≤ 5) (A : Option Addr) (len c : Nat) (f : List (BitVec 32)) (w : World) (hl : len = 2 ^ n) (hf : SlW w A len f) :
    Calls Try.prog 40 #[.int .i64 n, .slice A len c] w fun e w' => e = .returned (.bool (risesB f)) ∧ w = w' := by
  have hp : (2 : Nat) ^ n ≤ 32 := Nat.le_trans (Nat.pow_le_pow_right (by omega) hn) (by omega)
  have HFE := Lib.hid hf.2
  have HLE := Lib.hid hl
  have HSR := Lib.hid (steps_rises (f := f) (n := n) (hf.2.trans hl))
  have hl32 : len ≤ 32 := by omega
  have hlp : 0 < len := by have : 0 < 2 ^ n := Nat.pow_pos (by omega); omega
  clear hl hp
  obtain ⟨b0, off, rfl, hb0, hcs⟩ := hf.open_ hlp
  have HC := Lib.hid hcs
  clear hcs
  go_enter Try.func40, Try.ntmps40
  go_wp2_with fail
  go_loop [10] (fun t => ∃ s : Nat, s ≤ len ∧ t = .int .i64 s ∧ stepRows n f s = true) (fun t => len - (intOf t).toNat)
  case atStart => exact ⟨0, Nat.zero_le _, rfl, rfl⟩
  case round =>
    obtain ⟨s, hs, rfl, hall⟩ := hrel
    have HA := Lib.hid hall
    clear hall
    by_cases hlt : s < len
    · have ca := HC.out s hlt
      go_wp2_with fail
      go_loop [16] (fun t => ∃ i : Nat, i ≤ n ∧ t = .int .i64 i ∧ stepRow i f s = true) (fun t => n - (intOf t).toNat)
      case atStart => exact ⟨0, Nat.zero_le _, rfl, rfl⟩
      case round =>
        obtain ⟨i, hi, rfl, hrow⟩ := hrel
        have HR := Lib.hid hrow
        clear hrow
        by_cases hlt2 : i < n
        · have hi2 : 2 ^ i < 2 ^ n := Nat.pow_lt_pow_right (by omega) hlt2
          have hor0 : s ||| 2 ^ i < 2 ^ n := Nat.or_lt_two_pow (by rw [← HLE.out]; exact hlt) hi2
          rw [← HLE.out] at hi2 hor0
          have hw := i64_pow i (by omega)
          have hor := i64_or s (2 ^ i) (by omega) (by omega)
          have cb := HC.out (s ||| 2 ^ i) hor0
          have HS := Lib.hid (stepRow_succ i f s)
          have HNO := Lib.hid (step_no (n := n) (f := f) (s := s) (i := i) (by rw [HFE.out]; exact hlt) hlt2)
          generalize 2 ^ i = p at hi2 hor0 hw hor cb HS HNO
          generalize s ||| p = q at hor0 hor cb HS HNO
          have hq1 : (0 : Int) ≤ (q : Int) := by omega
          have hq2 : (q : Int) < (len : Int) := by omega
          cases hsub : subB (nth f s) (nth f q)
          · have HSU := Lib.hid hsub
            go_wp2_with fail
            go_ret
            exact ⟨by rw [← HSR.out, HNO.out HSU.out]; rfl, rfl⟩
          · have HSU := Lib.hid hsub
            go_wp2_with fail
            go_round
            case rel => exact ⟨i + 1, by omega, by go_num, by rw [HS.out, HR.out, HSU.out]; rfl⟩
            case measure => simp [intOf]; omega
        · have HI := Lib.hid (show i = n by omega)
          go_wp2_with fail
          go_round
          case rel => exact ⟨s + 1, by omega, by go_num, by rw [stepRows_succ, HA.out, ← HI.out, HR.out]; rfl⟩
          case measure => simp [intOf]; omega
    · have HK := Lib.hid (show s = f.length by rw [HFE.out]; omega)
      go_wp2_with fail
      go_ret
      exact ⟨by rw [← HSR.out]; show _ = Ending.returned (Value.bool (stepRows n f f.length)); rw [← HK.out, HA.out]; rfl, rfl⟩
end Go.Proofs.Ytmdlfngdmlhpmaa
