/- Refute: its two early ends; a slice of pairs, made. -/
import Derived.Test.YtekpifobhgjepaaTwM
import Derived.Test.YtekpifobhgjepaaTwN2
import Derived.Test.YtekpifobhgjepaaClause
namespace Go.Proofs.Ytekpifobhgjepaa
open Go Go.RowKit
set_option linter.unusedVariables false

theorem prCells_zero (n : Nat) : prCells (List.replicate n (0, 0)) = List.replicate (n * 2) (.int .i64 0) := by
  induction n with
  | zero => rfl
  | succ n ih =>
    rw [List.replicate_succ]
    show [Value.int .i64 ((0 : Nat) : Int), .int .i64 ((0 : Nat) : Int)] ++ prCells (List.replicate n (0, 0)) = _
    rw [ih, show (n + 1) * 2 = n * 2 + 1 + 1 by omega, List.replicate_succ, List.replicate_succ]
    rfl
theorem run_makeP (n : Nat) (hn : n ≤ 1000000) (W : World) :
    (Instr.makeSlice 37 (.int .i64 (n : Int)) (.int .i64 (n : Int))).run Try.prog W = .ok (.slice (some ⟨W.heap.size, 0, none⟩) n n) (W.alloc (.cells (prCells (List.replicate n (0, 0))).toArray 85)) := by
  obtain ⟨i, hi0, hzz, hsize, hby⟩ := info_parts info_pr
  have hbb : (i.bytes : Int) * (n : Int) ≤ 281474976710656 := by
    rw [hby]
    have h2 : (n : Int) ≤ 1000000 := by omega
    omega
  rw [run_make (P := Try.prog) W 37 85 i _ Try.underlying37 hi0 hzz .i64 .i64 n n (by omega) (by omega) hbb (by omega), hsize]
  have e1 : madeCells (Value.agg #[.int .i64 0, .int .i64 0]).cells (n * 2) = (prCells (List.replicate n (0, 0))).toArray := by
    rw [prCells_zero]
    have hc : (Value.agg #[.int .i64 0, .int .i64 0]).cells = #[.int .i64 0, .int .i64 0] := rfl
    rw [hc]
    unfold madeCells
    apply Array.ext
    · simp
    · intro j h1 h2
      rcases Nat.mod_two_eq_zero_or_one j with h | h <;> simp [h]
  rw [Int.toNat_natCast, e1]
theorem refute_bad (n : Int) (A : Option Addr) (len c : Nat) (rs : List Ru) (w : World) (hs : SlR w A len rs) (h : satF n rs ≠ 0) :
    Calls Try.prog 19 #[.int .i64 n, .slice A len c] w fun e w' => e = .returned (.tuple #[.slice none 0 0, .int .i64 (satF n rs)]) ∧ Kept w w' := by
  have HW := Lib.hid (wrong_any n A len c rs w hs)
  generalize satF n rs = F at h HW
  have hb : (F != 0) = true := by simpa using h
  go_enter Try.func19, Try.ntmps19
  go_wp2_with fail
  refine HW.out.mono ?_
  rintro e w1 ⟨rfl, k1⟩
  go_wp2_with fail
  go_ret2
  exact ⟨rfl, k1⟩
theorem refute_empty (n : Nat) (A : Option Addr) (len c : Nat) (rs : List Ru) (w : World) (hs : SlR w A len rs) (h : satF n rs = 0) (hn : len ≤ 1000) (hz : ((0#32, 0#32) : Ru) ∈ rs) :
    Calls Try.prog 19 #[.int .i64 n, .slice A len c] w fun e w' => e = .returned (.tuple #[.slice none 0 0, .int .i64 0]) ∧ Kept w w' := by
  have HW := Lib.hid (wrong_any n A len c rs w hs)
  rw [h] at HW
  have HC := Lib.hid (fun w' (k : Kept w w') => twContains_any A len c rs (0#32, 0#32) w' (hs.kept k) hn)
  rw [any_eqR.2 hz] at HC
  simp only [W_zero] at HC
  go_enter Try.func19, Try.ntmps19
  go_wp2_with fail
  refine HW.out.mono ?_
  rintro e w1 ⟨rfl, k1⟩
  go_wp2_with fail
  refine (HC.out _ k1).mono ?_
  rintro e w2 ⟨rfl, k2⟩
  go_wp2_with fail
  go_ret2
  exact ⟨rfl, k1.trans k2⟩
end Go.Proofs.Ytekpifobhgjepaa
