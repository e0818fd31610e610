/- The walks of package know: Knows. -/
import Derived.Test.YtodkpojmonikiaaKnow
namespace Go.Proofs.Ytodkpojmonikiaa
open Go Go.RowKit
set_option linter.unusedVariables false

def rowAt (rs : List Rv) (i : Nat) : List Int := (rs.getD i (none, 0, 0, [])).2.2.2
theorem rowAt_eq (rs : List Rv) (i : Nat) (h : i < rs.length) : rowAt rs i = rs[i].2.2.2 := by
  unfold rowAt
  rw [List.getD_eq_getElem?_getD, List.getElem?_eq_getElem h]
  rfl
theorem out_of {i : Int} {len : Nat} (h : i < 0 ∨ (len : Int) ≤ i) : decide (i < 0) = true ∨ (decide (i < 0) = false ∧ decide ((len : Int) ≤ i) = true) := by
  simp only [decide_eq_true_eq, decide_eq_false_iff_not]
  omega
theorem knowsX_no (n : Int) (A : Option Addr) (len c : Nat) (rs : List Rv) (i : Int) (ev : BitVec 32) (w : World) (hs : SlM w A len rs) (hc : (knowF n rs ev != 0) = true) :
    Calls Try.prog 19 #[.int .i64 n, .slice A len c, .int .i64 i, .int .u32 (W ev)] w fun e w' => e = .returned (.tuple #[.int .u32 0, .int .i64 (knowF n rs ev)]) ∧ Kept w w' := by
  go_enter Try.func19, Try.ntmps19
  go_wp2_with fail
  refine (wrong_any n _ _ _ rs ev _ hs).mono ?_
  rintro e w1 ⟨rfl, k1⟩
  go_wp2_with fail
  go_ret2
  exact ⟨rfl, k1⟩
theorem knowsX_arg (n : Int) (A : Option Addr) (len c : Nat) (rs : List Rv) (i : Int) (ev : BitVec 32) (w : World) (hs : SlM w A len rs) (hc : knowF n rs ev = 0) (hi : i < 0 ∨ (len : Int) ≤ i) :
    Calls Try.prog 19 #[.int .i64 n, .slice A len c, .int .i64 i, .int .u32 (W ev)] w fun e w' => e = .returned (.tuple #[.int .u32 0, .int .i64 2]) ∧ Kept w w' := by
  have HC := Lib.hid hc
  clear hc
  rcases out_of hi with d1 | ⟨d1, d2⟩
  all_goals
    clear hi
    go_enter Try.func19, Try.ntmps19
    go_wp2_with fail
    refine (wrong_any n _ _ _ rs ev _ hs).mono ?_
    rintro e w1 ⟨rfl, k1⟩
    rw [HC.out]
    go_wp2_with fail
    go_ret2
    exact ⟨rfl, k1⟩
theorem knowsX_ok (n : Nat) (A : Option Addr) (len c : Nat) (rs : List Rv) (i : Nat) (ev : BitVec 32) (w : World) (hs : SlM w A len rs) (hc : knowF n rs ev = 0) (hi : i < len) :
    Calls Try.prog 19 #[.int .i64 n, .slice A len c, .int .i64 i, .int .u32 (W ev)] w fun e w' => e = .returned (.tuple #[.int .u32 (W (knW n (rowAt rs i) ev)), .int .i64 0]) ∧ Kept w w' := by
  have hz := knowF_zero hc
  have hn6 := hz.1.2.1
  have hl := hz.2.1
  have HC := Lib.hid hc
  have d1 : decide ((i : Int) < 0) = false := by simp
  have d2 : decide ((len : Int) ≤ (i : Int)) = false := by simp; omega
  have hi1 : (0 : Int) ≤ (i : Int) := by omega
  have hi2 : (i : Int) < (len : Int) := by omega
  have HL := Lib.hid hl
  clear hc hz hl
  go_enter Try.func19, Try.ntmps19
  go_wp2_with fail
  refine (wrong_any n _ _ _ rs ev _ hs).mono ?_
  rintro e w1 ⟨rfl, k1⟩
  rw [HC.out]
  obtain ⟨b, off, hk, rfl, hb, cq, hrow, hrl⟩ := (hs.kept k1).get i hi
  have HR := Lib.hid (rowAt_eq rs i hk)
  have HN := Lib.hid (show rs[i].2.1 = n by have := HL.out _ (List.getElem_mem hk); omega)
  generalize rs[i] = r at cq hrow hrl HR HN
  go_wp2_with fail
  refine (knows_any _ _ _ r.2.2.2 ev _ hrow (by have := HN.out; omega)).mono ?_
  rintro e w2 ⟨rfl, rfl⟩
  rw [HN.out, ← HR.out]
  go_wp2_with fail
  go_ret2
  exact ⟨rfl, k1⟩
end Go.Proofs.Ytodkpojmonikiaa
