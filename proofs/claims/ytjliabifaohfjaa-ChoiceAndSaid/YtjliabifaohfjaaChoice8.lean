/- The walks of choice.top, down; pairs as keys. -/
import Derived.Test.YtjliabifaohfjaaChoice7
import Derived.Test.YtjliabifaohfjaaChoice5
import Derived.Test.YtjliabifaohfjaaChoiceQ
namespace Go.Proofs.Ytjliabifaohfjaa
open Go Go.RowKit
set_option linter.unusedVariables false
set_option linter.unusedSimpArgs false

set_option maxHeartbeats 2000000 in
theorem top_any (n : Nat) (A : Option Addr) (len c : Nat) (l : List Bn) (k : Nat) (w : World) (hl : SlBn w A len l) (hk : k ≤ len + 1) (hl20 : len ≤ 20) :
    Calls Try.prog 52 #[.slice A len c, .int .i64 k, .int .i64 n] w fun e w' => e = .returned (.int .i64 (topF l k n)) ∧ w = w' := by
  by_cases h : k < 2
  · have HV := Lib.hid (show topF l k n = n by unfold topF; rw [if_pos h])
    have g1 : decide ((k : Int) < 2) = true := decide_eq_true (by omega)
    clear hk hl h
    go_enter Try.func52, Try.ntmps52
    go_wp2_with fail
    go_ret
    exact ⟨by rw [HV.out]; rfl, rfl⟩
  · obtain ⟨p, rfl⟩ : ∃ p, k = p + 2 := ⟨k - 2, by omega⟩
    have HV := Lib.hid (show topF l (p + 2) n = (bnAt l p).1 by unfold topF; rw [if_neg h, Nat.add_sub_cancel])
    have hp : p < len := by omega
    obtain ⟨b, off, rfl, hb, c0, c1, c2⟩ := hl.getN p hp
    generalize bnAt l p = x at c0 c1 c2 HV
    have g1 : decide (((p + 2 : Nat) : Int) < 2) = false := decide_eq_false (by omega)
    have g2 : ((p + 2 : Nat) : Int) - 2 = (p : Int) := by omega
    have i1 : (0 : Int) ≤ (p : Int) := by omega
    have i2 : (p : Int) < (len : Int) := by omega
    clear hk hl h hb
    go_enter Try.func52, Try.ntmps52
    go_wp2_with fail
    go_ret
    exact ⟨by rw [HV.out]; rfl, rfl⟩
set_option maxHeartbeats 2000000 in
theorem down_any (A : Option Addr) (len c : Nat) (l : List Bn) (k v : Nat) (w : World) (hl : SlBn w A len l) (hk : k ≤ len + 1) (hl20 : len ≤ 20) :
    Calls Try.prog 53 #[.slice A len c, .int .i64 k, .int .i64 v] w fun e w' => e = .returned (.tuple #[.int .i64 (downF l k v).1, .int .i64 (downF l k v).2]) ∧ Kept w w' := by
  by_cases h : k < 2
  · have HV := Lib.hid (show downF l k v = (k, k) by unfold downF; rw [if_pos (.inl h)])
    have g1 : decide ((k : Int) < 2) = true := decide_eq_true (by omega)
    clear hk hl h
    go_enter Try.func53, Try.ntmps53
    go_wp2_with fail
    go_ret2
    exact ⟨by rw [HV.out]; rfl, Kept.refl _⟩
  · obtain ⟨p, rfl⟩ : ∃ p, k = p + 2 := ⟨k - 2, by omega⟩
    have HV := Lib.hid (show downF l (p + 2) v = if (bnAt l p).1 ≠ v then (p + 2, p + 2) else ((bnAt l p).2.1, (bnAt l p).2.2) by
      unfold downF
      rw [Nat.add_sub_cancel]
      by_cases e : (bnAt l p).1 ≠ v
      · rw [if_pos (.inr e), if_pos e]
      · rw [if_neg e, if_neg]
        rintro (e2 | e2)
        · exact h e2
        · exact e e2)
    have hp : p < len := by omega
    obtain ⟨b, off, rfl, hb, c0, c1, c2⟩ := hl.getN p hp
    generalize bnAt l p = x at c0 c1 c2 HV
    obtain ⟨x0, x1, x2⟩ := x
    simp only at c0 c1 c2 HV
    have g1 : decide (((p + 2 : Nat) : Int) < 2) = false := decide_eq_false (by omega)
    have g2 : ((p + 2 : Nat) : Int) - 2 = (p : Int) := by omega
    have i1 : (0 : Int) ≤ (p : Int) := by omega
    have i2 : (p : Int) < (len : Int) := by omega
    by_cases hv : x0 = v
    · have HV2 := Lib.hid (show downF l (p + 2) v = (x1, x2) by rw [HV.out, if_neg (by simpa using hv)])
      have g3 : ((x0 : Int) != (v : Int)) = false := by rw [hv]; simp
      clear hk hl h hb HV hv
      go_enter Try.func53, Try.ntmps53
      go_wp2_with fail
      go_quiet (fail)
      go_wp2_with fail
      go_ret2
      exact ⟨by rw [HV2.out]; rfl, (Kept.refl _).drewN nq⟩
    · have HV2 := Lib.hid (show downF l (p + 2) v = (p + 2, p + 2) by rw [HV.out, if_pos hv])
      have g3 : ((x0 : Int) != (v : Int)) = true := by rw [bne_iff_ne]; omega
      clear hk hl h hb HV hv
      go_enter Try.func53, Try.ntmps53
      go_wp2_with fail
      go_ret2
      exact ⟨by rw [HV2.out]; rfl, Kept.refl _⟩
/-! ### pairs as keys -/
def prV (x y : Nat) : Value := .agg #[.int .i64 x, .int .i64 y]
theorem prV_inj {x y x' y' : Nat} (h : prV x y = prV x' y') : x = x' ∧ y = y' := by
  unfold prV at h
  simp at h
  omega
theorem prRow : (89 : TypeId) < Try.prog.types.size := of_decide_eq_true (by kernel_rfl)
theorem prAt : Try.prog.keyTypeAt 2 89 = true := by kernel_rfl
theorem prLaw : Go.WideMaps.KeyLaw Try.prog 89 := deep_law_laid brLaidOut (m := 2) (by omega) prRow prAt (by simp only [Try.underlying89])
theorem prKeyed : Go.Maps.Keyed Try.prog 89 := Go.Maps.Keyed.of_law prLaw
theorem prKT : Try.prog.keyType 89 = true := by kernel_rfl
theorem prCells : Try.prog.cellsOf 89 = 2 := by kernel_rfl
theorem pr_key (x y : Nat) (hx : x ≤ 1000) (hy : y ≤ 1000) : ∃ l, keyOf Try.prog 89 (prV x y) = some l := by
  obtain ⟨m, hm⟩ : ∃ m, Try.prog.types.size = m + 1 := Nat.exists_eq_succ_of_ne_zero (Nat.ne_of_gt (Nat.lt_of_le_of_lt (Nat.zero_le _) prRow))
  have w1 := wf_small hx
  have w2 := wf_small hy
  have hu := Try.underlying89
  have hi := Try.underlying3
  unfold keyOf
  simp only [hu]
  have hf : (prV x y).formed Try.prog 89 = true := by
    unfold Value.formed prV
    simp only [hu, prCells]
    rfl
  rw [prKT, hf, hm]
  simp only [Bool.and_self, if_true]
  unfold prV
  unfold Program.keyLits
  simp only [hu]
  simp [Value.cells, prCells, intCells, Program.keyLits, hi, w1, w2, List.range_succ]
end Go.Proofs.Ytjliabifaohfjaa
