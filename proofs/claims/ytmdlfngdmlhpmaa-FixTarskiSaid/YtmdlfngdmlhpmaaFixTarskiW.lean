/- FixTarski: the walk of the statement. -/
import Derived.Test.YtmdlfngdmlhpmaaFix4
namespace Go.Proofs.Ytmdlfngdmlhpmaa.fixTarskiDone
open Go Go.RowKit
set_option linter.unusedVariables false

theorem ge_no {n : Nat} (hn : n < 32) {a : BitVec 32} (h : fitB n a = true) : decide (1#32 <<< n ≤ a) = false := by
  have h1 := (fit_toNat hn).1 h
  rw [decide_eq_false_iff_not, BitVec.le_def, one_shl_toNat n hn]
  omega
theorem imp_ways {x y : Bool} (h : x = true → y = true) : x = false ∨ (x = true ∧ y = true) := by
  cases hx : x
  · exact .inl rfl
  · exact .inr ⟨rfl, h hx⟩

set_option maxRecDepth 100000 in
set_option maxHeartbeats 1000000 in
theorem yes (n : Nat) (A : Option Addr) (len cp : Nat) (f : List (BitVec 32)) (s : BitVec 32) (w : World) (hl : len ≤ maxLen) (hf : SlW w A len f) (hc : mapF n f = 0) (hr : risesB f = true) :
    Calls Try.prog 8 #[.int .i64 n, .slice A len cp, .int .u32 (W s)] w fun e w' => e = .returned (.bool true) ∧ Kept w w' := by
  obtain ⟨hc1, hc2, hc3, hc4⟩ := mapF_zero hc
  rw [Int.toNat_natCast] at hc3 hc4
  have hm : MapOk n f := mapOk (by omega) hc3 hc4 hr
  have hlen : len = 2 ^ n := hf.2.symm.trans hc3
  have hp : (2 : Nat) ^ n ≤ 32 := Nat.le_trans (Nat.pow_le_pow_right (by omega) (show n ≤ 5 by omega)) (by omega)
  have hlp : 0 < len := by have : 0 < 2 ^ n := Nat.pow_pos (by omega); omega
  have hl32 : len ≤ 32 := by omega
  have HLE := Lib.hid hlen
  have HC := Lib.hid hc
  have HR := Lib.hid hr
  have HM := Lib.hid hm
  have hn5 : n ≤ 5 := by omega
  clear hc hr hc1 hc2 hc3 hc4 hm hp hlen
  go_enter Try.func8, Try.ntmps8
  go_wp2_with fail
  refine (least_ok n _ _ _ f _ hl hf HC.out HR.out).mono ?_
  rintro e w1 ⟨a, rfl, ha, k1⟩
  have HEA := Lib.hid ha
  clear ha
  go_wp2_with fail
  refine (most_ok n _ _ _ f _ hl (hf.kept k1) HC.out HR.out).mono ?_
  rintro e w2 ⟨b, rfl, hb, k2⟩
  have HEB := Lib.hid hb
  have q2 := k1.trans k2
  clear hb k1 k2
  go_wp2_with fail
  refine (mapCheck_any _ _ _ _ f _ hl (hf.kept q2)).mono ?_
  rintro e w3 ⟨rfl, rfl⟩
  rw [HC.out]
  go_wp2_with fail
  refine (refRises_any _ _ _ f _ (by omega) (hf.kept q2)).mono ?_
  rintro e w4 ⟨rfl, k4⟩
  rw [HR.out]
  have q4 := q2.trans k4
  clear q2 k4
  go_wp2_with fail
  refine (risesX_ok n _ _ _ f _ hl (hf.kept q4) HC.out).mono ?_
  rintro e w5 ⟨rfl, k5⟩
  rw [HR.out]
  have q5 := q4.trans k5
  clear q4 k5
  obtain ⟨b0, off, rfl, hb0, hcs⟩ := (hf.kept q5).open_ hlp
  have hfa : fitB n a = true := HEA.out.1.1
  have hfb : fitB n b = true := HEB.out.1.1
  have hfs : fitB n (s &&& (1#32 <<< n - 1#32)) = true := fitB_sub (subB_iff.2 fun i hi => by rw [BitVec.getLsbD_and, Bool.and_eq_true] at hi; exact hi.2) (fit_full HM.out.1)
  have ca := hcs (wn a) (by rw [HLE.out]; exact (fit_toNat HM.out.1).1 hfa)
  have cb := hcs (wn b) (by rw [HLE.out]; exact (fit_toNat HM.out.1).1 hfb)
  have cs := hcs (wn (s &&& (1#32 <<< n - 1#32))) (by rw [HLE.out]; exact (fit_toNat HM.out.1).1 hfs)
  rw [show nth f (wn a) = a from HEA.out.2] at ca
  rw [show nth f (wn b) = b from HEB.out.2] at cb
  have wa : W a < (len : Int) := by rw [W_lt_nat, HLE.out]; exact (fit_toNat HM.out.1).1 hfa
  have wb : W b < (len : Int) := by rw [W_lt_nat, HLE.out]; exact (fit_toNat HM.out.1).1 hfb
  have ws : W (s &&& (1#32 <<< n - 1#32)) < (len : Int) := by rw [W_lt_nat, HLE.out]; exact (fit_toNat HM.out.1).1 hfs
  have ga := ge_no HM.out.1 hfa
  have gb := ge_no HM.out.1 hfb
  have hab : subB a b = true := HEB.out.1.2.2 a hfa (by rw [HEA.out.2]; exact subB_refl a)
  have HX := Lib.hid (imp_ways (HEA.out.1.2.2 _ hfs))
  have HY := Lib.hid (imp_ways (HEB.out.1.2.2 _ hfs))
  unfold go1 at HX HY
  clear hfa hfb hfs hcs hlp hl32 hb0
  go_wp2_with fail
  refine (fixIn_any _ _ _).mono ?_
  rintro e w6 ⟨rfl, rfl⟩
  rcases HX.out with x | ⟨x, x2⟩ <;> rcases HY.out with y | ⟨y, y2⟩
  all_goals
    go_wp2_with (go_at_call 14; refine (fixIn_any _ _ _).mono ?_; rintro e w' ⟨rfl, rfl⟩)
    go_ret
    exact ⟨rfl, q5⟩

set_option maxRecDepth 100000 in
set_option maxHeartbeats 1000000 in
theorem fixTarski_walk (n : Int) (A : Option Addr) (len cp : Nat) (f : List (BitVec 32)) (s : BitVec 32) (w : World) (_wn : (Lit.int .i64 n).wf = true) (hl : len ≤ maxLen) (hf : SlW w A len f) :
    Calls Try.prog 8 #[.int .i64 n, .slice A len cp, .int .u32 (W s)] w fun e w' => e = .returned (.bool true) ∧ Kept w w' := by
  by_cases hc : mapF n f = 0
  · obtain ⟨n, rfl⟩ := Int.eq_ofNat_of_zero_le (show 0 ≤ n by have := mapF_zero hc; omega)
    cases hr : risesB f
    · obtain ⟨hc1, hc2, hc3, hc4⟩ := mapF_zero hc
      rw [Int.toNat_natCast] at hc3
      have hlen : len = 2 ^ n := hf.2.symm.trans hc3
      have hl32 : len ≤ 32 := by rw [hlen]; exact Nat.le_trans (Nat.pow_le_pow_right (by omega) (show n ≤ 5 by omega)) (by omega)
      have HC := Lib.hid hc
      have HR := Lib.hid hr
      clear hc hr hc1 hc2 hc3 hc4 hlen
      go_enter Try.func8, Try.ntmps8
      go_wp2_with fail
      refine (least_fall n _ _ _ f _ hl hf HC.out HR.out).mono ?_
      rintro e w1 ⟨rfl, k1⟩
      go_wp2_with fail
      refine (most_fall n _ _ _ f _ hl (hf.kept k1) HC.out HR.out).mono ?_
      rintro e w2 ⟨rfl, k2⟩
      have q2 := k1.trans k2
      clear k1 k2
      go_wp2_with fail
      refine (mapCheck_any _ _ _ _ f _ hl (hf.kept q2)).mono ?_
      rintro e w3 ⟨rfl, rfl⟩
      rw [HC.out]
      go_wp2_with fail
      refine (refRises_any _ _ _ f _ (by omega) (hf.kept q2)).mono ?_
      rintro e w4 ⟨rfl, k4⟩
      rw [HR.out]
      go_wp2_with fail
      go_ret
      exact ⟨rfl, q2.trans k4⟩
    · exact yes n A len cp f s w hl hf hc hr
  · have hne : (mapF n f != 0) = true := by simpa using hc
    clear hc
    go_enter Try.func8, Try.ntmps8
    go_wp2_with fail
    refine (least_no n _ _ _ f _ hl hf hne).mono ?_
    rintro e w1 ⟨rfl, k1⟩
    go_wp2_with fail
    refine (most_no n _ _ _ f _ hl (hf.kept k1) hne).mono ?_
    rintro e w2 ⟨rfl, k2⟩
    have q2 := k1.trans k2
    clear k1 k2
    go_wp2_with fail
    refine (mapCheck_any _ _ _ _ f _ hl (hf.kept q2)).mono ?_
    rintro e w3 ⟨rfl, rfl⟩
    go_wp2_with fail
    go_ret
    exact ⟨rfl, q2⟩
end Go.Proofs.Ytmdlfngdmlhpmaa.fixTarskiDone
