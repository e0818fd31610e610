/- The walks of package fix: from a set on; Least, Most, Rises, All. -/
import Derived.Test.YtmdlfngdmlhpmaaFix3
namespace Go.Proofs.Ytmdlfngdmlhpmaa
open Go Go.RowKit
set_option linter.unusedVariables false

/-- the end of the way up, or down -/
def IsEnd (up : Bool) (n : Nat) (f : List (BitVec 32)) (a : BitVec 32) : Prop := FInv up n f a ∧ go1 f a = a
def RetEnd (up : Bool) (n : Nat) (f : List (BitVec 32)) (w : World) (e : Ending) (w' : World) : Prop :=
  ∃ a, e = .returned (.tuple #[.int .u32 (W a), .int .i64 0]) ∧ IsEnd up n f a ∧ Kept w w'

set_option maxHeartbeats 400000 in
theorem from_ok (up : Bool) (n : Nat) (A : Option Addr) (len c : Nat) (f : List (BitVec 32)) (s : BitVec 32) (w : World) (hl : len ≤ maxLen) (hf : SlW w A len f) (hc : mapF n f = 0) (hr : risesB f = true) (hs : FInv up n f s) :
    Calls Try.prog 39 #[.int .i64 n, .slice A len c, .int .u32 (W s)] w (RetEnd up n f w) := by
  obtain ⟨hc1, hc2, hc3, hc4⟩ := mapF_zero hc
  rw [Int.toNat_natCast] at hc3 hc4
  have hn5 : n ≤ 5 := by omega
  have hm : MapOk n f := mapOk (by omega) hc3 hc4 hr
  have hlen : len = 2 ^ n := hf.2.symm.trans hc3
  have hlp : 0 < len := by have : 0 < 2 ^ n := Nat.pow_pos (by omega); omega
  have HLE := Lib.hid hlen
  have HC := Lib.hid hc
  have HR := Lib.hid hr
  clear hc hr hc1 hc2 hc3 hc4 hlen
  go_enter Try.func39, Try.ntmps39
  go_wp2_with fail
  refine (wrong_any _ _ _ _ f _ hl hf).mono ?_
  rintro e w1 ⟨rfl, k1⟩
  rw [HC.out]
  go_wp2_with fail
  refine (rises_any n hn5 _ _ _ f _ HLE.out (hf.kept k1)).mono ?_
  rintro e w2 ⟨rfl, rfl⟩
  rw [HR.out]
  obtain ⟨b0, off, hA, hb0, hcs⟩ := (hf.kept k1).open_ hlp
  subst hA
  have HCS := Lib.hid hcs
  clear hcs
  go_wp2_with fail
  go_loop [2] (fun t => ∃ a : BitVec 32, t = .int .u32 (W a) ∧ FInv up n f a) (fun t => fMeas up (intOf t))
  case atStart => exact ⟨s, rfl, hs⟩
  case round =>
    obtain ⟨a, rfl, hinv⟩ := hrel
    have hlt : wn a < len := by rw [HLE.out]; exact (fit_toNat hm.1).1 hinv.1
    have ca := HCS.out (wn a) hlt
    have hW : W a < (len : Int) := by rw [W_lt_nat]; exact hlt
    have HI := Lib.hid hinv
    have HM := Lib.hid hm
    cases hb : (nth f (wn a) != a)
    · have HB := Lib.hid hb
      clear hinv hm
      go_wp2_with fail
      go_ret2
      exact ⟨a, rfl, ⟨HI.out, by have := HB.out; unfold go1; simpa using this⟩, k1⟩
    · have HB := Lib.hid hb
      clear hinv hm
      go_wp2_with fail
      go_round
      case rel => exact ⟨go1 f a, rfl, HI.out.step HM.out⟩
      case measure => exact HI.out.meas HB.out

theorem from_no (n : Int) (A : Option Addr) (len c : Nat) (f : List (BitVec 32)) (z : Int) (w : World) (hl : len ≤ maxLen) (hf : SlW w A len f) (hc : (mapF n f != 0) = true) :
    Calls Try.prog 39 #[.int .i64 n, .slice A len c, .int .u32 z] w fun e w' => e = .returned (.tuple #[.int .u32 0, .int .i64 (mapF n f)]) ∧ Kept w w' := by
  go_enter Try.func39, Try.ntmps39
  go_wp2_with fail
  refine (wrong_any _ _ _ _ f _ hl hf).mono ?_
  rintro e w1 ⟨rfl, k1⟩
  go_wp2_with fail
  go_ret2
  exact ⟨rfl, k1⟩
theorem from_fall (n : Nat) (A : Option Addr) (len c : Nat) (f : List (BitVec 32)) (z : Int) (w : World) (hl : len ≤ maxLen) (hf : SlW w A len f) (hc : mapF n f = 0) (hr : risesB f = false) :
    Calls Try.prog 39 #[.int .i64 n, .slice A len c, .int .u32 z] w fun e w' => e = .returned (.tuple #[.int .u32 0, .int .i64 5]) ∧ Kept w w' := by
  obtain ⟨hc1, hc2, hc3, hc4⟩ := mapF_zero hc
  rw [Int.toNat_natCast] at hc3 hc4
  have HLE := Lib.hid (show len = 2 ^ n from hf.2.symm.trans hc3)
  have HC := Lib.hid hc
  have HR := Lib.hid hr
  clear hc hr hc1 hc3 hc4
  go_enter Try.func39, Try.ntmps39
  go_wp2_with fail
  refine (wrong_any _ _ _ _ f _ hl hf).mono ?_
  rintro e w1 ⟨rfl, k1⟩
  rw [HC.out]
  go_wp2_with fail
  refine (rises_any n (by omega) _ _ _ f _ HLE.out (hf.kept k1)).mono ?_
  rintro e w2 ⟨rfl, rfl⟩
  rw [HR.out]
  go_wp2_with fail
  go_ret2
  exact ⟨rfl, k1⟩

theorem least_ok (n : Nat) (A : Option Addr) (len c : Nat) (f : List (BitVec 32)) (w : World) (hl : len ≤ maxLen) (hf : SlW w A len f) (hc : mapF n f = 0) (hr : risesB f = true) :
    Calls Try.prog 22 #[.int .i64 n, .slice A len c] w (RetEnd true n f w) := by
  go_enter Try.func22, Try.ntmps22
  go_wp2_with fail
  refine (from_ok true n _ _ _ f 0#32 _ hl hf hc hr FInv.start_up).mono ?_
  rintro e w1 ⟨a, rfl, h1, k1⟩
  have H1 := Lib.hid h1
  clear h1 hc hr
  go_wp2_with fail
  go_ret2
  exact ⟨a, rfl, H1.out, k1⟩
theorem most_ok (n : Nat) (A : Option Addr) (len c : Nat) (f : List (BitVec 32)) (w : World) (hl : len ≤ maxLen) (hf : SlW w A len f) (hc : mapF n f = 0) (hr : risesB f = true) :
    Calls Try.prog 23 #[.int .i64 n, .slice A len c] w (RetEnd false n f w) := by
  obtain ⟨hc1, hc2, hc3, hc4⟩ := mapF_zero hc
  rw [Int.toNat_natCast] at hc3 hc4
  have hm : MapOk n f := mapOk (by omega) hc3 hc4 hr
  have hlen : len = 2 ^ n := hf.2.symm.trans hc3
  have hp : (2 : Nat) ^ n ≤ 32 := Nat.le_trans (Nat.pow_le_pow_right (by omega) (show n ≤ 5 by omega)) (by omega)
  have hlp : 1 ≤ len := by have : 0 < 2 ^ n := Nat.pow_pos (by omega); omega
  have hl32 : len ≤ 32 := by omega
  have hlp' : (1 : Int) ≤ (len : Int) := by omega
  have HF := Lib.hid (show (len : Int) - 1 = W (1#32 <<< n - 1#32) by
    unfold W
    rw [BitVec.toNat_sub, one_shl_toNat n hm.1, ← hlen]
    simp
    omega)
  have HM := Lib.hid hm
  have HC := Lib.hid hc
  have HR := Lib.hid hr
  clear hlen hp hc hr hc1 hc2 hc3 hc4 hm
  go_enter Try.func23, Try.ntmps23
  go_wp2_with fail
  rw [HF.out]
  refine (from_ok false n _ _ _ f _ _ hl hf HC.out HR.out (FInv.start_down HM.out)).mono ?_
  rintro e w1 ⟨a, rfl, h1, k1⟩
  have H1 := Lib.hid h1
  clear h1
  go_wp2_with fail
  go_ret2
  exact ⟨a, rfl, H1.out, k1⟩
theorem least_no (n : Int) (A : Option Addr) (len c : Nat) (f : List (BitVec 32)) (w : World) (hl : len ≤ maxLen) (hf : SlW w A len f) (hc : (mapF n f != 0) = true) :
    Calls Try.prog 22 #[.int .i64 n, .slice A len c] w fun e w' => e = .returned (.tuple #[.int .u32 0, .int .i64 (mapF n f)]) ∧ Kept w w' := by
  go_enter Try.func22, Try.ntmps22
  go_wp2_with fail
  refine (from_no n _ _ _ f _ _ hl hf hc).mono ?_
  rintro e w1 ⟨rfl, k1⟩
  go_wp2_with fail
  go_ret2
  exact ⟨rfl, k1⟩
theorem least_fall (n : Nat) (A : Option Addr) (len c : Nat) (f : List (BitVec 32)) (w : World) (hl : len ≤ maxLen) (hf : SlW w A len f) (hc : mapF n f = 0) (hr : risesB f = false) :
    Calls Try.prog 22 #[.int .i64 n, .slice A len c] w fun e w' => e = .returned (.tuple #[.int .u32 0, .int .i64 5]) ∧ Kept w w' := by
  have HC := Lib.hid hc
  have HR := Lib.hid hr
  clear hc hr
  go_enter Try.func22, Try.ntmps22
  go_wp2_with fail
  refine (from_fall n _ _ _ f _ _ hl hf HC.out HR.out).mono ?_
  rintro e w1 ⟨rfl, k1⟩
  go_wp2_with fail
  go_ret2
  exact ⟨rfl, k1⟩
theorem most_no (n : Int) (A : Option Addr) (len c : Nat) (f : List (BitVec 32)) (w : World) (hl : len ≤ maxLen) (hf : SlW w A len f) (hc : (mapF n f != 0) = true) :
    Calls Try.prog 23 #[.int .i64 n, .slice A len c] w fun e w' => e = .returned (.tuple #[.int .u32 0, .int .i64 (mapF n f)]) ∧ Kept w w' := by
  by_cases h0 : len = 0
  · subst h0
    go_enter Try.func23, Try.ntmps23
    go_wp2_with fail
    refine (from_no n _ _ _ f _ _ hl hf hc).mono ?_
    rintro e w1 ⟨rfl, k1⟩
    go_wp2_with fail
    go_ret2
    exact ⟨rfl, k1⟩
  · have hlp' : (1 : Int) ≤ (len : Int) := by omega
    go_enter Try.func23, Try.ntmps23
    go_wp2_with fail
    refine (from_no n _ _ _ f _ _ hl hf hc).mono ?_
    rintro e w1 ⟨rfl, k1⟩
    go_wp2_with fail
    go_ret2
    exact ⟨rfl, k1⟩
theorem most_fall (n : Nat) (A : Option Addr) (len c : Nat) (f : List (BitVec 32)) (w : World) (hl : len ≤ maxLen) (hf : SlW w A len f) (hc : mapF n f = 0) (hr : risesB f = false) :
    Calls Try.prog 23 #[.int .i64 n, .slice A len c] w fun e w' => e = .returned (.tuple #[.int .u32 0, .int .i64 5]) ∧ Kept w w' := by
  obtain ⟨hc1, hc2, hc3, hc4⟩ := mapF_zero hc
  rw [Int.toNat_natCast] at hc3 hc4
  have hlen : len = 2 ^ n := hf.2.symm.trans hc3
  have hlp' : (1 : Int) ≤ (len : Int) := by have : 0 < 2 ^ n := Nat.pow_pos (by omega); omega
  have HC := Lib.hid hc
  have HR := Lib.hid hr
  clear hlen hc hr hc1 hc2 hc3 hc4
  go_enter Try.func23, Try.ntmps23
  go_wp2_with fail
  refine (from_fall n _ _ _ f _ _ hl hf HC.out HR.out).mono ?_
  rintro e w1 ⟨rfl, k1⟩
  go_wp2_with fail
  go_ret2
  exact ⟨rfl, k1⟩
theorem risesX_ok (n : Nat) (A : Option Addr) (len c : Nat) (f : List (BitVec 32)) (w : World) (hl : len ≤ maxLen) (hf : SlW w A len f) (hc : mapF n f = 0) :
    Calls Try.prog 24 #[.int .i64 n, .slice A len c] w fun e w' => e = .returned (.tuple #[.bool (risesB f), .int .i64 0]) ∧ Kept w w' := by
  obtain ⟨hc1, hc2, hc3, hc4⟩ := mapF_zero hc
  rw [Int.toNat_natCast] at hc3 hc4
  have HLE := Lib.hid (show len = 2 ^ n from hf.2.symm.trans hc3)
  have HC := Lib.hid hc
  clear hc hc1 hc3 hc4
  go_enter Try.func24, Try.ntmps24
  go_wp2_with fail
  refine (wrong_any _ _ _ _ f _ hl hf).mono ?_
  rintro e w1 ⟨rfl, k1⟩
  rw [HC.out]
  go_wp2_with fail
  refine (rises_any n (by omega) _ _ _ f _ HLE.out (hf.kept k1)).mono ?_
  rintro e w2 ⟨rfl, rfl⟩
  go_wp2_with fail
  go_ret2
  exact ⟨rfl, k1⟩

/-- the fixed sets among the first k -/
def fixedTo (f : List (BitVec 32)) : Nat → List (BitVec 32)
  | 0 => []
  | k + 1 => fixedTo f k ++ (if (nth f k).toNat == k then [nth f k] else [])
theorem fixedTo_length (f : List (BitVec 32)) (k : Nat) : (fixedTo f k).length ≤ k := by
  induction k with
  | zero => simp [fixedTo]
  | succ k ih =>
    unfold fixedTo
    rw [List.length_append]
    split <;> simp <;> omega

set_option maxHeartbeats 400000 in
theorem fixAll_ok (n : Nat) (A : Option Addr) (len c : Nat) (f : List (BitVec 32)) (w : World) (hl : len ≤ maxLen) (hf : SlW w A len f) (hc : mapF n f = 0) :
    Calls Try.prog 19 #[.int .i64 n, .slice A len c] w (RetWords w (fixedTo f f.length)) := by
  obtain ⟨hc1, hc2, hc3, hc4⟩ := mapF_zero hc
  rw [Int.toNat_natCast] at hc3 hc4
  have hlen : len = 2 ^ n := hf.2.symm.trans hc3
  have hp : (2 : Nat) ^ n ≤ 32 := Nat.le_trans (Nat.pow_le_pow_right (by omega) (show n ≤ 5 by omega)) (by omega)
  have hl32 : len ≤ 32 := by omega
  have hlp : 0 < len := by have : 0 < 2 ^ n := Nat.pow_pos (by omega); omega
  have HFE := Lib.hid hf.2
  have HC := Lib.hid hc
  clear hc hc1 hc2 hc3 hc4 hlen hp
  obtain ⟨b0, off, rfl, hb0, hcs⟩ := hf.open_ hlp
  have HCS := Lib.hid hcs
  clear hcs
  go_enter Try.func19, Try.ntmps19
  go_wp2_with fail
  refine (wrong_any _ _ _ _ f _ hl hf).mono ?_
  rintro e w1 ⟨rfl, k1⟩
  rw [HC.out]
  go_wp2_with fail
  go_loopw [7, 18] (fun l i wr => ∃ k : Nat, k ≤ len ∧ i = .int .i64 k ∧ Own w wr 23 1 l (fixedTo f k).length ((fixedTo f k).map wv)) (fun _ i _ => len - (intOf i).toNat)
  case atStart => exact ⟨0, Nat.zero_le _, rfl, Own.start k1⟩
  case round =>
    obtain ⟨k, hk, rfl, hown⟩ := hrel
    by_cases hlt : k < len
    · have ck := (hown.2.cell (p := ⟨b0, off + k, none⟩) hb0).trans (HCS.out k hlt)
      have hle := fixedTo_length f k
      cases hb : (nth f k).toNat == k
      · have HB := Lib.hid hb
        have hb2 : (W (nth f k) == (k : Int)) = false := by unfold W; rw [nat_beq]; exact hb
        clear hb
        go_wp2_with fail
        go_roundw
        case rel => exact ⟨k + 1, by omega, by go_num, by unfold fixedTo; rw [HB.out]; simpa using hown⟩
        case measure => simp [intOf]; omega
      · have HB := Lib.hid hb
        have hb2 : (W (nth f k) == (k : Int)) = true := by unfold W; rw [nat_beq]; exact hb
        clear hb
        go_wp2_with (at_builtin; refine wpList_push rfl _ _ 36 rfl 23 Try.underlying36 info_u32 rfl (by decide) (by decide) _ _ _ _ hown #[.int .u32 (W (nth f k))] _ _ 1 1 rfl rfl rfl rfl (one_u32 _) (by omega) ?_; intro v' w4 hown4 _)
        go_roundw
        case rel => exact ⟨k + 1, by omega, by go_num, by unfold fixedTo; rw [HB.out]; simpa [wv] using hown4⟩
        case measure => simp [intOf]; omega
    · have HK := Lib.hid (show k = f.length by rw [HFE.out]; omega)
      go_wp2_with fail
      go_ret2
      rw [HK.out] at hown
      exact RetWords.mk hown
theorem fixAll_no (n : Int) (A : Option Addr) (len c : Nat) (f : List (BitVec 32)) (w : World) (hl : len ≤ maxLen) (hf : SlW w A len f) (hc : (mapF n f != 0) = true) :
    Calls Try.prog 19 #[.int .i64 n, .slice A len c] w fun e w' => e = .returned (.tuple #[.slice none 0 0, .int .i64 (mapF n f)]) ∧ Kept w w' := by
  go_enter Try.func19, Try.ntmps19
  go_wp2_with fail
  refine (wrong_any _ _ _ _ f _ hl hf).mono ?_
  rintro e w1 ⟨rfl, k1⟩
  go_wp2_with fail
  go_ret2
  exact ⟨rfl, k1⟩
end Go.Proofs.Ytmdlfngdmlhpmaa
