/- math/bits at small words: OnesCount32, Len32. -/
import Derived.Test.YtekpifobhgjepaaBitsP
import Derived.Test.YtekpifobhgjepaaSeat
import Derived.Test.YtekpifobhgjepaaQuiet
import Derived.BigRegion
namespace Go.Proofs.Ytekpifobhgjepaa
open Go Go.RowKit
set_option linter.unusedVariables false

theorem bits_and (x : Int) (h0 : 0 ≤ x) (h1 : x ≤ 4095) : bits .and .u32 x 255 = x % 256 := by
  obtain ⟨n, rfl⟩ := Int.eq_ofNat_of_zero_le h0
  have h := bits_and_W (BitVec.ofNat 32 n) 255#32
  have e1 : W (BitVec.ofNat 32 n) = (n : Int) := by unfold W; rw [BitVec.toNat_ofNat, Nat.mod_eq_of_lt (by omega)]
  have e2 : W 255#32 = 255 := rfl
  have e3 : W (BitVec.ofNat 32 n &&& 255#32) = ((n % 256 : Nat) : Int) := by
    unfold W
    rw [BitVec.toNat_and, BitVec.toNat_ofNat, Nat.mod_eq_of_lt (by omega), show (255#32).toNat = 2 ^ 8 - 1 from rfl, Nat.and_two_pow_sub_one_eq_mod]
  rw [e1, e2, e3] at h
  rw [h]
  omega
set_option maxRecDepth 100000 in
theorem onesInt (x a b : Int) (h0 : 0 ≤ x) (h1 : x ≤ 4095) (ha : x / 256 = a) (hb : x % 256 = b) (w : World) : Calls Try.prog 54 #[.int .u32 x] w fun e w' => e = .returned (.int .i64 (Lib.onesCount x.toNat)) ∧ Kept w w' := by
  have e24 : x / 16777216 = 0 := by omega
  have e16 : x / 65536 = 0 := by omega
  have f0 : bits .and .u32 0 255 = 0 := by kernel_rfl
  have fa : bits .and .u32 a 255 = a := by rw [bits_and a (by omega) (by omega)]; omega
  have fx : bits .and .u32 x 255 = b := by rw [bits_and x h0 h1, hb]
  have ha0 : 0 ≤ a := by omega
  have ha1 : a ≤ 255 := by omega
  have hb0 : 0 ≤ b := by omega
  have hb1 : b ≤ 255 := by omega
  have HA := Lib.hid ha
  have HB := Lib.hid hb
  clear hb
  go_enter Try.func54, Try.ntmps54
  go_wp2_with fail
  go_region
  go_wp2_with fail
  go_ret
  refine ⟨congrArg Ending.returned (congrArg (Value.int IntKind.i64) ?_), (Kept.refl _).drew⟩
  obtain ⟨n, rfl⟩ := Int.eq_ofNat_of_zero_le h0
  have en : a = ((n / 256 : Nat) : Int) := by have := HA.out; omega
  have em : b = ((n % 256 : Nat) : Int) := by have := HB.out; omega
  have hn : n < 4096 := by omega
  have hs := ones_sum ⟨n, hn⟩
  simp only at hs
  show (Lib.pop8 0 + Lib.pop8 0 + Lib.pop8 a + Lib.pop8 b) % 256 = _
  rw [en, em, pop8_nat _ (by omega), pop8_nat _ (by omega), show Lib.pop8 0 = 0 by decide +kernel, Int.toNat_natCast, ← hs]
  have l1 := ones_le (n / 256) (by omega)
  have l2 := ones_le (n % 256) (by omega)
  omega
/-- the number of a word's ones, at words below 2^12 -/
theorem ones_any (p : BitVec 32) (hp : fitB 12 p = true) (w : World) : Calls Try.prog 54 #[.int .u32 (W p)] w fun e w' => e = .returned (.int .i64 (Lib.onesCount p.toNat)) ∧ Kept w w' := by
  have hlt : p.toNat < 4096 := by
    rw [fitB_lt (by omega), decide_eq_true_eq, BitVec.lt_def] at hp
    exact hp
  have h := onesInt (W p) ((W p) / 256) ((W p) % 256) (by unfold W; omega) (by unfold W; omega) rfl rfl w
  have e : (W p).toNat = p.toNat := by unfold W; omega
  rw [e] at h
  exact h
set_option maxRecDepth 100000 in
theorem lenInt (x : Int) (h0 : 0 ≤ x) (h1 : x ≤ 63) (w : World) : Calls Try.prog 55 #[.int .u32 x] w fun e w' => e = .returned (.int .i64 (Lib.bitLen x.toNat)) ∧ Kept w w' := by
  have d1 : decide (65536 ≤ x) = false := by simp; omega
  have d2 : decide (256 ≤ x) = false := by simp; omega
  have e8 : x % 256 = x := by omega
  have h255 : x ≤ 255 := by omega
  go_enter Try.func55, Try.ntmps55
  go_wp2_with fail
  go_ret
  refine ⟨congrArg Ending.returned (congrArg (Value.int IntKind.i64) ?_), Kept.refl _⟩
  obtain ⟨n, rfl⟩ := Int.eq_ofNat_of_zero_le h0
  have hl := len8_nat n (by omega)
  show wrap64 (wrap64 (Lib.len8 n)) = _
  rw [hl.1, Int.toNat_natCast]
  have := hl.2
  unfold wrap64
  omega
/-- the length of a word below 2^6 -/
theorem len_any (p : BitVec 32) (hp : fitB 6 p = true) (w : World) : Calls Try.prog 55 #[.int .u32 (W p)] w fun e w' => e = .returned (.int .i64 (Lib.bitLen p.toNat)) ∧ Kept w w' := by
  have hlt : p.toNat < 64 := by
    rw [fitB_lt (by omega), decide_eq_true_eq, BitVec.lt_def] at hp
    exact hp
  have h := lenInt (W p) (by unfold W; omega) (by unfold W; omega) w
  have e : (W p).toNat = p.toNat := by unfold W; omega
  rw [e] at h
  exact h
end Go.Proofs.Ytekpifobhgjepaa
