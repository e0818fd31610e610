/- math/bits.OnesCount32 at any word; the reference's Size; In. -/
import Derived.Lib.BitFns
import Derived.Test.YtekpifobhgjepaaSeat
import Derived.Test.YtekpifobhgjepaaQuiet
import Derived.BigRegion
namespace Go.Proofs.Ytekpifobhgjepaa
open Go Go.RowKit
set_option linter.unusedVariables false

/-- how many bits below k -/
def popN (x : BitVec 32) : Nat → Nat
  | 0 => 0
  | k + 1 => popN x k + if x.getLsbD k then 1 else 0
theorem popN_le (x : BitVec 32) : ∀ k, popN x k ≤ k := by
  intro k
  induction k with
  | zero => exact Nat.le_refl _
  | succ k ih =>
    show popN x k + (if x.getLsbD k then 1 else 0) ≤ k + 1
    split <;> omega
theorem popN_add (x : BitVec 32) (a : Nat) : ∀ b, popN x (a + b) = popN x a + popN (x >>> a) b := by
  intro b
  induction b with
  | zero => rfl
  | succ b ih =>
    show popN x (a + b) + (if x.getLsbD (a + b) then 1 else 0) = popN x a + (popN (x >>> a) b + if (x >>> a).getLsbD b then 1 else 0)
    rw [ih, BitVec.getLsbD_ushiftRight]
    omega
theorem popN_congr {x y : BitVec 32} : ∀ k, (∀ i, i < k → x.getLsbD i = y.getLsbD i) → popN x k = popN y k := by
  intro k
  induction k with
  | zero => intro _; rfl
  | succ k ih =>
    intro h
    show popN x k + (if x.getLsbD k then 1 else 0) = popN y k + if y.getLsbD k then 1 else 0
    rw [ih (fun i hi => h i (by omega)), h k (by omega)]
set_option maxRecDepth 100000 in
theorem ones8 : ∀ n : Fin 256, Lib.onesCount n.val = popN (BitVec.ofNat 32 n.val) 8 := by decide +kernel
theorem pop_byte (x : BitVec 32) : popN x 8 = Lib.onesCount (x.toNat % 256) := by
  rw [ones8 ⟨x.toNat % 256, by omega⟩]
  refine popN_congr 8 fun i hi => ?_
  have h32 : i < 32 := by omega
  rw [BitVec.getLsbD_ofNat]
  simp only [h32, decide_true, Bool.true_and]
  rw [show (256 : Nat) = 2 ^ 8 from rfl, Nat.testBit_mod_two_pow]
  simp only [hi, decide_true, Bool.true_and]
  rfl
theorem pop_word (x : BitVec 32) : popN x 32 = Lib.onesCount (x.toNat / 16777216) + Lib.onesCount (x.toNat / 65536 % 256) + Lib.onesCount (x.toNat / 256 % 256) + Lib.onesCount (x.toNat % 256) := by
  have h := x.isLt
  have e1 := popN_add x 24 8
  have e2 := popN_add x 16 8
  have e3 := popN_add x 8 8
  have s24 : (x >>> 24).toNat = x.toNat / 16777216 := by rw [BitVec.toNat_ushiftRight, Nat.shiftRight_eq_div_pow]
  have s16 : (x >>> 16).toNat = x.toNat / 65536 := by rw [BitVec.toNat_ushiftRight, Nat.shiftRight_eq_div_pow]
  have s8 : (x >>> 8).toNat = x.toNat / 256 := by rw [BitVec.toNat_ushiftRight, Nat.shiftRight_eq_div_pow]
  rw [pop_byte (x >>> 24), s24] at e1
  rw [pop_byte (x >>> 16), s16] at e2
  rw [pop_byte (x >>> 8), s8, pop_byte x] at e3
  have m24 : x.toNat / 16777216 % 256 = x.toNat / 16777216 := by omega
  rw [m24] at e1
  show popN x (24 + 8) = _
  rw [e1, show (24 : Nat) = 16 + 8 from rfl, e2, show (16 : Nat) = 8 + 8 from rfl, e3]
  omega
theorem pop8_natO (n : Nat) (h : n ≤ 255) : Lib.pop8 (n : Int) = (Lib.onesCount n : Int) := Lib.pop8_eq ⟨n, by omega⟩
theorem ones_leO (n : Nat) (h : n ≤ 255) : Lib.onesCount n ≤ 8 := Lib.onesCount_le8 ⟨n, by omega⟩
theorem bits_and255 (x : Int) (h0 : 0 ≤ x) (h1 : x < 4294967296) : bits .and .u32 x 255 = x % 256 := by
  obtain ⟨n, rfl⟩ := Int.eq_ofNat_of_zero_le h0
  have h := bits_and_W (BitVec.ofNat 32 n) 255#32
  have e1 : W (BitVec.ofNat 32 n) = (n : Int) := by unfold W; rw [BitVec.toNat_ofNat, Nat.mod_eq_of_lt (by omega)]
  have e2 : W 255#32 = 255 := rfl
  have e3 : W (BitVec.ofNat 32 n &&& 255#32) = ((n % 256 : Nat) : Int) := by
    unfold W
    rw [BitVec.toNat_and, BitVec.toNat_ofNat, Nat.mod_eq_of_lt (by omega), show (255#32).toNat = 2 ^ 8 - 1 from rfl, Nat.and_two_pow_sub_one_eq_mod]
  rw [e1, e2, e3] at h
  rw [h]
  omega
set_option maxRecDepth 100000 in
theorem onesIntO (x d q r a b c : Int) (h0 : 0 ≤ x) (h1 : x < 4294967296) (e24 : x / 16777216 = d) (e16 : x / 65536 = q) (e8 : x / 256 = r) (hc : q % 256 = c) (hb : r % 256 = b) (ha : x % 256 = a) (w : World) :
    Calls Try.prog 54 #[.int .u32 x] w fun e w' => e = .returned (.int .i64 (Lib.onesCount d.toNat + Lib.onesCount c.toNat + Lib.onesCount b.toNat + Lib.onesCount a.toNat : Nat)) ∧ Kept w w' := by
  have f16 : bits .and .u32 q 255 = c := by rw [bits_and255 q (by omega) (by omega), hc]
  have f8 : bits .and .u32 r 255 = b := by rw [bits_and255 r (by omega) (by omega), hb]
  have f0 : bits .and .u32 x 255 = a := by rw [bits_and255 x h0 h1, ha]
  have fd : bits .and .u32 d 255 = d := by rw [bits_and255 d (by omega) (by omega)]; omega
  have hd0 : 0 ≤ d := by omega
  have hd1 : d ≤ 255 := by omega
  have hc0 : 0 ≤ c := by omega
  have hc1 : c ≤ 255 := by omega
  have hb0 : 0 ≤ b := by omega
  have hb1 : b ≤ 255 := by omega
  have ha0 : 0 ≤ a := by omega
  have ha1 : a ≤ 255 := by omega
  have hq0 : 0 ≤ q := by omega
  have hr0 : 0 ≤ r := by omega
  clear ha hb hc
  go_enter Try.func54, Try.ntmps54
  go_wp2_with fail
  go_region
  go_wp2_with fail
  go_ret
  refine ⟨congrArg Ending.returned (congrArg (Value.int IntKind.i64) ?_), (Kept.refl _).drew⟩
  obtain ⟨nd, rfl⟩ := Int.eq_ofNat_of_zero_le hd0
  obtain ⟨nc, rfl⟩ := Int.eq_ofNat_of_zero_le hc0
  obtain ⟨nb, rfl⟩ := Int.eq_ofNat_of_zero_le hb0
  obtain ⟨na, rfl⟩ := Int.eq_ofNat_of_zero_le ha0
  simp only [Int.toNat_natCast]
  have l1 := ones_leO nd (by omega)
  have l2 := ones_leO nc (by omega)
  have l3 := ones_leO nb (by omega)
  have l4 := ones_leO na (by omega)
  show (Lib.pop8 (nd : Int) + Lib.pop8 (nc : Int) + Lib.pop8 (nb : Int) + Lib.pop8 (na : Int)) % 256 = _
  rw [pop8_natO _ (by omega), pop8_natO _ (by omega), pop8_natO _ (by omega), pop8_natO _ (by omega)]
  omega
/-- the number of a word's ones -/
theorem onesO_any (p : BitVec 32) (w : World) : Calls Try.prog 54 #[.int .u32 (W p)] w fun e w' => e = .returned (.int .i64 (popN p 32)) ∧ Kept w w' := by
  have hp := p.isLt
  have h := onesIntO (W p) ((W p) / 16777216) ((W p) / 65536) ((W p) / 256) ((W p) % 256) ((W p) / 256 % 256) ((W p) / 65536 % 256) (W_nonneg p) (W_lt p) rfl rfl rfl rfl rfl rfl w
  have e := pop_word p
  have e1 : ((W p) / 16777216).toNat = p.toNat / 16777216 := by unfold W; omega
  have e2 : ((W p) / 65536 % 256).toNat = p.toNat / 65536 % 256 := by unfold W; omega
  have e3 : ((W p) / 256 % 256).toNat = p.toNat / 256 % 256 := by unfold W; omega
  have e4 : ((W p) % 256).toNat = p.toNat % 256 := by unfold W; omega
  rw [e1, e2, e3, e4, ← e] at h
  exact h
/-- what the statements ask of words -/
theorem inO_any (x y : BitVec 32) (w : World) : Calls Try.prog 18 #[.int .u32 (W x), .int .u32 (W y)] w fun e w' => e = .returned (.bool (subB x y)) ∧ w = w' := by
  go_enter Try.func18, Try.ntmps18
  go_wp2
  go_ret
  exact ⟨rfl, rfl⟩
theorem bitO_any (x : BitVec 32) (i : Nat) (hi : i < 32) (w : World) : Calls Try.prog 23 #[.int .u32 (W x), .int .i64 i] w fun e w' => e = .returned (.bool (x.getLsbD i)) ∧ w = w' := by
  have h1 : decide (0 ≤ (i : Int)) = true := by simp
  have h2 : decide ((i : Int) < 32) = true := by simp; omega
  go_enter Try.func23, Try.ntmps23
  go_wp2
  go_ret
  exact ⟨rfl, rfl⟩
theorem sizeO_any (x : BitVec 32) (w : World) : Calls Try.prog 17 #[.int .u32 (W x)] w fun e w' => e = .returned (.int .i64 (popN x 32)) ∧ w = w' := by
  go_enter Try.func17, Try.ntmps17
  go_wp2_with fail
  go_loop [3, 4] (fun s t => ∃ k : Nat, k ≤ 32 ∧ t = .int .i64 k ∧ s = .int .i64 (popN x k)) (fun _ t => 32 - (intOf t).toNat)
  case atStart => exact ⟨0, by omega, rfl, rfl⟩
  case round =>
    obtain ⟨k, hk, rfl, rfl⟩ := hrel
    have hle := popN_le x k
    by_cases hlt : k < 32
    · have hi2 : (k : Int) < 32 := by omega
      have HS := Lib.hid (show popN x (k + 1) = popN x k + if x.getLsbD k then 1 else 0 from rfl)
      cases hb : x.getLsbD k
      · have HB := Lib.hid hb
        go_wp2_with fail
        refine (bitO_any x k hlt _).mono ?_
        rintro e w' ⟨rfl, rfl⟩
        rw [HB.out]
        go_wp2_with fail
        go_round
        case rel => exact ⟨k + 1, by omega, by go_num, by rw [HS.out, HB.out]; rfl⟩
        case measure => simp [intOf]; omega
      · have HB := Lib.hid hb
        go_wp2_with fail
        refine (bitO_any x k hlt _).mono ?_
        rintro e w' ⟨rfl, rfl⟩
        rw [HB.out]
        go_wp2_with fail
        go_round
        case rel => exact ⟨k + 1, by omega, by go_num, by rw [HS.out, HB.out]; rfl⟩
        case measure => simp [intOf]; omega
    · have HK := Lib.hid (show k = 32 by omega)
      go_wp2_with fail
      go_ret
      exact ⟨by rw [← HK.out]; rfl, rfl⟩
end Go.Proofs.Ytekpifobhgjepaa
