/- Words of 32 bits in a walk: 'W x' is the number of the word x. Rules of the walk, without conditions. -/
import Derived.WalkKit
namespace Go.Proofs.Ytekpifobhgjepaa
open Go Go.RowKit

/-- The number of a word. -/
def W (x : BitVec 32) : Int := (x.toNat : Int)

theorem W_def (x : BitVec 32) : W x = (x.toNat : Int) := rfl
theorem W_lt (x : BitVec 32) : W x < 4294967296 := by unfold W; have := x.isLt; omega
theorem W_nonneg (x : BitVec 32) : 0 ≤ W x := by unfold W; omega
theorem W_inj {x y : BitVec 32} : W x = W y ↔ x = y := by
  unfold W
  rw [Int.natCast_inj, BitVec.toNat_inj]

theorem bvOfInt (x : BitVec 32) : BitVec.ofInt 32 (W x) = x := by
  unfold W
  rw [BitVec.ofInt_natCast, BitVec.ofNat_toNat, BitVec.setWidth_eq]
theorem wrapW (x : BitVec 32) : IntKind.u32.wrap (x.toNat : Int) = W x := by
  unfold W
  rw [IntKind.wrap_u32]
  have := x.isLt
  omega
theorem bvOf {n : Int} (h0 : 0 ≤ n) (h1 : n < 4294967296) : ∃ x : BitVec 32, n = W x := by
  refine ⟨BitVec.ofInt 32 n, ?_⟩
  unfold W
  rw [BitVec.toNat_ofInt]
  omega
theorem bvOf_wf {n : Int} (h : (Lit.int .u32 n).wf = true) : ∃ x : BitVec 32, n = W x := by
  simp [Lit.wf, IntKind.min, IntKind.max, IntKind.signed, IntKind.bits] at h
  exact bvOf (by omega) (by omega)
theorem wf_W (x : BitVec 32) : (Lit.int .u32 (W x)).wf = true := by
  have h0 := W_nonneg x
  have h1 := W_lt x
  simp [Lit.wf, IntKind.min, IntKind.max, IntKind.signed, IntKind.bits]
  omega

@[go_sem] theorem bits_or_W (x y : BitVec 32) : bits .or .u32 (W x) (W y) = W (x ||| y) := by
  show IntKind.u32.wrap ((BitVec.ofInt 32 (W x) ||| BitVec.ofInt 32 (W y)).toNat : Int) = _
  rw [bvOfInt, bvOfInt, wrapW]
@[go_sem] theorem bits_and_W (x y : BitVec 32) : bits .and .u32 (W x) (W y) = W (x &&& y) := by
  show IntKind.u32.wrap ((BitVec.ofInt 32 (W x) &&& BitVec.ofInt 32 (W y)).toNat : Int) = _
  rw [bvOfInt, bvOfInt, wrapW]
@[go_sem] theorem bits_xor_W (x y : BitVec 32) : bits .xor .u32 (W x) (W y) = W (x ^^^ y) := by
  show IntKind.u32.wrap ((BitVec.ofInt 32 (W x) ^^^ BitVec.ofInt 32 (W y)).toNat : Int) = _
  rw [bvOfInt, bvOfInt, wrapW]
@[go_sem] theorem bits_andNot_W (x y : BitVec 32) : bits .andNot .u32 (W x) (W y) = W (x &&& ~~~y) := by
  show IntKind.u32.wrap ((BitVec.ofInt 32 (W x) &&& ~~~BitVec.ofInt 32 (W y)).toNat : Int) = _
  rw [bvOfInt, bvOfInt, wrapW]
theorem W_zero : W 0#32 = 0 := rfl
theorem W_one : W 1#32 = 1 := rfl
@[go_sem] theorem bits_and_W1 (x : BitVec 32) : bits .and .u32 (W x) 1 = W (x &&& 1#32) := bits_and_W x 1#32
@[go_sem] theorem bits_or_0W (x : BitVec 32) : bits .or .u32 0 (W x) = W x := by rw [← W_zero, bits_or_W]; simp
@[go_sem] theorem bits_or_W0 (x : BitVec 32) : bits .or .u32 (W x) 0 = W x := by rw [← W_zero, bits_or_W]; simp
@[go_sem] theorem bits_or_W1 (x : BitVec 32) : bits .or .u32 (W x) 1 = W (x ||| 1#32) := bits_or_W x 1#32
@[go_sem] theorem bits_andNot_W1 (x : BitVec 32) : bits .andNot .u32 (W x) 1 = W (x &&& ~~~1#32) := bits_andNot_W x 1#32
@[go_sem] theorem W_shr (x : BitVec 32) (k : Nat) : W x / 2 ^ k = W (x >>> k) := by
  unfold W
  rw [BitVec.toNat_ushiftRight, Nat.shiftRight_eq_div_pow, Int.natCast_ediv]
  rfl
theorem pow_cast (k : Nat) : ((2 : Int) ^ k) = ((2 ^ k : Nat) : Int) := by
  rw [Int.natCast_pow]; rfl
@[go_sem] theorem W_shl (x : BitVec 32) (k : Nat) : IntKind.u32.wrap (W x * 2 ^ k) = W (x <<< k) := by
  unfold W
  rw [IntKind.wrap_u32, BitVec.toNat_shiftLeft, Nat.shiftLeft_eq, pow_cast, ← Int.natCast_mul]
  omega
@[go_sem] theorem one_shl (k : Nat) : IntKind.u32.wrap (2 ^ k) = W (1#32 <<< k) := by
  rw [← W_shl, W_one, Int.one_mul]
@[go_sem] theorem one_shl' (k : Nat) : IntKind.u32.wrap (1 * 2 ^ k) = W (1#32 <<< k) := by
  rw [← W_shl, W_one]
@[go_sem] theorem W_add (x y : BitVec 32) : IntKind.u32.wrap (W x + W y) = W (x + y) := by
  unfold W
  rw [IntKind.wrap_u32, BitVec.toNat_add]
  omega
@[go_sem] theorem W_add1 (x : BitVec 32) : IntKind.u32.wrap (W x + 1) = W (x + 1#32) := W_add x 1#32
@[go_sem] theorem W_sub (x y : BitVec 32) : IntKind.u32.wrap (W x - W y) = W (x - y) := by
  unfold W
  rw [IntKind.wrap_u32, BitVec.toNat_sub]
  have := x.isLt
  have := y.isLt
  omega
@[go_sem] theorem W_sub1 (x : BitVec 32) : IntKind.u32.wrap (W x - 1) = W (x - 1#32) := W_sub x 1#32
@[go_sem] theorem W_beq (x y : BitVec 32) : (W x == W y) = (x == y) := by
  rw [Bool.eq_iff_iff, beq_iff_eq, beq_iff_eq, W_inj]
@[go_sem] theorem W_bne (x y : BitVec 32) : (W x != W y) = (x != y) := by
  rw [bne, bne, W_beq]
@[go_sem] theorem W_beq0 (x : BitVec 32) : (W x == 0) = (x == 0#32) := W_beq x 0#32
@[go_sem] theorem W_bne0 (x : BitVec 32) : (W x != 0) = (x != 0#32) := W_bne x 0#32
@[go_sem] theorem W_beq1 (x : BitVec 32) : (W x == 1) = (x == 1#32) := W_beq x 1#32
@[go_sem] theorem W_bne1 (x : BitVec 32) : (W x != 1) = (x != 1#32) := W_bne x 1#32
@[go_sem] theorem W_lss (x y : BitVec 32) : (W x < W y) = (x < y) := by
  unfold W
  rw [BitVec.lt_def]
  simp
@[go_sem] theorem W_leq (x y : BitVec 32) : (W x ≤ W y) = (x ≤ y) := by
  unfold W
  rw [BitVec.le_def]
  simp
/-- A word as an index. -/
def wn (x : BitVec 32) : Nat := x.toNat
@[go_sem] theorem W_toNat (x : BitVec 32) : (W x).toNat = wn x := by
  unfold W
  exact Int.toNat_natCast _
@[go_sem] theorem W_ge0 (x : BitVec 32) : (0 ≤ W x) = True := eq_true (W_nonneg x)
theorem W_lt_nat (x : BitVec 32) (n : Nat) : (W x < (n : Int)) = (wn x < n) := by
  unfold W wn
  rw [Int.ofNat_lt]
/-! ### int's bits, on numbers that are not below 0 -/
theorem bvOfInt64 (a : Nat) (ha : a < 9223372036854775808) : (BitVec.ofInt 64 (a : Int)).toNat = a := by
  rw [BitVec.ofInt_natCast, BitVec.toNat_ofNat]
  exact Nat.mod_eq_of_lt (by omega)
theorem i64_or (a b : Nat) (ha : a < 9223372036854775808) (hb : b < 9223372036854775808) : bits .or .i64 (a : Int) (b : Int) = ((a ||| b : Nat) : Int) := by
  have hx : a ||| b < 2 ^ 63 := Nat.or_lt_two_pow (by omega) (by omega)
  show IntKind.i64.wrap ((BitVec.ofInt 64 (a : Int) ||| BitVec.ofInt 64 (b : Int)).toNat : Int) = _
  rw [BitVec.toNat_or, bvOfInt64 a ha, bvOfInt64 b hb, IntKind.wrap_i64]
  omega
theorem i64_and (a b : Nat) (ha : a < 9223372036854775808) (hb : b < 9223372036854775808) : bits .and .i64 (a : Int) (b : Int) = ((a &&& b : Nat) : Int) := by
  have hx : a &&& b < 2 ^ 63 := Nat.and_lt_two_pow _ (by omega)
  show IntKind.i64.wrap ((BitVec.ofInt 64 (a : Int) &&& BitVec.ofInt 64 (b : Int)).toNat : Int) = _
  rw [BitVec.toNat_and, bvOfInt64 a ha, bvOfInt64 b hb, IntKind.wrap_i64]
  omega
theorem i64_xor (a b : Nat) (ha : a < 9223372036854775808) (hb : b < 9223372036854775808) : bits .xor .i64 (a : Int) (b : Int) = ((a ^^^ b : Nat) : Int) := by
  have hx : a ^^^ b < 2 ^ 63 := Nat.xor_lt_two_pow (by omega) (by omega)
  show IntKind.i64.wrap ((BitVec.ofInt 64 (a : Int) ^^^ BitVec.ofInt 64 (b : Int)).toNat : Int) = _
  rw [BitVec.toNat_xor, bvOfInt64 a ha, bvOfInt64 b hb, IntKind.wrap_i64]
  omega
/-- '1 << k' on an int -/
theorem i64_pow (k : Nat) (hk : k < 63) : IntKind.i64.wrap ((2 : Int) ^ k) = ((2 ^ k : Nat) : Int) := by
  have h : (2 : Nat) ^ k < 9223372036854775808 := Nat.lt_of_lt_of_le (Nat.pow_lt_pow_right (by decide) hk) (by decide)
  rw [pow_cast, IntKind.wrap_i64]
  generalize (2 : Nat) ^ k = m at h ⊢
  omega
theorem i64_pow' (k : Nat) (hk : k < 63) : IntKind.i64.wrap ((2 : Int) ^ k) = (2 : Int) ^ k := by rw [i64_pow k hk, pow_cast]
theorem len_pow_eq {len n : Nat} (h : len = 2 ^ n) : ((len : Int) != (2 : Int) ^ n) = false := by rw [h, pow_cast]; simp
theorem len_pow_ne {len n : Nat} (h : len ≠ 2 ^ n) : ((len : Int) != (2 : Int) ^ n) = true := by rw [pow_cast, bne_iff_ne]; exact fun e => h (Int.ofNat_inj.1 e)
@[go_sem] theorem wrap64_W (x : BitVec 32) : wrap64 (W x) = W x := by
  have h0 := W_nonneg x
  have h1 := W_lt x
  exact IntWalk.wrap64_in _ ⟨by omega, by omega⟩
@[go_sem] theorem i64_wrap_W (x : BitVec 32) : IntKind.i64.wrap (W x) = W x := by
  have h0 := W_nonneg x
  have h1 := W_lt x
  rw [IntKind.wrap_i64]
  omega
@[go_sem] theorem u64_wrap_W (x : BitVec 32) : IntKind.u64.wrap (W x) = W x := by
  have h0 := W_nonneg x
  have h1 := W_lt x
  rw [IntKind.wrap_u64]
  omega
theorem nat_beq (a b : Nat) : ((a : Int) == (b : Int)) = (a == b) := by
  rw [Bool.eq_iff_iff, beq_iff_eq, beq_iff_eq]
  exact Int.ofNat_inj
end Go.Proofs.Ytekpifobhgjepaa
