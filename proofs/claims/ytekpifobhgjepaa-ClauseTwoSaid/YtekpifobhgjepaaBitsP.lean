/- Counting a small word's ones: facts by the kernel. -/
import Derived.Lib.BitFns
import Derived.Test.YtekpifobhgjepaaSl
namespace Go.Proofs.Ytekpifobhgjepaa
open Go

set_option maxRecDepth 100000 in
theorem ones_sum : ∀ n : Fin 4096, Lib.onesCount (n.val / 256) + Lib.onesCount (n.val % 256) = Lib.onesCount n.val := by decide +kernel
theorem pop8_nat (n : Nat) (h : n ≤ 255) : Lib.pop8 (n : Int) = (Lib.onesCount n : Int) := Lib.pop8_eq ⟨n, by omega⟩
theorem ones_le (n : Nat) (h : n ≤ 255) : Lib.onesCount n ≤ 8 := Lib.onesCount_le8 ⟨n, by omega⟩
set_option maxRecDepth 100000 in
theorem ones_zero : ∀ n : Fin 4096, Lib.onesCount n.val = 0 → n.val = 0 := by decide +kernel
set_option maxRecDepth 100000 in
theorem ones_one : ∀ n : Fin 4096, Lib.onesCount n.val = 1 → ∃ i : Fin 12, n.val = 2 ^ i.val := by decide +kernel
set_option maxRecDepth 100000 in
theorem ones_bits : ∀ i : Fin 12, Lib.onesCount (2 ^ i.val) = 1 := by decide +kernel
set_option maxRecDepth 100000 in
theorem ones_le12 : ∀ n : Fin 4096, Lib.onesCount n.val ≤ 12 := by decide +kernel
theorem len_top : ∀ n : Fin 64, n.val ≠ 0 → ∃ t : Fin 6, Lib.bitLen n.val = t.val + 1 ∧ n.val.testBit t.val = true ∧ ∀ j : Fin 6, t.val < j.val → n.val.testBit j.val = false := by decide +kernel
theorem len8_nat (n : Nat) (h : n ≤ 63) : Lib.len8 (n : Int) = (Lib.bitLen n : Int) ∧ Lib.bitLen n ≤ 8 := ⟨Lib.len8_eq ⟨n, by omega⟩, Lib.bitLen_le8 ⟨n, by omega⟩⟩
end Go.Proofs.Ytekpifobhgjepaa
