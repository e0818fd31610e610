/- TwoTurn: the walk of the statement. -/
import Derived.Test.YtekpifobhgjepaaTwo2
namespace Go.Proofs.Ytekpifobhgjepaa.twoTurnDone
open Go Go.RowKit
set_option linter.unusedVariables false

theorem bit_is (x : BitVec 32) (i : Nat) (hi : i < 32) (b : Bool) (hb : x.getLsbD i = b) (w : World) : Calls Try.prog 23 #[.int .u32 (W x), .int .i64 i] w fun e w' => e = .returned (.bool b) ∧ w = w' := by
  rw [← hb]
  exact satBit_any x i hi w
theorem bad (n : Int) (A : Option Addr) (len c : Nat) (rs : List Ru) (i j : Int) (w : World) (hl : len ≤ maxLen) (hs : SlR w A len rs) (h : twoF n rs ≠ 0) :
    Calls Try.prog 6 #[.int .i64 n, .slice A len c, .int .u8 i, .int .u8 j] w fun e w' => e = .returned (.bool true) ∧ Kept w w' := by
  have hl63 : len ≤ 9223372036854775807 := hl
  have h0 : (twoF n rs != 0) = true := by simpa using h
  have HH := Lib.hid h
  have HL := Lib.hid hl63
  clear h hl hl63
  go_enter Try.func6, Try.ntmps6
  go_wp2_with fail
  refine (reach2_any n A len c rs _ hs).mono ?_
  rintro e w1 ⟨k1, ⟨hz, _⟩ | ⟨_, rfl⟩⟩
  · exact absurd hz HH.out
  go_wp2_with fail
  refine (twoCheck_any n A len c rs _ (hs.kept k1) HL.out).mono ?_
  rintro e w2 ⟨rfl, k2⟩
  go_wp2_with fail
  go_ret
  exact ⟨rfl, k1.trans k2⟩
set_option maxHeartbeats 4000000 in
theorem good (n : Int) (A : Option Addr) (len c : Nat) (rs : List Ru) (i j : Int) (w : World) (hl : len ≤ maxLen) (hs : SlR w A len rs) (hi0 : 0 ≤ i) (hi1 : i ≤ 255) (hj0 : 0 ≤ j) (hj1 : j ≤ 255) (h : twoF n rs = 0) :
    Calls Try.prog 6 #[.int .i64 n, .slice A len c, .int .u8 i, .int .u8 j] w fun e w' => e = .returned (.bool true) ∧ Kept w w' := by
  have hl63 : len ≤ 9223372036854775807 := hl
  have hsat : satF n rs = 0 := by
    unfold twoF at h
    split at h
    · rename_i h2; exact absurd h h2
    · rename_i h2; simpa using h2
  obtain ⟨nn, rfl, h1, h6, _, _⟩ := satF_zero hsat
  have HH := Lib.hid h
  have HL := Lib.hid hl63
  clear h hl hl63 hsat
  obtain ⟨N, hN⟩ : ∃ N : Nat, 2 * nn = N := ⟨_, rfl⟩
  have hNi : (nn : Int) + (nn : Int) = (N : Int) := by omega
  have hN0 : 0 < N := by omega
  obtain ⟨i, rfl⟩ := Int.eq_ofNat_of_zero_le hi0
  obtain ⟨j, rfl⟩ := Int.eq_ofNat_of_zero_le hj0
  obtain ⟨a, ha⟩ : ∃ a : Nat, i % N = a := ⟨_, rfl⟩
  obtain ⟨b, hb⟩ : ∃ b : Nat, j % N = b := ⟨_, rfl⟩
  have haN : a < N := ha ▸ Nat.mod_lt _ hN0
  have hbN : b < N := hb ▸ Nat.mod_lt _ hN0
  have ea : (i : Int) % (N : Int) = (a : Int) := by omega
  have eb : (j : Int) % (N : Int) = (b : Int) := by omega
  obtain ⟨na, hna⟩ : ∃ na : Nat, negN nn a = na := ⟨_, rfl⟩
  obtain ⟨nb, hnb⟩ : ∃ nb : Nat, negN nn b = nb := ⟨_, rfl⟩
  have hnaN : na < N := by rw [← hna, ← hN]; exact negN_lt (by omega)
  have hnbN : nb < N := by rw [← hnb, ← hN]; exact negN_lt (by omega)
  have ena : ((a : Int) + (nn : Int)) % (N : Int) = (na : Int) := by rw [← hna, ← hN]; unfold negN; simp
  have enb : ((b : Int) + (nn : Int)) % (N : Int) = (nb : Int) := by rw [← hnb, ← hN]; unfold negN; simp
  go_enter Try.func6, Try.ntmps6
  go_wp2_with fail
  refine (reach2_any nn A len c rs _ hs).mono ?_
  rintro e w1 ⟨k1, ⟨_, A1, c1, rfl, hup⟩ | ⟨hz, _⟩⟩
  case inr => rw [HH.out] at hz; cases hz
  rw [Int.toNat_natCast, hN] at hup ⊢
  go_wp2_with fail
  refine (twoCheck_any nn A len c rs _ (hs.kept k1) HL.out).mono ?_
  rintro e w2 ⟨rfl, k2⟩
  rw [HH.out]
  have q2 := k1.trans k2
  obtain ⟨b1, o1, rfl, hb1, hcell⟩ := (hup.kept k2).open_ hN0
  have ca := hcell a haN
  have cb := hcell nb hnbN
  have qa := kw_cell ca
  have qb := kw_cell cb
  have t1 : (nth (upE N (edgeL nn rs)) a).getLsbD a = true := by
    rw [upE_bit (by omega) haN, ← hN, two_self rs (by omega)]
    simp; omega
  have t2 : (nth (upE N (edgeL nn rs)) a).getLsbD b = (nth (upE N (edgeL nn rs)) nb).getLsbD na := by
    rw [upE_bit (by omega) haN, upE_bit (by omega) hnbN, ← hN, two_turn rs (i := a) (j := b) (by omega) (by omega), hna, hnb]
    have g1 : decide (b < 2 * nn) = true := by simp; omega
    have g2 : decide (na < 2 * nn) = true := by simp; omega
    rw [g1, g2]
  generalize nth (upE N (edgeL nn rs)) a = x at ca qa t1 t2
  generalize nth (upE N (edgeL nn rs)) nb = y at cb qb t2
  have T1 := Lib.hid t1
  obtain ⟨v, hv⟩ : ∃ v, y.getLsbD na = v := ⟨_, rfl⟩
  rw [hv] at t2
  have T2 := Lib.hid t2
  have T3 := Lib.hid hv
  clear t1 t2 hv hcell hup
  have hne : ((N : Int) != (N : Int)) = false := by simp
  have ha1 : (0 : Int) ≤ (a : Int) := by omega
  have ha2 : (a : Int) < (N : Int) := by omega
  have hb3 : (0 : Int) ≤ (nb : Int) := by omega
  have hb4 : (nb : Int) < (N : Int) := by omega
  have hl1 : (1 : Int) ≤ (N : Int) := by omega
  go_wp2_with fail
  refine wp_region_kept (by kernel_rfl) (by kernel_rfl) ?_
  repeat (go_big_quiet_step ((go_at_call 23; exact kept_of_same (bit_is _ _ (by omega) _ (by first | exact T1.out | exact T2.out | exact T3.out) _))))
  refine wpQuiet_nil ?_
  intro w4 k4
  go_wp2_with fail
  go_ret
  exact ⟨by simp, q2.trans k4⟩
theorem twoTurn_walk (n : Int) (A : Option Addr) (len c : Nat) (rs : List Ru) (i j : Int) (w : World) (_wn : (Lit.int .i64 n).wf = true) (hl : len ≤ maxLen) (hs : SlR w A len rs) (wi : (Lit.int .u8 i).wf = true) (wj : (Lit.int .u8 j).wf = true) :
    Calls Try.prog 6 #[.int .i64 n, .slice A len c, .int .u8 i, .int .u8 j] w fun e w' => e = .returned (.bool true) ∧ Below w.heap.size w w' := by
  suffices h : Calls Try.prog 6 #[.int .i64 n, .slice A len c, .int .u8 i, .int .u8 j] w fun e w' => e = .returned (.bool true) ∧ Kept w w' from h.mono fun e w' ⟨h1, h2⟩ => ⟨h1, h2.below⟩
  by_cases h0 : twoF n rs = 0
  · have hi : 0 ≤ i ∧ i ≤ 255 := by simpa [Lit.wf, IntKind.signed, IntKind.bits, IntKind.min, IntKind.max] using wi
    have hj : 0 ≤ j ∧ j ≤ 255 := by simpa [Lit.wf, IntKind.signed, IntKind.bits, IntKind.min, IntKind.max] using wj
    exact good n A len c rs i j w hl hs hi.1 hi.2 hj.1 hj.2 h0
  · exact bad n A len c rs i j w hl hs h0
end Go.Proofs.Ytekpifobhgjepaa.twoTurnDone
