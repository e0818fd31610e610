/- The walks of package concept: Up, Down, Says. -/
import Derived.Test.YtmdlfngdmlhpmaaConcept2
namespace Go.Proofs.Ytmdlfngdmlhpmaa
open Go Go.RowKit
set_option linter.unusedVariables false

def upG (n : Nat) (rows : List (BitVec 32)) (objects : BitVec 32) : BitVec 32 := upF (1#32 <<< n - 1#32) objects rows rows.length
def downG (rows : List (BitVec 32)) (marks : BitVec 32) : BitVec 32 := downF marks rows rows.length

theorem upX_ok (n : Nat) (A : Option Addr) (len c : Nat) (rows : List (BitVec 32)) (objects : BitVec 32) (w : World) (hr : SlW w A len rows) (hc : tabF n rows objects [] = 0) :
    Calls Try.prog 25 #[.int .i64 n, .slice A len c, .int .u32 (W objects)] w fun e w' => e = .returned (.tuple #[.int .u32 (W (upG n rows objects)), .int .i64 0]) ∧ Kept w w' := by
  have hz := tabF_zero hc
  have hlen : len ≤ 8 := by rw [← hr.2]; exact hz.2.2.1
  have hn6 : n ≤ 6 := by omega
  have HC := Lib.hid hc
  have HL := Lib.hid hr.2
  clear hc hz
  go_enter Try.func25, Try.ntmps25
  go_wp2_with fail
  refine (conWrong_any _ _ _ _ rows _ _ _ _ [] _ hr (SlW.nil_ _ _) (by omega)).mono ?_
  rintro e w1 ⟨rfl, hk⟩
  rw [HC.out]
  go_wp2_with fail
  refine (up_any n hn6 _ _ _ rows _ _ (hr.kept hk) hlen).mono ?_
  rintro e w2 ⟨rfl, rfl⟩
  go_wp2_with fail
  go_ret2
  exact ⟨by unfold upG; rw [HL.out]; rfl, hk⟩
theorem upX_no (n : Int) (A : Option Addr) (len c : Nat) (rows : List (BitVec 32)) (objects : BitVec 32) (w : World) (hr : SlW w A len rows) (hc : (tabF n rows objects [] != 0) = true) :
    Calls Try.prog 25 #[.int .i64 n, .slice A len c, .int .u32 (W objects)] w fun e w' => e = .returned (.tuple #[.int .u32 0, .int .i64 (tabF n rows objects [])]) ∧ Kept w w' := by
  go_enter Try.func25, Try.ntmps25
  go_wp2_with fail
  refine (conWrong_any _ _ _ _ rows _ _ _ _ [] _ hr (SlW.nil_ _ _) (by omega)).mono ?_
  rintro e w1 ⟨rfl, hk⟩
  go_wp2_with fail
  go_ret2
  exact ⟨rfl, hk⟩
theorem downX_ok (n : Nat) (A : Option Addr) (len c : Nat) (rows : List (BitVec 32)) (marks : BitVec 32) (w : World) (hr : SlW w A len rows) (hc : tabF n rows 0#32 [marks] = 0) :
    Calls Try.prog 26 #[.int .i64 n, .slice A len c, .int .u32 (W marks)] w fun e w' => e = .returned (.tuple #[.int .u32 (W (downG rows marks)), .int .i64 0]) ∧ Kept w w' := by
  have hz := tabF_zero hc
  have hlen : len ≤ 8 := by rw [← hr.2]; exact hz.2.2.1
  have HC := Lib.hid hc
  have HL := Lib.hid hr.2
  clear hc hz
  go_enter Try.func26, Try.ntmps26
  go_wp2_with fail
  refine (conWrong_any _ _ _ _ rows 0#32 _ _ _ [marks] _ (hr.kept ((Kept.refl w).alloc _)) (SlW.new1 _ _ _) (by omega)).mono ?_
  rintro e w1 ⟨rfl, hk⟩
  rw [HC.out]
  have hk1 : Kept w w1 := ((Kept.refl w).alloc _).trans hk
  clear hk
  go_wp2_with fail
  refine (down_any _ _ _ rows _ _ (hr.kept hk1) hlen).mono ?_
  rintro e w2 ⟨rfl, rfl⟩
  go_wp2_with fail
  go_ret2
  exact ⟨by unfold downG; rw [HL.out]; rfl, hk1⟩
theorem downX_no (n : Int) (A : Option Addr) (len c : Nat) (rows : List (BitVec 32)) (marks : BitVec 32) (w : World) (hr : SlW w A len rows) (hc : (tabF n rows 0#32 [marks] != 0) = true) :
    Calls Try.prog 26 #[.int .i64 n, .slice A len c, .int .u32 (W marks)] w fun e w' => e = .returned (.tuple #[.int .u32 0, .int .i64 (tabF n rows 0#32 [marks])]) ∧ Kept w w' := by
  go_enter Try.func26, Try.ntmps26
  go_wp2_with fail
  refine (conWrong_any _ _ _ _ rows 0#32 _ _ _ [marks] _ (hr.kept ((Kept.refl w).alloc _)) (SlW.new1 _ _ _) (by omega)).mono ?_
  rintro e w1 ⟨rfl, hk⟩
  have hk1 : Kept w w1 := ((Kept.refl w).alloc _).trans hk
  clear hk
  go_wp2_with fail
  go_ret2
  exact ⟨rfl, hk1⟩

/-! ### Galois -/
theorem upG_bit (n : Nat) (hn : n < 32) (rows : List (BitVec 32)) (objects : BitVec 32) (i : Nat) : (upG n rows objects).getLsbD i = true ↔ i < n ∧ ∀ j, j < rows.length → objects.getLsbD j = true → (nth rows j).getLsbD i = true := by
  unfold upG
  rw [upF_bit, full_bit n i hn, decide_eq_true_eq]
theorem downG_bit (rows : List (BitVec 32)) (hl : rows.length ≤ 32) (marks : BitVec 32) (i : Nat) : (downG rows marks).getLsbD i = true ↔ i < rows.length ∧ subB marks (nth rows i) = true := downF_bit marks rows i _ hl
theorem galois {n : Nat} (hn : n < 32) {rows : List (BitVec 32)} (hl : rows.length ≤ 32) {objects marks : BitVec 32} (ho : fitB rows.length objects = true) (hm : fitB n marks = true) :
    subB objects (downG rows marks) = subB marks (upG n rows objects) := by
  rw [Bool.eq_iff_iff, subB_iff, subB_iff]
  constructor
  · intro h i hi
    rw [upG_bit n hn]
    refine ⟨fitB_iff.1 hm i hi, fun j _ hoj => ?_⟩
    have := h j hoj
    rw [downG_bit rows hl] at this
    exact subB_iff.1 this.2 i hi
  · intro h j hj
    rw [downG_bit rows hl]
    refine ⟨fitB_iff.1 ho j hj, subB_iff.2 fun i hi => ?_⟩
    have := h i hi
    rw [upG_bit n hn] at this
    exact this.2 j (fitB_iff.1 ho j hj) hj
theorem upG_none (n : Nat) (hn : n < 32) (rows : List (BitVec 32)) : upG n rows 0#32 = 1#32 <<< n - 1#32 := by
  apply BitVec.eq_of_getLsbD_eq
  intro i _
  rw [Bool.eq_iff_iff, upG_bit n hn, full_bit n i hn, decide_eq_true_eq]
  constructor
  · exact fun h => h.1
  · exact fun h => ⟨h, fun j _ hj => by simp at hj⟩
end Go.Proofs.Ytmdlfngdmlhpmaa
