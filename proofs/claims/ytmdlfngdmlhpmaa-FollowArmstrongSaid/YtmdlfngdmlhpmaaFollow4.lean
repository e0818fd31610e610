/- The walks of package follow: Does. -/
import Derived.Test.YtmdlfngdmlhpmaaFollow3
import Derived.Deep.RegionHeld3
namespace Go.Proofs.Ytmdlfngdmlhpmaa
open Go Go.RowKit

def doesF (rs : List Ru) (r : Ru) : Bool := subB r.2 (closeF rs r.1)

set_option maxHeartbeats 400000 in
theorem does_ok (n : Int) (A : Option Addr) (len c : Nat) (rs : List Ru) (r1 r2 : BitVec 32) (w : World) (hr : SlR w A len rs) (hc : checkF n rs [r1, r2] = 0) :
    Calls Try.prog 16 #[.int .i64 n, .slice A len c, .agg #[.int .u32 (W r1), .int .u32 (W r2)]] w fun e w' => e = .returned (.tuple #[.bool (doesF rs (r1, r2)), .int .i64 0]) ∧ Kept w w' := by
  have hlen : len ≤ 10 := by rw [← hr.2]; exact (checkF_zero hc).2.2.1
  have HC := Lib.hid hc
  clear hc
  go_enter Try.func16, Try.ntmps16
  go_wp2_with fail
  refine (check_any _ _ _ _ rs _ _ _ [r1, r2] _ (hr.kept (((Kept.refl _).alloc _).alloc _)) (SlW.new2' _ _ _ _ _ (by simp)) (by omega)).mono ?_
  rintro e w1 ⟨rfl, hk⟩
  rw [HC.out]
  have hk1 : Kept w w1 := (((Kept.refl _).alloc _).alloc _).trans hk
  have hb0 : w.heap.size < w1.heap.size := by have := hk.size; simp at this; omega
  have c0 : w1.cell? ⟨w.heap.size, 0, none⟩ = some (.int .u32 (W r1)) := (hk.cell (p := ⟨w.heap.size, 0, none⟩) (by simp; omega)).trans (by simp)
  have c1 : w1.cell? ⟨w.heap.size, 1, none⟩ = some (.int .u32 (W r2)) := (hk.cell (p := ⟨w.heap.size, 1, none⟩) (by simp; omega)).trans (by simp)
  clear hk
  go_wp2_with fail
  have HR := hr.kept hk1
  go_region_held3 (fun w' => w'.cell? ⟨w.heap.size, 0, none⟩ = some (.int .u32 (W r1)) ∧ w'.cell? ⟨w.heap.size, 1, none⟩ = some (.int .u32 (W r2)) ∧ Kept w1 w')
    (first | exact keep2 (Kept.refl _).drew hb0 c0 c1 | exact keep2 ((Kept.refl w1).drew.trans hk2) hb0 c0 c1)
    ((go_at_call 33; refine (closed_any _ _ _ rs _ _ (HR.kept (Kept.refl w1).drew) (by omega)).mono ?_; rintro e w2 ⟨rfl, hk2⟩))
  go_wp2_with fail
  go_ret2
  exact ⟨rfl, (hk1.drew).trans hk2⟩
theorem does_no (n : Int) (A : Option Addr) (len c : Nat) (rs : List Ru) (r1 r2 : BitVec 32) (w : World) (hr : SlR w A len rs) (hc : (checkF n rs [r1, r2] != 0) = true) :
    Calls Try.prog 16 #[.int .i64 n, .slice A len c, .agg #[.int .u32 (W r1), .int .u32 (W r2)]] w fun e w' => e = .returned (.tuple #[.bool false, .int .i64 (checkF n rs [r1, r2])]) ∧ Kept w w' := by
  go_enter Try.func16, Try.ntmps16
  go_wp2_with fail
  refine (check_any _ _ _ _ rs _ _ _ [r1, r2] _ (hr.kept (((Kept.refl _).alloc _).alloc _)) (SlW.new2' _ _ _ _ _ (by simp)) (by omega)).mono ?_
  rintro e w1 ⟨rfl, hk⟩
  have hk1 : Kept w w1 := (((Kept.refl _).alloc _).alloc _).trans hk
  clear hk
  go_wp2_with fail
  go_ret2
  exact ⟨rfl, hk1⟩
end Go.Proofs.Ytmdlfngdmlhpmaa
