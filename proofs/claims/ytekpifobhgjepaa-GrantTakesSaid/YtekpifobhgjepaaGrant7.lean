/- The walk of a deed: what is refused of those that grant. -/
import Derived.Test.YtekpifobhgjepaaGrant5
namespace Go.Proofs.Ytekpifobhgjepaa
open Go Go.RowKit
set_option linter.unusedVariables false
set_option linter.unusedSimpArgs false
section
variable {wa w : World} {G g c N n : Nat} {Bs : Nat → Nat} {m g0 : Mx} {rep : Nat → Nat}
set_option maxRecDepth 100000 in
set_option maxHeartbeats 4000000 in
theorem do_arg2 (bY tO lev val : Int) (pa : BitVec 32) (h : GStB wa w G g c N Bs m) (hi : GInv n g0 N m rep) (hN : N ≤ 14) (hb : hereB N bY = false ∨ (hereB N bY = true ∧ (hereB N tO = false ∨ (hereB N tO = true ∧ ((bY == tO) = true ∨ ((bY == tO) = false ∧ (hereB N lev = false ∨ (hereB N lev = true ∧ (lev == tO) = true)))))))) :
    Calls Try.prog 52 #[.pointer (some ⟨G, 0, none⟩), .agg #[.int .i64 2, .int .i64 bY, .int .i64 tO, .int .i64 lev, .int .u32 (W pa), .int .i64 val]] w (RetDo wa w G n g0) := by
  have FIN := Lib.hid (fun w' (k : Kept w w') => RetDo.same h hi hN k 2)
  have hk1 : Kept w (w.alloc (.cells #[.int .i64 2, .int .i64 bY, .int .i64 tO, .int .i64 lev, .int .u32 (W pa), .int .i64 val] 71)) := (Kept.refl _).alloc _
  have bx1 := Box.new w #[.int .i64 2, .int .i64 bY, .int .i64 tO, .int .i64 lev, .int .u32 (W pa), .int .i64 val] 71 w.heap.size rfl
  have hs1 : (w.alloc (.cells #[.int .i64 2, .int .i64 bY, .int .i64 tO, .int .i64 lev, .int .u32 (W pa), .int .i64 val] 71)).heap.size = w.heap.size + 1 := by simp
  obtain ⟨w1, hw1⟩ : ∃ w1, w.alloc (.cells #[.int .i64 2, .int .i64 bY, .int .i64 tO, .int .i64 lev, .int .u32 (W pa), .int .i64 val] 71) = w1 := ⟨_, rfl⟩
  rw [hw1] at hk1 bx1 hs1
  have hc1 := (h.1.kept hk1).cell 0 rfl
  have hk2 : Kept w1 (w1.alloc (.cells #[.slice (some ⟨g, 0, none⟩) N c] 92)) := (Kept.refl _).alloc _
  have bx2 := Box.new w1 #[.slice (some ⟨g, 0, none⟩) N c] 92 (w.heap.size + 1) hs1
  have bx3 := bx1.kept hk2
  obtain ⟨w2, hw2⟩ : ∃ w2, w1.alloc (.cells #[.slice (some ⟨g, 0, none⟩) N c] 92) = w2 := ⟨_, rfl⟩
  rw [hw2] at hk2 bx2 bx3
  have K2 := Lib.hid (hk1.trans hk2)
  have BX2 := Lib.hid bx2
  have BX3 := Lib.hid bx3
  have a0 := bx1.at_ 0 rfl
  have d0 := bx3.at_ 0 rfl
  have d1 := bx3.at_ 1 rfl
  have d2 := bx3.at_ 2 rfl
  have d3 := bx3.at_ 3 rfl
  have d4 := bx3.at_ 4 rfl
  have s0 := bx2.at_ 0 rfl
  clear h hi hk1 hk2 bx1 bx2 bx3
  rcases hb with q1 | ⟨q1, q2 | ⟨q2, q3 | ⟨q3, q4 | ⟨q4, q5⟩⟩⟩⟩
  · have HQ1 := Lib.hid q1
    clear q1
    go_enter Try.func52, Try.ntmps52
    go_wp2_with fail
    go_quiet (fail)
    obtain ⟨w3, hw3⟩ : ∃ w3, w2.drewN nq = w3 := ⟨_, rfl⟩
    have K3 : Kept w2 w3 := by
      rw [← hw3]
      exact (Kept.refl _).drewN _
    rw [hw3]
    clear hw3
    have s3 := (BX2.out.kept K3).at_ 0 rfl
    have f0 := (BX3.out.kept K3).at_ 0 rfl
    have f1 := (BX3.out.kept K3).at_ 1 rfl
    have f2 := (BX3.out.kept K3).at_ 2 rfl
    go_wp2_with fail
    with_reducible refine (here_any N bY _ _ c _ s3).mono ?_
    rintro e w4 ⟨rfl, rfl⟩
    rw [HQ1.out]
    go_wp2_with fail
    go_ret
    exact FIN.out _ (K2.out.trans K3)
  · have HQ1 := Lib.hid q1
    have HQ2 := Lib.hid q2
    clear q1 q2
    go_enter Try.func52, Try.ntmps52
    go_wp2_with fail
    go_quiet (fail)
    obtain ⟨w3, hw3⟩ : ∃ w3, w2.drewN nq = w3 := ⟨_, rfl⟩
    have K3 : Kept w2 w3 := by
      rw [← hw3]
      exact (Kept.refl _).drewN _
    rw [hw3]
    clear hw3
    have s3 := (BX2.out.kept K3).at_ 0 rfl
    have f0 := (BX3.out.kept K3).at_ 0 rfl
    have f1 := (BX3.out.kept K3).at_ 1 rfl
    have f2 := (BX3.out.kept K3).at_ 2 rfl
    go_wp2_with fail
    with_reducible refine (here_any N bY _ _ c _ s3).mono ?_
    rintro e w4 ⟨rfl, rfl⟩
    rw [HQ1.out]
    go_wp2_with fail
    with_reducible refine (here_any N tO _ _ c _ s3).mono ?_
    rintro e w4 ⟨rfl, rfl⟩
    rw [HQ2.out]
    go_wp2_with fail
    go_ret
    exact FIN.out _ (K2.out.trans K3)
  · have HQ1 := Lib.hid q1
    have HQ2 := Lib.hid q2
    clear q1 q2
    go_enter Try.func52, Try.ntmps52
    go_wp2_with fail
    go_quiet (fail)
    obtain ⟨w3, hw3⟩ : ∃ w3, w2.drewN nq = w3 := ⟨_, rfl⟩
    have K3 : Kept w2 w3 := by
      rw [← hw3]
      exact (Kept.refl _).drewN _
    rw [hw3]
    clear hw3
    have s3 := (BX2.out.kept K3).at_ 0 rfl
    have f0 := (BX3.out.kept K3).at_ 0 rfl
    have f1 := (BX3.out.kept K3).at_ 1 rfl
    have f2 := (BX3.out.kept K3).at_ 2 rfl
    go_wp2_with fail
    with_reducible refine (here_any N bY _ _ c _ s3).mono ?_
    rintro e w4 ⟨rfl, rfl⟩
    rw [HQ1.out]
    go_wp2_with fail
    with_reducible refine (here_any N tO _ _ c _ s3).mono ?_
    rintro e w4 ⟨rfl, rfl⟩
    rw [HQ2.out]
    go_wp2_with fail
    go_ret
    exact FIN.out _ (K2.out.trans K3)
  · have HQ1 := Lib.hid q1
    have HQ2 := Lib.hid q2
    have HQ4 := Lib.hid q4
    clear q1 q2 q4
    go_enter Try.func52, Try.ntmps52
    go_wp2_with fail
    go_quiet (fail)
    obtain ⟨w3, hw3⟩ : ∃ w3, w2.drewN nq = w3 := ⟨_, rfl⟩
    have K3 : Kept w2 w3 := by
      rw [← hw3]
      exact (Kept.refl _).drewN _
    rw [hw3]
    clear hw3
    have s3 := (BX2.out.kept K3).at_ 0 rfl
    have f0 := (BX3.out.kept K3).at_ 0 rfl
    have f1 := (BX3.out.kept K3).at_ 1 rfl
    have f2 := (BX3.out.kept K3).at_ 2 rfl
    go_wp2_with fail
    with_reducible refine (here_any N bY _ _ c _ s3).mono ?_
    rintro e w4 ⟨rfl, rfl⟩
    rw [HQ1.out]
    go_wp2_with fail
    with_reducible refine (here_any N tO _ _ c _ s3).mono ?_
    rintro e w4 ⟨rfl, rfl⟩
    rw [HQ2.out]
    go_wp2_with fail
    with_reducible refine (here_any N lev _ _ c _ s3).mono ?_
    rintro e w4 ⟨rfl, rfl⟩
    rw [HQ4.out]
    go_wp2_with fail
    go_ret
    exact FIN.out _ (K2.out.trans K3)
  · have HQ1 := Lib.hid q1
    have HQ2 := Lib.hid q2
    have HQ4 := Lib.hid q4
    clear q1 q2 q4
    go_enter Try.func52, Try.ntmps52
    go_wp2_with fail
    go_quiet (fail)
    obtain ⟨w3, hw3⟩ : ∃ w3, w2.drewN nq = w3 := ⟨_, rfl⟩
    have K3 : Kept w2 w3 := by
      rw [← hw3]
      exact (Kept.refl _).drewN _
    rw [hw3]
    clear hw3
    have s3 := (BX2.out.kept K3).at_ 0 rfl
    have f0 := (BX3.out.kept K3).at_ 0 rfl
    have f1 := (BX3.out.kept K3).at_ 1 rfl
    have f2 := (BX3.out.kept K3).at_ 2 rfl
    go_wp2_with fail
    with_reducible refine (here_any N bY _ _ c _ s3).mono ?_
    rintro e w4 ⟨rfl, rfl⟩
    rw [HQ1.out]
    go_wp2_with fail
    with_reducible refine (here_any N tO _ _ c _ s3).mono ?_
    rintro e w4 ⟨rfl, rfl⟩
    rw [HQ2.out]
    go_wp2_with fail
    with_reducible refine (here_any N lev _ _ c _ s3).mono ?_
    rintro e w4 ⟨rfl, rfl⟩
    rw [HQ4.out]
    go_wp2_with fail
    go_ret
    exact FIN.out _ (K2.out.trans K3)
end
end Go.Proofs.Ytekpifobhgjepaa
