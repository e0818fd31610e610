/- The walk of a deed: taking. -/
import Derived.Test.YtekpifobhgjepaaGrant5
namespace Go.Proofs.Ytekpifobhgjepaa
open Go Go.RowKit
set_option linter.unusedVariables false
set_option linter.unusedSimpArgs false
theorem bit0_of {x : BitVec 32} (h : (x &&& 1#32 == 0#32) = false) : x.getLsbD 0 = true := by
  cases hb : x.getLsbD 0
  · have : x &&& 1#32 = 0#32 := by
      apply BitVec.eq_of_getLsbD_eq
      intro i hi
      rw [BitVec.getLsbD_and]
      by_cases e : i = 0
      · subst e
        rw [hb]
        simp
      · have : (1#32).getLsbD i = false := by
          have := getLsbD_bit 0 i
          simp only [BitVec.shiftLeft_zero] at this
          rw [this]
          simp
          omega
        rw [this]
        simp
    rw [this] at h
    simp at h
  · rfl
theorem bit1_of {x : BitVec 32} (h : (x &&& 2#32 == 0#32) = false) : x.getLsbD 1 = true := by
  cases hb : x.getLsbD 1
  · have : x &&& 2#32 = 0#32 := by
      apply BitVec.eq_of_getLsbD_eq
      intro i hi
      rw [BitVec.getLsbD_and]
      by_cases e : i = 1
      · subst e
        rw [hb]
        simp
      · have : (2#32).getLsbD i = false := by
          have := getLsbD_bit 1 i
          rw [show (1#32 <<< 1 : BitVec 32) = 2#32 from rfl] at this
          rw [this]
          simp
          omega
        rw [this]
        simp
    rw [this] at h
    simp at h
  · rfl
theorem sub_of {x y : BitVec 32} (h : (x &&& ~~~y != 0#32) = false) : subB x y = true := by
  have h : x &&& ~~~y = 0#32 := by simpa using h
  refine subB_iff.2 fun i hi => ?_
  have := congrArg (fun z => z.getLsbD i) h
  simp only [BitVec.getLsbD_and, BitVec.getLsbD_not, hi, Bool.true_and] at this
  have hlt : i < 32 := BitVec.lt_of_getLsbD hi
  simpa [hlt] using this
section
variable {wa w : World} {G g c N n : Nat} {Bs : Nat → Nat} {m g0 : Mx} {rep : Nat → Nat}
set_option maxRecDepth 100000 in
set_option maxHeartbeats 4000000 in
theorem do_take (b t o : Nat) (val : Int) (pa : BitVec 32) (h : GStB wa w G g c N Bs m) (hi : GInv n g0 N m rep) (hN : N ≤ 14) (hb : b < N) (ht : t < N) (ho : o < N) (hbt : b ≠ t) (hq : o ≠ b) :
    Calls Try.prog 52 #[.pointer (some ⟨G, 0, none⟩), .agg #[.int .i64 1, .int .i64 b, .int .i64 t, .int .i64 o, .int .u32 (W pa), .int .i64 val]] w (RetDo wa w G n g0) := by
  have FIN := Lib.hid (fun w' (k : Kept w w') => RetDo.same h hi hN k 7)
  have HH := Lib.hid h
  have q1 : hereB N (b : Int) = true := by unfold hereB; simp; omega
  have q2 : hereB N (t : Int) = true := by unfold hereB; simp; omega
  have q3 : hereB N (o : Int) = true := by unfold hereB; simp; omega
  have q4 : ((b : Int) == (t : Int)) = false := by simp; omega
  have q5 : ((o : Int) == (b : Int)) = false := by simp; omega
  have HQ1 := Lib.hid q1
  have HQ2 := Lib.hid q2
  have HQ3 := Lib.hid q3
  have HOK := Lib.hid (fun (h1 : (m b t &&& 1#32 == 0#32) = false) (h2 : (pa &&& ~~~(m t o) != 0#32) = false) (w' : World) (k : Kept w w') => show RetDo wa w G n g0 (.returned (.int .i64 0)) (w'.setCell ⟨Bs b, o, none⟩ (.int .u32 (W (m b o ||| pa)))) from
    ⟨0, N, _, rep, rfl, (KeepG.of h.kept0 k).trans ((h.kept k).keepSet hb o _), ⟨g, c, Bs, (h.kept k).set hb o _⟩, hi.take ht hb ho (bit0_of h1) (sub_of h2), hN⟩)
  have hk1 : Kept w (w.alloc (.cells #[.int .i64 1, .int .i64 (b : Int), .int .i64 (t : Int), .int .i64 (o : Int), .int .u32 (W pa), .int .i64 val] 71)) := (Kept.refl _).alloc _
  have bx1 := Box.new w #[.int .i64 1, .int .i64 (b : Int), .int .i64 (t : Int), .int .i64 (o : Int), .int .u32 (W pa), .int .i64 val] 71 w.heap.size rfl
  have hs1 : (w.alloc (.cells #[.int .i64 1, .int .i64 (b : Int), .int .i64 (t : Int), .int .i64 (o : Int), .int .u32 (W pa), .int .i64 val] 71)).heap.size = w.heap.size + 1 := by simp
  obtain ⟨w1, hw1⟩ : ∃ w1, w.alloc (.cells #[.int .i64 1, .int .i64 (b : Int), .int .i64 (t : Int), .int .i64 (o : Int), .int .u32 (W pa), .int .i64 val] 71) = w1 := ⟨_, rfl⟩
  rw [hw1] at hk1 bx1 hs1
  have hc1 := (h.1.kept hk1).cell 0 rfl
  have hk2 : Kept w1 (w1.alloc (.cells #[.slice (some ⟨g, 0, none⟩) N c] 92)) := (Kept.refl _).alloc _
  have bx2 := Box.new w1 #[.slice (some ⟨g, 0, none⟩) N c] 92 (w.heap.size + 1) hs1
  have bx3 := bx1.kept hk2
  obtain ⟨w2, hw2⟩ : ∃ w2, w1.alloc (.cells #[.slice (some ⟨g, 0, none⟩) N c] 92) = w2 := ⟨_, rfl⟩
  rw [hw2] at hk2 bx2 bx3
  have K2 := Lib.hid (hk1.trans hk2)
  have BX2 := Lib.hid bx2
  have BX3 := Lib.hid bx3
  have a0 := bx1.at_ 0 rfl
  have d0 := bx3.at_ 0 rfl
  have d1 := bx3.at_ 1 rfl
  have d2 := bx3.at_ 2 rfl
  have d3 := bx3.at_ 3 rfl
  have d4 := bx3.at_ 4 rfl
  have s0 := bx2.at_ 0 rfl
  clear h hi hk1 hk2 bx1 bx2 bx3 q1 q2 q3
  have e2 : ∀ x : BitVec 32, bits .and .u32 (W x) 2 = W (x &&& 2#32) := fun x => bits_and_W x 2#32
  have i1 : (0 : Int) ≤ (b : Int) := by omega
  have i2 : (b : Int) < (N : Int) := by omega
  have i3 : (0 : Int) ≤ (t : Int) := by omega
  have i4 : (t : Int) < (N : Int) := by omega
  have i5 : (0 : Int) ≤ (o : Int) := by omega
  have i6 : (o : Int) < 14 := by omega
  have i7 : (t : Int) < 14 := by omega
  have i8 : (b : Int) < 14 := by omega
  go_enter Try.func52, Try.ntmps52
  go_wp2_with fail
  go_quiet (fail)
  obtain ⟨w3, hw3⟩ : ∃ w3, w2.drewN nq = w3 := ⟨_, rfl⟩
  have K3 : Kept w2 w3 := by
    rw [← hw3]
    exact (Kept.refl _).drewN _
  rw [hw3]
  clear hw3
  have s3 := (BX2.out.kept K3).at_ 0 rfl
  have f0 := (BX3.out.kept K3).at_ 0 rfl
  have f1 := (BX3.out.kept K3).at_ 1 rfl
  have f2 := (BX3.out.kept K3).at_ 2 rfl
  obtain ⟨r1, p1, _⟩ := ((HH.out.kept K2.out).kept K3).at_ hb (show t < 14 by omega)
  obtain ⟨r2, p2, _⟩ := ((HH.out.kept K2.out).kept K3).at_ ht (show o < 14 by omega)
  obtain ⟨r3, p3, z3⟩ := ((HH.out.kept K2.out).kept K3).at_ hb (show o < 14 by omega)
  go_wp2_with fail
  with_reducible refine (here_any N b _ _ c _ s3).mono ?_
  rintro e w4 ⟨rfl, rfl⟩
  rw [HQ1.out]
  go_wp2_with fail
  with_reducible refine (here_any N t _ _ c _ s3).mono ?_
  rintro e w4 ⟨rfl, rfl⟩
  rw [HQ2.out]
  go_wp2_with fail
  with_reducible refine (here_any N o _ _ c _ s3).mono ?_
  rintro e w4 ⟨rfl, rfl⟩
  rw [HQ3.out]
  generalize hx : m b t = x at p1 HOK
  generalize hy : m t o = y at p2 HOK
  generalize hz : m b o = z at p3 HOK
  have HZ := Lib.hid hz
  clear hx hy hz
  cases h1 : (x &&& 1#32 == 0#32)
  · cases h2 : (pa &&& ~~~y != 0#32)
    · have OK := Lib.hid (HOK.out h1 h2)
      have HW := Lib.hid (fun nq : Nat => (Kept.refl w3).drewN nq)
      have HC := Lib.hid (fun (w' : World) (k : Kept w3 w') => And.intro ((HH.out.kept (K2.out.trans (K3.trans k))).at_ hb (show o < 14 by omega)) (And.intro ((BX2.out.kept (K3.trans k)).at_ 0 rfl) (And.intro ((BX3.out.kept (K3.trans k)).at_ 1 rfl) ((BX3.out.kept (K3.trans k)).at_ 3 rfl))))
      clear HOK
      go_wp2_with fail
      go_quiet (fail)
      obtain ⟨w5, hw5⟩ : ∃ w5, w3.drewN nq = w5 := ⟨_, rfl⟩
      have K5 := Lib.hid (HW.out nq)
      rw [hw5] at K5 ⊢
      clear hw5 r1 r2 r3 p1 p2 p3 z3 s3 f0 f1 f2 h1 h2
      obtain ⟨⟨r5, p5, z5⟩, s5, y1, y2⟩ := HC.out w5 K5.out
      rw [HZ.out] at p5
      have OK2 := Lib.hid (OK.out w5 (K2.out.trans (K3.trans K5.out)))
      go_wp2_with fail
      go_ret
      exact OK2.out
    · clear HOK
      go_wp2_with fail
      go_quiet (fail)
      go_wp2_with fail
      go_ret
      exact FIN.out _ (K2.out.trans (K3.drewN _))
  · clear HOK
    go_wp2_with fail
    go_quiet (fail)
    go_wp2_with fail
    go_ret
    exact FIN.out _ (K2.out.trans (K3.drewN _))
end
end Go.Proofs.Ytekpifobhgjepaa
