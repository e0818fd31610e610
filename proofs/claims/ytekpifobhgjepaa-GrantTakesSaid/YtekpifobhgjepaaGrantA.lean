/- The walk of a deed: one more. -/
import Derived.Test.YtekpifobhgjepaaGrant5
import Derived.StillTailTactics
import Derived.Deep.RegionLaw
namespace Go.Proofs.Ytekpifobhgjepaa
open Go Go.RowKit
set_option linter.unusedVariables false
set_option linter.unusedSimpArgs false
section
variable {wa w : World} {G g c N n : Nat} {Bs : Nat → Nat} {m g0 : Mx} {rp : Nat → Nat}
theorem Row.apart {w0 w : World} {B B2 : Nat} {e e2 : TypeId} {xs ys : List Value} (h : Row w0 w B e xs) (k : Row w0 w B2 e2 ys) (hne : e ≠ e2) : B ≠ B2 := by
  intro he
  subst he
  obtain ⟨cur, h1, _⟩ := h.1
  obtain ⟨cur2, h2, _⟩ := k.1
  rw [h1] at h2
  injection h2 with h2
  injection h2 with _ h2
  exact hne h2
theorem Jag.congr {w0 w : World} {E : TypeId} {n h : Nat} {Bs : Nat → Nat} {m m' : Mx} (j : Jag w0 w E n h Bs m) (hm : ∀ u v, u < h → m u v = m' u v) : Jag w0 w E n h Bs m' := by
  refine ⟨fun k hk => ?_, j.2⟩
  have := j.1 k hk
  have e : rowOf n m k = rowOf n m' k := by
    unfold rowOf
    exact List.map_congr_left fun v _ => by rw [hm k v hk]
  rw [e] at this
  exact this
theorem one_slG (B : Nat) : ∀ u ∈ (#[Value.slice (some ⟨B, 0, none⟩) 14 14] : Array Value).toList, u.oneCell' = true := fun u hu => by
  simp at hu
  subst hu
  rfl
def moreM (m : Mx) (N b : Nat) : Mx := fun u v => if u = N then 0#32 else setM m b N 3#32 u v
theorem make_done {w5 w7 : World} {m1 m' : Mx} {A7 : Option Addr} {c7 B5 : Nat} (h5 : GStB wa w5 G g c N Bs m1) (hm : ∀ u v, u < N → m1 u v = m' u v) (hz : ∀ v, m' N v = 0#32) (hs5 : w5.heap.size = B5)
    (hown7 : Own wa w7 42 1 (.slice A7 (N + 1) c7) (N + 1) ((outL 14 N Bs fun _ => 14) ++ [.slice (some ⟨B5, 0, none⟩) 14 14]))
    (hgr : (((w5.alloc (.cells (rep 14 (.int .u32 0)) 23)).alloc (.cells #[.slice (some ⟨B5, 0, none⟩) 14 14] 42)).drew).grownBy w7 (some g)) :
    GSt wa (w7.setCell ⟨G, 0, none⟩ (.slice A7 (N + 1) c7)) G (N + 1) m' ∧ KeepG wa w5 (w7.setCell ⟨G, 0, none⟩ (.slice A7 (N + 1) c7)) := by
  have K1 : Kept (w5.alloc (.cells (rep 14 (.int .u32 0)) 23)) (((w5.alloc (.cells (rep 14 (.int .u32 0)) 23)).alloc (.cells #[.slice (some ⟨B5, 0, none⟩) 14 14] 42)).drew) := ((Kept.refl _).alloc _).drew
  have K : Kept w5 (((w5.alloc (.cells (rep 14 (.int .u32 0)) 23)).alloc (.cells #[.slice (some ⟨B5, 0, none⟩) 14 14] 42)).drew) := (((Kept.refl _).alloc _).alloc _).drew
  have hrow := (Row.new (w0 := wa) h5.kept0 23 (rowOf 14 (fun _ _ => 0#32) N) B5 hs5)
  rw [← rep_row0 N] at hrow
  have hrow := hrow.kept K1
  have e0 : rowOf 14 (fun _ _ => 0#32) N = rowOf 14 m' N := by
    unfold rowOf
    exact List.map_congr_left fun v _ => by rw [hz v]
  rw [e0] at hrow
  have h6 := h5.kept K
  have j6 := (h6.2.2.congr hm).snoc hrow (fun i hi e => by
    have := (h5.2.2.1 i hi).lt
    omega)
  have o6 : Own wa _ 42 1 (.slice (some ⟨g, 0, none⟩) N c) N (outL 14 N Bs fun _ => 14) := h6.2.1
  have hgr' : (((w5.alloc (.cells (rep 14 (.int .u32 0)) 23)).alloc (.cells #[.slice (some ⟨B5, 0, none⟩) 14 14] 42)).drew).grownBy w7 (Value.slice (some ⟨g, 0, none⟩) N c).ownBlock := hgr
  have j7 := j6.grown hgr' (fun i hi => o6.far (j6.1 i hi) (by decide)) o6.since
  have r7 := h6.1.grown hgr' (o6.far h6.1 (by decide)) o6.since
  have k7 : KeepG wa w5 w7 := (KeepG.of h5.kept0 K).trans (KeepG.grown o6 (fun h => h.2.1 rfl) hgr')
  have r8 := r7.set 0 (.slice A7 (N + 1) c7)
  have o8 := hown7.setRow r7 (by decide) 0 (.slice A7 (N + 1) c7)
  have j8 := j7.grown (grown_set w7 ⟨G, 0, none⟩ (.slice A7 (N + 1) c7)) (fun i hi e => (j7.1 i hi).apart r7 (by decide) (by injection e)) (fun k hk => by injection hk with hk; have hk : G = k := hk; have := r7.2.1; omega)
  obtain ⟨g7, rfl, _, _⟩ := hown7.block (by omega)
  refine ⟨⟨g7, c7, upd1 Bs N B5, r8, ?_, j8⟩, k7.trans (KeepG.setRow r7.kept0 r7 (fun h => h.1 rfl) 0 _)⟩
  have e1 : (outL 14 N Bs fun _ => 14) ++ [.slice (some ⟨B5, 0, none⟩) 14 14] = outL 14 (N + 1) (upd1 Bs N B5) fun _ => 14 := by
    have := outL_snoc 14 N Bs (fun _ => 14) B5 14
    rw [← this]
    congr 1
    funext k
    unfold upd1
    split <;> rfl
  rw [e1] at o8
  exact o8
set_option maxRecDepth 100000 in
set_option maxHeartbeats 4000000 in
theorem do_make (b : Nat) (tO lev val : Int) (pa : BitVec 32) (h : GStB wa w G g c N Bs m) (hi : GInv n g0 N m rp) (hN : N ≤ 14) (hb : b < N) :
    Calls Try.prog 52 #[.pointer (some ⟨G, 0, none⟩), .agg #[.int .i64 3, .int .i64 b, .int .i64 tO, .int .i64 lev, .int .u32 (W pa), .int .i64 val]] w (RetDo wa w G n g0) := by
  have FIN := Lib.hid (fun w' (k : Kept w w') => RetDo.same h hi hN k 1)
  have HH := Lib.hid h
  have HI := Lib.hid hi
  have HBN := Lib.hid hb
  have q1 : hereB N (b : Int) = true := by unfold hereB; simp; omega
  have HQ1 := Lib.hid q1
  have hk1 : Kept w (w.alloc (.cells #[.int .i64 3, .int .i64 (b : Int), .int .i64 tO, .int .i64 lev, .int .u32 (W pa), .int .i64 val] 71)) := (Kept.refl _).alloc _
  have bx1 := Box.new w #[.int .i64 3, .int .i64 (b : Int), .int .i64 tO, .int .i64 lev, .int .u32 (W pa), .int .i64 val] 71 w.heap.size rfl
  have hs1 : (w.alloc (.cells #[.int .i64 3, .int .i64 (b : Int), .int .i64 tO, .int .i64 lev, .int .u32 (W pa), .int .i64 val] 71)).heap.size = w.heap.size + 1 := by simp
  obtain ⟨w1, hw1⟩ : ∃ w1, w.alloc (.cells #[.int .i64 3, .int .i64 (b : Int), .int .i64 tO, .int .i64 lev, .int .u32 (W pa), .int .i64 val] 71) = w1 := ⟨_, rfl⟩
  rw [hw1] at hk1 bx1 hs1
  have hc1 := (h.1.kept hk1).cell 0 rfl
  have hk2 : Kept w1 (w1.alloc (.cells #[.slice (some ⟨g, 0, none⟩) N c] 92)) := (Kept.refl _).alloc _
  have bx2 := Box.new w1 #[.slice (some ⟨g, 0, none⟩) N c] 92 (w.heap.size + 1) hs1
  have bx3 := bx1.kept hk2
  have hrs : Row wa (w1.alloc (.cells #[.slice (some ⟨g, 0, none⟩) N c] 92)) (w.heap.size + 1) 92 [.slice (some ⟨g, 0, none⟩) N c] := Row.new (h.kept0.trans hk1) _ _ _ hs1
  obtain ⟨w2, hw2⟩ : ∃ w2, w1.alloc (.cells #[.slice (some ⟨g, 0, none⟩) N c] 92) = w2 := ⟨_, rfl⟩
  rw [hw2] at hk2 bx2 bx3 hrs
  have HRS := Lib.hid hrs
  have HBL := Lib.hid (h.2.2.1 b hb).lt
  have K2 := Lib.hid (hk1.trans hk2)
  have BX2 := Lib.hid bx2
  have BX3 := Lib.hid bx3
  have a0 := bx1.at_ 0 rfl
  have d0 := bx3.at_ 0 rfl
  have d1 := bx3.at_ 1 rfl
  have d2 := bx3.at_ 2 rfl
  have d3 := bx3.at_ 3 rfl
  have d4 := bx3.at_ 4 rfl
  have s0 := bx2.at_ 0 rfl
  have hmk2 := run_make1 (P := Try.prog) 42 23 Try.underlying42 info_u32 rfl (by decide) 14 (by omega)
  simp only [show ((14 : Nat) : Int) = 14 from rfl] at hmk2
  clear h hi hk1 hk2 bx1 bx2 bx3 q1 hrs
  have i1 : (0 : Int) ≤ (b : Int) := by omega
  have i2 : (b : Int) < (N : Int) := by omega
  go_enter Try.func52, Try.ntmps52
  go_wp2_with fail
  go_quiet (fail)
  obtain ⟨w3, hw3⟩ : ∃ w3, w2.drewN nq = w3 := ⟨_, rfl⟩
  have K3 : Kept w2 w3 := by
    rw [← hw3]
    exact (Kept.refl _).drewN _
  rw [hw3]
  clear hw3
  have s3 := (BX2.out.kept K3).at_ 0 rfl
  have f0 := (BX3.out.kept K3).at_ 0 rfl
  have f1 := (BX3.out.kept K3).at_ 1 rfl
  have f2 := (BX3.out.kept K3).at_ 2 rfl
  go_wp2_with fail
  with_reducible refine (here_any N b _ _ c _ s3).mono ?_
  rintro e w4 ⟨rfl, rfl⟩
  rw [HQ1.out]
  by_cases h14 : N = 14
  · have d14 : ((N : Int) == 14) = true := by simp; omega
    clear h14
    go_wp2_with fail
    go_ret
    exact FIN.out _ (K2.out.trans K3)
  · have d14 : ((N : Int) == 14) = false := by simp; omega
    have i3 : (N : Int) < 14 := by omega
    have H14 := Lib.hid (show N < 14 by omega)
    obtain ⟨r1, p1, z1⟩ := ((HH.out.kept K2.out).kept K3).at_ hb (show N < 14 by omega)
    have HC := Lib.hid (fun (w' : World) (k : Kept w3 w') => And.intro (HH.out.kept (K2.out.trans (K3.trans k))) ((BX2.out.kept (K3.trans k)).at_ 0 rfl))
    clear h14
    go_wp2_with fail
    go_still_tail 8, (by kernel_rfl)
    have h5 : GStB wa (w3.drew.setCell ⟨Bs b, N, none⟩ (.int .u32 3)) G g c N Bs (setM m b N 3#32) := (HC.out w3.drew (Kept.refl _).drew).1.set HBN.out N 3#32
    have kk5 : KeepG wa w3.drew (w3.drew.setCell ⟨Bs b, N, none⟩ (.int .u32 3)) := (HC.out w3.drew (Kept.refl _).drew).1.keepSet HBN.out N _
    have rs5 := (((HRS.out.kept K3).kept (Kept.refl w3).drew).other (p := ⟨Bs b, N, none⟩) (.int .u32 3) (fun e => by
      have e : w.heap.size + 1 = Bs b := e
      have := HBL.out
      omega) ((HC.out w3.drew (Kept.refl _).drew).1.2.2.1 b HBN.out).2.1)
    have s5 := rs5.cell 0 rfl
    have hGI := (HI.out.make HBN.out (g' := moreM m N b) (fun u v hu => by unfold moreM; rw [if_neg (by omega)]) (fun v => by unfold moreM; rw [if_pos rfl]))
    have hm5 : ∀ u v, u < N → setM m b N 3#32 u v = moreM m N b u v := fun u v hu => by unfold moreM; rw [if_neg (by omega)]
    have hz5 : ∀ v, moreM m N b N v = 0#32 := fun v => by unfold moreM; rw [if_pos rfl]
    obtain ⟨w5, hw5⟩ : ∃ w5, w3.drew.setCell ⟨Bs b, N, none⟩ (.int .u32 3) = w5 := ⟨_, rfl⟩
    rw [hw5] at h5 kk5 s5 rs5
    have s6 := (rs5.alloc' (.cells (rep 14 (.int .u32 0)) 23)).cell 0 rfl
    have RS5 := Lib.hid rs5
    obtain ⟨B5, hB5⟩ : ∃ B5, w5.heap.size = B5 := ⟨_, rfl⟩
    have hS : (w5.alloc (.cells (rep 14 (.int .u32 0)) 23)).heap.size = B5 + 1 := by simp [hB5]
    have KF := Lib.hid ((KeepG.of (HH.out.kept0) (K2.out.trans (K3.trans (Kept.refl w3).drew))).trans kk5)
    have H5 := Lib.hid h5
    have HF := Lib.hid (fun (w7 : World) (A7 : Option Addr) (c7 : Nat) ho hg => show RetDo wa w G n g0 (.returned (.int .i64 0)) (w7.setCell ⟨G, 0, none⟩ (.slice A7 (N + 1) c7)) from by
      obtain ⟨d1, d2⟩ := make_done (w7 := w7) (A7 := A7) (c7 := c7) h5 hm5 hz5 hB5 ho hg
      exact ⟨0, N + 1, _, _, rfl, KF.out.trans d2, d1, hGI, by have := H14.out; omega⟩)
    have own5 := h5.2.1
    have hH : (((w5.alloc (.cells (rep 14 (.int .u32 0)) 23)).alloc (.cells #[.slice (some ⟨B5, 0, none⟩) 14 14] 42)).drew).heap[B5 + 1]? = some (.cells #[.slice (some ⟨B5, 0, none⟩) 14 14] 42 (0, 0)) := by
      have := heap_alloc_new (w5.alloc (.cells (rep 14 (.int .u32 0)) 23)) (.cells #[.slice (some ⟨B5, 0, none⟩) 14 14] 42)
      rw [hS] at this
      exact this
    clear hm5 hz5 hGI kk5 rs5 h5
    go_wp2_with fail
    clear r1 p1 z1 f0 f1 f2 s3
    have hN1 : N + 1 ≤ 1000000 := by omega
    have own6 := ((own5.alloc (.cells (rep 14 (.int .u32 0)) 23)).alloc (.cells #[.slice (some ⟨B5, 0, none⟩) 14 14] 42)).drew
    have row6 := ((H5.out.1.alloc' (.cells (rep 14 (.int .u32 0)) 23)).alloc' (.cells #[.slice (some ⟨B5, 0, none⟩) 14 14] 42)).drew
    have HR6 := Lib.hid row6
    have far6 := Lib.hid (own6.far row6 (by decide))
    have sin6 := Lib.hid own6.since
    clear row6
    have s7 := ((RS5.out.alloc' (.cells (rep 14 (.int .u32 0)) 23)).alloc' (.cells #[.slice (some ⟨B5, 0, none⟩) 14 14] 42)).cell 0 rfl
    go_region_law
      ((refine step_push (by rfl) _ _ 92 (by rfl) 42 Try.underlying92 info_u32row rfl (by decide) (by decide) _ _ _ _ own6 #[.slice (some ⟨B5, 0, none⟩) 14 14] 42 (0, 0) (B5 + 1) 1 1 hH (by rfl) (by rfl) rfl (one_slG B5) hN1 ?_; intro v7 w7 hown7 hgr7; obtain ⟨A7, c7, rfl, hsl7⟩ := hown7.form; have F7 := Lib.hid (HF.out w7 A7 c7 hown7 hgr7); have R7 := Lib.hid (HR6.out.grown hgr7 far6.out sin6.out); have m7 := R7.out.cell 0 rfl; have z7 := R7.out.free 0))
    all_goals
      go_wp2_with fail
      go_ret
      exact F7.out
end
end Go.Proofs.Ytekpifobhgjepaa
