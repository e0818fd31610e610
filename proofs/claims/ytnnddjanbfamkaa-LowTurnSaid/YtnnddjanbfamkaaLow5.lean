/- The walk of package low: a deed that writes. -/
import Derived.Test.YtnnddjanbfamkaaLow4
namespace Go.Proofs.Ytnnddjanbfamkaa
open Go Go.RowKit
set_option linter.unusedVariables false

set_option maxRecDepth 100000 in
set_option maxHeartbeats 8000000 in
theorem do_write (S K : Nat) (Ac At AM AF : Option Addr) (nc c1 nt c2 cM cF : Nat) (s : MSt) (clear things : List Lab) (u t : Nat) (lv : Int) (pt : BitVec 32) (vl : Int) (w0 w : World) (hw : LSt w0 w S K Ac At AM AF nc c1 nt c2 cM cF s) (hs : SlLab w0 At nt things) (hu : u < nc) (ht : t < nt) :
    Calls Try.prog 48 #[.pointer (some ⟨S, 0, none⟩), .agg #[.int .i64 2, .int .i64 u, .int .i64 t, .int .i64 lv, .int .u32 (W pt), .int .i64 vl]] w (RetLow w0 w S K Ac At AM AF nc c1 nt c2 cM cF (lowDo nc nt (lab clear) (lab things) s (2, u, t, lv, pt, vl))) := by
  have HR := Lib.hid (lowWrite (clear := lab clear) (things := lab things) (s := s) (x := (lv, pt, vl)) hu ht)
  rw [HR.out]
  have HW := Lib.hid hw
  have hka : Kept w (w.alloc (.cells #[.int .i64 2, .int .i64 u, .int .i64 t, .int .i64 lv, .int .u32 (W pt), .int .i64 vl] 75)) := (Kept.refl _).alloc _
  have hbx := Row.new hw.st.kept0 75 [.int .i64 2, .int .i64 u, .int .i64 t, .int .i64 lv, .int .u32 (W pt), .int .i64 vl] _ rfl
  obtain ⟨w2, hw2⟩ : ∃ w2, w.alloc (.cells #[.int .i64 2, .int .i64 u, .int .i64 t, .int .i64 lv, .int .u32 (W pt), .int .i64 vl] 75) = w2 := ⟨_, rfl⟩
  have HK := Lib.hid (show Kept w w2 from hw2 ▸ hka)
  have DB := Lib.hid (show Row w0 w2 w.heap.size 75 [.int .i64 2, .int .i64 u, .int .i64 t, .int .i64 lv, .int .u32 (W pt), .int .i64 vl] from hw2 ▸ hbx)
  clear hbx hka
  have g1 : decide ((u : Int) < 0) = false := by simp
  have g2 : decide (nc ≤ u) = false := by simp; omega
  have g3 : decide ((t : Int) < 0) = false := by simp
  have g4 : decide (nt ≤ t) = false := by simp; omega
  have hu1 : (0 : Int) ≤ (u : Int) := by omega
  have hu2 : (u : Int) < (nc : Int) := by omega
  have ht1 : (0 : Int) ≤ (t : Int) := by omega
  have ht2 : (t : Int) < (nt : Int) := by omega
  have d0 := DB.out.cell 0 rfl
  have d1 := DB.out.cell 1 rfl
  have d2 := DB.out.cell 2 rfl
  have s0 := (hw.st.kept HK.out).cell 0 rfl
  have s1 := (hw.st.kept HK.out).cell 1 rfl
  obtain ⟨b, off, rfl, hb, ct0, ct1⟩ := hs.lab_get t ht
  obtain ⟨g, rfl, _, _⟩ := hw.mr.block (by omega)
  obtain ⟨gf, rfl, _, _⟩ := hw.fr.block (by omega)
  have q0 := labsV_at s.marks hu
  obtain ⟨x, hx⟩ : ∃ x, s.marks u = x := ⟨_, rfl⟩
  obtain ⟨y, hy⟩ : ∃ y, lab things t = y := ⟨_, rfl⟩
  rw [hy] at ct0 ct1
  rw [hx] at q0
  obtain ⟨bb, hbb⟩ : ∃ bb, leB (lab things t) (s.marks u) = bb := ⟨_, rfl⟩
  rw [hbb]
  obtain ⟨r, hr⟩ : ∃ r, (if bb = true then ((0 : Int), (⟨s.marks, s.knows, upd s.from_ t (s.from_ t ||| s.knows u)⟩ : MSt)) else (7, s)) = r := ⟨_, rfl⟩
  rw [hr]
  have HRR := Lib.hid hr
  rw [hx, hy] at hbb
  have HL := Lib.hid (fun w' => least_any y.1 x.1 y.2 x.2 w')
  rw [show leB (y.1, y.2) (x.1, x.2) = bb from hbb] at HL
  have HF := Lib.hid (fun w' (kk : Kept w w') => show w'.cell? ⟨S, 1, none⟩ = some (.slice (some ⟨b, off, none⟩) nt c2) ∧ w'.cell? ⟨S, 2, none⟩ = some (.slice (some ⟨g, 0, none⟩) nc cM) ∧ w'.cell? ⟨b, off + t * 2, none⟩ = some (.int .i64 y.1) ∧ w'.cell? ⟨b, off + t * 2 + 1, none⟩ = some (.int .u32 (W y.2)) ∧ w'.cell? ⟨g, u * 2, none⟩ = some (.int .i64 x.1) ∧ w'.cell? ⟨g, u * 2 + 1, none⟩ = some (.int .u32 (W x.2)) from
    have h := HW.out.kept kk
    ⟨h.st.cell 1 rfl, h.st.cell 2 rfl, (h.st.kept0.cell (cell_lt ct0)).trans ct0, (h.st.kept0.cell (cell_lt ct1)).trans ct1, h.mr.cell _ q0.1, h.mr.cell _ q0.2⟩)
  clear hw hs hbb hx hy hr ct0 ct1 q0 hb
  go_enter Try.func48, Try.ntmps48
  go_wp2_with fail
  go_quiet (fail)
  have k3 := (Kept.refl w2).drewN nq
  have DB3 := Lib.hid (DB.out.kept k3)
  have HK3 := Lib.hid (HK.out.trans k3)
  clear d0 d1 d2 s0 s1 hw2 k3
  obtain ⟨w3, hw3⟩ : ∃ w3, w2.drewN nq = w3 := ⟨_, rfl⟩
  rw [hw3] at DB3 HK3 ⊢
  clear hw3
  have d0 := DB3.out.cell 0 rfl
  have d1 := DB3.out.cell 1 rfl
  have d2 := DB3.out.cell 2 rfl
  obtain ⟨f1, f2, f3, f4, f5, f6⟩ := HF.out _ HK3.out
  have q1 := kw_cell d1
  have q2 := kw_cell d2
  have q3 := kw_cell f1
  have q4 := kw_cell f2
  have q5 := kw_cell f3
  have q6 := kw_cell f4
  have q7 := kw_cell f5
  have q8 := kw_cell f6
  go_wp2_with fail
  refine wp_region_kept (by kernel_rfl) (by kernel_rfl) ?_
  repeat (go_big_quiet_step ((go_at_call 43; exact kept_of (HL.out _))))
  refine wpQuiet_nil ?_
  intro w4 k4
  have HW4 := Lib.hid (HW.out.kept (HK3.out.trans k4))
  have KC4 := Lib.hid (KeepC.of (w0 := w0) (HK3.out.trans k4))
  have DB4 := Lib.hid (DB3.out.kept k4)
  clear d0 d1 d2 f1 f2 f3 f4 f5 f6 q1 q2 q3 q4 q5 q6 q7 q8 k4
  cases bb
  · obtain rfl : (7, s) = r := HRR.out
    go_wp2_with fail
    go_ret
    exact ⟨rfl, HW4.out, KC4.out⟩
  · obtain rfl : ((0 : Int), (⟨s.marks, s.knows, upd s.from_ t (s.from_ t ||| s.knows u)⟩ : MSt)) = r := HRR.out
    have d1 := DB4.out.cell 1 rfl
    have d2 := DB4.out.cell 2 rfl
    have s3 := HW4.out.st.cell 3 rfl
    have s4 := HW4.out.st.cell 4 rfl
    have r0 := HW4.out.kn.cell u (rowsV_at s.knows hu)
    have r1 := HW4.out.fr.cell t (rowsV_at s.from_ ht)
    have rf := HW4.out.fr.free t
    go_wp2_with fail
    go_still_tail 18, (by kernel_rfl)
    go_wp2_with fail
    go_ret
    exact ⟨rfl, (HW4.out.setF t _).kept (Kept.refl _).drew, (KC4.out.trans (KeepC.setOwn HW4.out.fr (by decide) t _)).trans (KeepC.of (Kept.refl _).drew)⟩
end Go.Proofs.Ytnnddjanbfamkaa
