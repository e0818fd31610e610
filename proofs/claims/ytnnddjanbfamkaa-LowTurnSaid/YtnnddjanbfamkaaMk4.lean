/- The walk of mark.Play's closure: a deed that writes. -/
import Derived.Test.YtnnddjanbfamkaaMk1
import Derived.StillTailTactics
import Derived.BigQuiet
import Derived.Deep.RegionHeld3
namespace Go.Proofs.Ytnnddjanbfamkaa
open Go Go.RowKit
set_option linter.unusedVariables false

set_option maxRecDepth 100000 in
set_option maxHeartbeats 8000000 in
theorem mk_write (Bc Bt O Bk M F K V : Nat) (A1 A2 : Option Addr) (nc c1 nt c2 : Nat) (VC : Value) (s : MSt) (clear things : List Lab) (u t : Nat) (lv : Int) (pt : BitVec 32) (vl : Int) (w0 w : World) (hw : MkSt w0 w Bc Bt O Bk M F K V A1 A2 nc c1 nt c2 VC s) (hs : SlLab w0 A2 nt things) (hu : u < nc) (ht : t < nt) :
    Calls Try.prog 45 #[.agg #[.int .i64 2, .int .i64 u, .int .i64 t, .int .i64 lv, .int .u32 (W pt), .int .i64 vl], .pointer (some ⟨Bc, 0, none⟩), .pointer (some ⟨Bt, 0, none⟩), .pointer (some ⟨O, 0, none⟩), .pointer (some ⟨Bk, 0, none⟩)] w (RetMk w0 w Bc Bt O Bk M F K V A1 A2 nc c1 nt c2 VC (markDo nc nt (lab clear) (lab things) s (2, u, t, lv, pt, vl))) := by
  have HR := Lib.hid (markWrite (clear := lab clear) (things := lab things) (s := s) (x := (lv, pt, vl)) hu ht)
  rw [HR.out]
  have HW := Lib.hid hw
  have hka : Kept w (w.alloc (.cells #[.int .i64 2, .int .i64 u, .int .i64 t, .int .i64 lv, .int .u32 (W pt), .int .i64 vl] 75)) := (Kept.refl _).alloc _
  have hbx := Row.new hw.bc.kept0 75 [.int .i64 2, .int .i64 u, .int .i64 t, .int .i64 lv, .int .u32 (W pt), .int .i64 vl] _ rfl
  obtain ⟨w2, hw2⟩ : ∃ w2, w.alloc (.cells #[.int .i64 2, .int .i64 u, .int .i64 t, .int .i64 lv, .int .u32 (W pt), .int .i64 vl] 75) = w2 := ⟨_, rfl⟩
  have HK := Lib.hid (show Kept w w2 from hw2 ▸ hka)
  have DB := Lib.hid (show Row w0 w2 w.heap.size 75 [.int .i64 2, .int .i64 u, .int .i64 t, .int .i64 lv, .int .u32 (W pt), .int .i64 vl] from hw2 ▸ hbx)
  clear hbx hka
  have g1 : decide ((u : Int) < 0) = false := by simp
  have g2 : decide (nc ≤ u) = false := by simp; omega
  have hu1 : (0 : Int) ≤ (u : Int) := by omega
  have hu2 : (u : Int) < (nc : Int) := by omega
  have d0 := DB.out.cell 0 rfl
  have d1 := DB.out.cell 1 rfl
  have s0 := (hw.bc.kept HK.out).cell 0 rfl
  have g3 : decide ((t : Int) < 0) = false := by simp
  have g4 : decide (nt ≤ t) = false := by simp; omega
  have ht1 : (0 : Int) ≤ (t : Int) := by omega
  have ht2 : (t : Int) < (nt : Int) := by omega
  have d2 := DB.out.cell 2 rfl
  have s1 := (hw.bt.kept HK.out).cell 0 rfl
  obtain ⟨b, off, rfl, hb, ct0, ct1⟩ := hs.lab_get t ht
  have q0 := labsV_at s.marks hu
  obtain ⟨x, hx⟩ : ∃ x, s.marks u = x := ⟨_, rfl⟩
  obtain ⟨y, hy⟩ : ∃ y, lab things t = y := ⟨_, rfl⟩
  rw [hy] at ct0 ct1
  rw [hx] at q0
  obtain ⟨bb, hbb⟩ : ∃ bb, leB (s.marks u) (lab things t) = bb := ⟨_, rfl⟩
  rw [hbb]
  obtain ⟨r, hr⟩ : ∃ r, (if bb = true then ((0 : Int), (⟨s.marks, s.knows, upd s.from_ t (s.from_ t ||| s.knows u)⟩ : MSt)) else (7, s)) = r := ⟨_, rfl⟩
  rw [hr]
  have HRR := Lib.hid hr
  rw [hx, hy] at hbb
  have HL := Lib.hid (fun w' => least_any x.1 y.1 x.2 y.2 w')
  rw [show leB (x.1, x.2) (y.1, y.2) = bb from hbb] at HL
  have CT := Lib.hid (And.intro ct0 ct1)
  have Q0 := Lib.hid q0
  clear hw hs hbb hx hy hr ct0 ct1 q0 hb
  go_enter Try.func45, Try.ntmps45
  go_wp2_with fail
  have DB3 := DB
  have HK3 := HK
  clear d0 d1 d2 s0 s1 hw2
  generalize w.heap.size = D at DB DB3 ⊢
  have HW3 := Lib.hid (HW.out.kept HK3.out)
  have HS3 := Lib.hid (fun w' (kk : Kept w2 w') => show w'.cell? ⟨O, 1, none⟩ = some (.slice (some ⟨M, 0, none⟩) nc nc) ∧ w'.cell? ⟨Bt, 0, none⟩ = some (.slice (some ⟨b, off, none⟩) nt c2) ∧ w'.cell? ⟨D, 1, none⟩ = some (.int .i64 u) ∧ w'.cell? ⟨D, 2, none⟩ = some (.int .i64 t) ∧ w'.cell? ⟨b, off + t * 2, none⟩ = some (.int .i64 y.1) ∧ w'.cell? ⟨b, off + t * 2 + 1, none⟩ = some (.int .u32 (W y.2)) ∧ Kept w2 w' from
    have h := HW3.out.kept kk
    have dd := DB3.out.kept kk
    ⟨h.ot.cell 1 rfl, h.bt.cell 0 rfl, dd.cell 1 rfl, dd.cell 2 rfl, (h.bt.kept0.cell (cell_lt CT.out.1)).trans CT.out.1, (h.bt.kept0.cell (cell_lt CT.out.2)).trans CT.out.2, kk⟩)
  go_region_held3 (fun w' => w'.cell? ⟨O, 1, none⟩ = some (.slice (some ⟨M, 0, none⟩) nc nc) ∧ w'.cell? ⟨Bt, 0, none⟩ = some (.slice (some ⟨b, off, none⟩) nt c2) ∧ w'.cell? ⟨D, 1, none⟩ = some (.int .i64 u) ∧ w'.cell? ⟨D, 2, none⟩ = some (.int .i64 t) ∧ w'.cell? ⟨b, off + t * 2, none⟩ = some (.int .i64 y.1) ∧ w'.cell? ⟨b, off + t * 2 + 1, none⟩ = some (.int .u32 (W y.2)) ∧ Kept w2 w')
    ((refine HS3.out _ ?_; repeat first | exact Kept.refl _ | refine Kept.alloc ?_ _ | refine Kept.drew ?_ | refine Kept.setCell ?_ (by simp) _))
    ((fail))
  rename_i hHeld
  have K4 := Lib.hid hHeld.2.2.2.2.2.2
  clear hHeld
  first
  | (obtain ⟨w4, hw4⟩ : ∃ w4, (w2.alloc (.cells #[.int .i64 y.1, .int .u32 (W y.2)] 24)).drew = w4 := ⟨_, rfl⟩
     rw [hw4] at K4
     rw [hw4]
     have YB := Lib.hid (show Row w0 w4 w2.heap.size 24 [.int .i64 y.1, .int .u32 (W y.2)] from hw4 ▸ (Row.new HW3.out.bc.kept0 24 [.int .i64 y.1, .int .u32 (W y.2)] _ rfl).drew))
  | (obtain ⟨w4, hw4⟩ : ∃ w4, w2.drew.alloc (.cells #[.int .i64 y.1, .int .u32 (W y.2)] 24) = w4 := ⟨_, rfl⟩
     rw [hw4] at K4
     rw [hw4]
     have YB := Lib.hid (show Row w0 w4 w2.heap.size 24 [.int .i64 y.1, .int .u32 (W y.2)] from hw4 ▸ Row.new (HW3.out.bc.kept0.drew) 24 [.int .i64 y.1, .int .u32 (W y.2)] _ rfl))
  clear hw4
  have HLT := Lib.hid (show M < w2.heap.size from HW3.out.mr.lt)
  generalize w2.heap.size = Y at YB HLT ⊢
  have HW4 := Lib.hid (HW3.out.kept K4.out)
  have DB4 := Lib.hid (DB3.out.kept K4.out)
  have KC4 := Lib.hid (KeepC.of (w0 := w0) (HK3.out.trans K4.out))
  have d0 := DB4.out.cell 0 rfl
  have m0 := HW4.out.mr.cell _ Q0.out.1
  have m1 := HW4.out.mr.cell _ Q0.out.2
  have y0 := YB.out.cell 0 rfl
  have y1 := YB.out.cell 1 rfl
  have z1 := kw_cell m0
  have z2 := kw_cell m1
  have z3 := kw_cell y0
  have z4 := kw_cell y1
  go_wp2_with fail
  refine wp_region_kept (by kernel_rfl) (by kernel_rfl) ?_
  repeat (go_big_quiet_step ((go_at_call 43; exact kept_of (HL.out _))))
  refine wpQuiet_nil ?_
  intro w5 k5
  have HW5 := Lib.hid (HW4.out.kept k5)
  have DB5 := Lib.hid (DB4.out.kept k5)
  have KC5 := Lib.hid (KC4.out.trans (KeepC.of k5) : KeepC w0 w w5)
  clear d0 m0 m1 y0 y1 z1 z2 z3 z4 k5
  cases bb
  · obtain rfl : (7, s) = r := HRR.out
    go_wp2_with fail
    go_ret
    exact ⟨rfl, HW5.out, KC5.out⟩
  · obtain rfl : ((0 : Int), (⟨s.marks, s.knows, upd s.from_ t (s.from_ t ||| s.knows u)⟩ : MSt)) = r := HRR.out
    have d1 := DB5.out.cell 1 rfl
    have d2 := DB5.out.cell 2 rfl
    have o2 := HW5.out.ot.cell 2 rfl
    have k0 := HW5.out.bk.cell 0 rfl
    have r0 := HW5.out.kn.cell u (rowsV_at s.knows hu)
    have r1 := HW5.out.fr.cell t (rowsV_at s.from_ ht)
    have rf := HW5.out.fr.free t
    go_wp2_with fail
    go_still_tail 13, (by kernel_rfl)
    go_wp2_with fail
    go_ret
    exact ⟨rfl, (HW5.out.setF t _).kept (Kept.refl _).drew, (KC5.out.trans (KeepC.setRow HW5.out.fr (by decide) t _)).trans (KeepC.of (Kept.refl _).drew)⟩
end Go.Proofs.Ytnnddjanbfamkaa
