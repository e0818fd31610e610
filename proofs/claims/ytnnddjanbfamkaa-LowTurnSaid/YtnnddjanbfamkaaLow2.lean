/- The walk of package low: one reads. -/
import Derived.Test.YtnnddjanbfamkaaLowK
import Derived.StillTailTactics
import Derived.Deep.RegionHeld3
namespace Go.Proofs.Ytnnddjanbfamkaa
open Go Go.RowKit
set_option linter.unusedVariables false

set_option maxRecDepth 100000 in
set_option maxHeartbeats 8000000 in
theorem read_any (S K : Nat) (Ac At AM AF : Option Addr) (nc c1 nt c2 cM cF : Nat) (s : MSt) (things : List Lab) (u t : Nat) (w0 w : World) (hw : LSt w0 w S K Ac At AM AF nc c1 nt c2 cM cF s) (hs : SlLab w0 At nt things) (hu : u < nc) (ht : t < nt) :
    Calls Try.prog 61 #[.pointer (some ⟨S, 0, none⟩), .int .i64 u, .int .i64 t] w fun e w' => e = .returned (.tuple #[]) ∧ LSt w0 w' S K Ac At AM AF nc c1 nt c2 cM cF (readSt s u t (lab things t)) ∧ KeepC w0 w w' := by
  have HW := Lib.hid hw
  obtain ⟨b, off, rfl, hb, ct0, ct1⟩ := hs.lab_get t ht
  have hu1 : (0 : Int) ≤ (u : Int) := by omega
  have hu2 : (u : Int) < (nc : Int) := by omega
  have ht1 : (0 : Int) ≤ (t : Int) := by omega
  have ht2 : (t : Int) < (nt : Int) := by omega
  obtain ⟨g, rfl, _, _⟩ := hw.mr.block (by omega)
  have q0 := labsV_at s.marks hu
  obtain ⟨x, hx⟩ : ∃ x, s.marks u = x := ⟨_, rfl⟩
  obtain ⟨y, hy⟩ : ∃ y, lab things t = y := ⟨_, rfl⟩
  rw [hy] at ct0 ct1
  rw [hx] at q0
  have HFACT := Lib.hid (fun w' (kk : Kept w w') => show w'.cell? ⟨S, 1, none⟩ = some (.slice (some ⟨b, off, none⟩) nt c2) ∧ w'.cell? ⟨S, 2, none⟩ = some (.slice (some ⟨g, 0, none⟩) nc cM) ∧ w'.cell? ⟨b, off + t * 2, none⟩ = some (.int .i64 y.1) ∧ w'.cell? ⟨b, off + t * 2 + 1, none⟩ = some (.int .u32 (W y.2)) ∧ w'.cell? ⟨g, u * 2, none⟩ = some (.int .i64 x.1) ∧ w'.cell? ⟨g, u * 2 + 1, none⟩ = some (.int .u32 (W x.2)) ∧ Kept w w' from
    have h := HW.out.kept kk
    ⟨h.st.cell 1 rfl, h.st.cell 2 rfl, (h.st.kept0.cell (cell_lt ct0)).trans ct0, (h.st.kept0.cell (cell_lt ct1)).trans ct1, h.mr.cell _ q0.1, h.mr.cell _ q0.2, kk⟩)
  clear hw hs ct0 ct1 q0 hb
  go_enter Try.func61, Try.ntmps61
  go_wp2_with fail
  go_region_held3 (fun w' => w'.cell? ⟨S, 1, none⟩ = some (.slice (some ⟨b, off, none⟩) nt c2) ∧ w'.cell? ⟨S, 2, none⟩ = some (.slice (some ⟨g, 0, none⟩) nc cM) ∧ w'.cell? ⟨b, off + t * 2, none⟩ = some (.int .i64 y.1) ∧ w'.cell? ⟨b, off + t * 2 + 1, none⟩ = some (.int .u32 (W y.2)) ∧ w'.cell? ⟨g, u * 2, none⟩ = some (.int .i64 x.1) ∧ w'.cell? ⟨g, u * 2 + 1, none⟩ = some (.int .u32 (W x.2)) ∧ Kept w w')
    ((refine HFACT.out _ ?_; repeat first | exact Kept.refl _ | refine Kept.alloc ?_ _ | refine Kept.drew ?_ | refine Kept.setCell ?_ (by simp) _))
    ((fail))
  all_goals
    rename_i hHeld
    clear hHeld
    first
    | (obtain ⟨w2, hw2⟩ : ∃ w2, ((w.alloc (.cells #[.int .i64 x.1, .int .u32 (W x.2)] 24)).alloc (.cells #[.int .i64 y.1, .int .u32 (W y.2)] 24)).drew = w2 := ⟨_, rfl⟩
       rw [hw2]
       have PX := Lib.hid (show Row w0 w2 w.heap.size 24 [.int .i64 x.1, .int .u32 (W x.2)] from hw2 ▸ (Row.new HW.out.st.kept0 24 [.int .i64 x.1, .int .u32 (W x.2)] _ rfl).kept (((Kept.refl _).alloc _).drew))
       have PY := Lib.hid (show Row w0 w2 (w.heap.size + 1) 24 [.int .i64 y.1, .int .u32 (W y.2)] from hw2 ▸ (Row.new (HW.out.st.kept0.alloc _) 24 [.int .i64 y.1, .int .u32 (W y.2)] _ (by simp)).drew)
       have K2 := Lib.hid (show Kept w w2 from hw2 ▸ (((Kept.refl _).alloc _).alloc _).drew)
       have HN := Lib.hid (show g ≠ w.heap.size ∧ g ≠ w.heap.size + 1 from by omega)
       generalize w.heap.size + 1 = Y at PY HN ⊢
       generalize w.heap.size = X at PX HN ⊢)
    | (obtain ⟨w2, hw2⟩ : ∃ w2, ((w.alloc (.cells #[.int .i64 y.1, .int .u32 (W y.2)] 24)).alloc (.cells #[.int .i64 x.1, .int .u32 (W x.2)] 24)).drew = w2 := ⟨_, rfl⟩
       rw [hw2]
       have PX := Lib.hid (show Row w0 w2 (w.heap.size + 1) 24 [.int .i64 x.1, .int .u32 (W x.2)] from hw2 ▸ (Row.new (HW.out.st.kept0.alloc _) 24 [.int .i64 x.1, .int .u32 (W x.2)] _ (by simp)).drew)
       have PY := Lib.hid (show Row w0 w2 w.heap.size 24 [.int .i64 y.1, .int .u32 (W y.2)] from hw2 ▸ (Row.new HW.out.st.kept0 24 [.int .i64 y.1, .int .u32 (W y.2)] _ rfl).kept (((Kept.refl _).alloc _).drew))
       have K2 := Lib.hid (show Kept w w2 from hw2 ▸ (((Kept.refl _).alloc _).alloc _).drew)
       have HN := Lib.hid (show g ≠ w.heap.size + 1 ∧ g ≠ w.heap.size from by omega)
       generalize w.heap.size + 1 = X at PX HN ⊢
       generalize w.heap.size = Y at PY HN ⊢)
    clear hw2
    obtain ⟨s1, s2, _, _, _, _, _⟩ := HFACT.out _ K2.out
    have x0 := PX.out.cell 0 rfl
    have x1 := PX.out.cell 1 rfl
    have y0 := PY.out.cell 0 rfl
    have y1 := PY.out.cell 1 rfl
    have HW2 := Lib.hid (HW.out.kept K2.out)
    clear HFACT
    obtain ⟨z, hz⟩ : ∃ z, min x.1 y.1 = z := ⟨_, rfl⟩
    have HZ := Lib.hid (show meetL (s.marks u) (lab things t) = (z, x.2 &&& y.2) by rw [hx, hy]; unfold meetL; rw [hz])
    have hcase : (x.1 ≤ y.1 ∧ z = x.1) ∨ (y.1 < x.1 ∧ z = y.1) := by omega
    have r0 := HW2.out.kn.cell u (rowsV_at s.knows hu)
    obtain ⟨gf, rfl, _, _⟩ := HW2.out.fr.block (by omega)
    have r1 := HW2.out.fr.cell t (rowsV_at s.from_ ht)
    clear hz hx hy
    rcases hcase with ⟨hlm, rfl⟩ | ⟨hlm, rfl⟩
    all_goals
      have f0 := HW2.out.mr.free (u * 2)
      have f1 := HW2.out.mr.free (u * 2 + 1)
      go_wp2_with fail
      go_still_tail 17, (by kernel_rfl)
      go_wp2_with fail
      have hset := HW2.out.setM u (meetL (s.marks u) (lab things t))
      have hkee := setM_keep HW2.out.mr (u * 2) (u * 2 + 1) (.int .i64 (meetL (s.marks u) (lab things t)).1) (.int .u32 (W (meetL (s.marks u) (lab things t)).2))
      rw [HZ.out] at hset hkee
      first
      | (obtain ⟨w3, hw3⟩ : ∃ w3, ((w2.setCell ⟨g, u * 2, none⟩ (.int .i64 x.1)).setCell ⟨g, u * 2 + 1, none⟩ (.int .u32 (W (x.2 &&& y.2)))).drew = w3 := ⟨_, rfl⟩
         rw [hw3]
         have HW3 := Lib.hid (hw3 ▸ hset.kept (Kept.refl _).drew)
         have HC3 := Lib.hid ((KeepC.of K2.out).trans (hw3 ▸ hkee.trans (KeepC.of (Kept.refl _).drew)) : KeepC w0 w w3))
      | (obtain ⟨w3, hw3⟩ : ∃ w3, ((w2.setCell ⟨g, u * 2, none⟩ (.int .i64 y.1)).setCell ⟨g, u * 2 + 1, none⟩ (.int .u32 (W (x.2 &&& y.2)))).drew = w3 := ⟨_, rfl⟩
         rw [hw3]
         have HW3 := Lib.hid (hw3 ▸ hset.kept (Kept.refl _).drew)
         have HC3 := Lib.hid ((KeepC.of K2.out).trans (hw3 ▸ hkee.trans (KeepC.of (Kept.refl _).drew)) : KeepC w0 w w3))
      clear hw3 hset hkee f0 f1 x0 x1 y0 y1 r0 r1 s1 s2
      have s3 := HW3.out.st.cell 3 rfl
      have s4 := HW3.out.st.cell 4 rfl
      have r0 := HW3.out.kn.cell u (rowsV_at s.knows hu)
      have rf := HW3.out.kn.free u
      have r1 := HW3.out.fr.cell t (rowsV_at s.from_ ht)
      go_still_tail 16, (by kernel_rfl)
      go_wp2_with fail
      exact bodyPost_end (v := .tuple #[]) (results_none rfl _ _ _) rfl ⟨rfl, by unfold readSt; rw [HZ.out]; exact (HW3.out.setK u _).kept (Kept.refl _).drew, (HC3.out.trans (KeepC.setRow HW3.out.kn (by decide) u _)).trans (KeepC.of (Kept.refl _).drew)⟩
end Go.Proofs.Ytnnddjanbfamkaa
