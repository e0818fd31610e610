/- The walk of mark.Play's closure: a deed that drops. -/
import Derived.Test.YtnnddjanbfamkaaMk1
import Derived.Deep.RegionHeld3
namespace Go.Proofs.Ytnnddjanbfamkaa
open Go Go.RowKit
set_option linter.unusedVariables false

/-- the state and the deed, in the midst of a store -/
def MidM (w0 : World) (Bc Bt O Bk M F K V D : Nat) (A1 A2 : Option Addr) (nc c1 nt c2 : Nat) (VC : Value) (ds : List Value) (w : World) : Prop :=
  (∃ s, MkSt w0 w Bc Bt O Bk M F K V A1 A2 nc c1 nt c2 VC s) ∧ Row w0 w D 75 ds ∧ D ≠ M ∧ D ≠ K
section
variable {w0 w : World} {Bc Bt O Bk M F K V D : Nat} {A1 A2 : Option Addr} {nc c1 nt c2 : Nat} {VC : Value} {ds : List Value}
theorem MidM.setG (h : MidM w0 Bc Bt O Bk M F K V D A1 A2 nc c1 nt c2 VC ds w) (u : Nat) : MidM w0 Bc Bt O Bk M F K V D A1 A2 nc c1 nt c2 VC ds ((w.setCell ⟨M, u * 2, none⟩ (.int .i64 0)).setCell ⟨M, u * 2 + 1, none⟩ (.int .u32 0)) := by
  obtain ⟨⟨s, h1⟩, h2, h3, h4⟩ := h
  have hg := h1.mr.2.1
  have := h1.setM u (0, 0#32)
  simp only [W_zero] at this
  exact ⟨⟨_, this⟩, (h2.other (p := ⟨M, u * 2, none⟩) _ h3 hg).other (p := ⟨M, u * 2 + 1, none⟩) _ h3 hg, h3, h4⟩
theorem MidM.setZ (h : MidM w0 Bc Bt O Bk M F K V D A1 A2 nc c1 nt c2 VC ds w) (u : Nat) : MidM w0 Bc Bt O Bk M F K V D A1 A2 nc c1 nt c2 VC ds (w.setCell ⟨K, u, none⟩ (.int .u32 0)) := by
  obtain ⟨⟨s, h1⟩, h2, h3, h4⟩ := h
  have := h1.setK u 0#32
  rw [W_zero] at this
  exact ⟨⟨_, this⟩, h2.other (p := ⟨K, u, none⟩) _ h4 h1.kn.2.1, h3, h4⟩
theorem MidM.drew (h : MidM w0 Bc Bt O Bk M F K V D A1 A2 nc c1 nt c2 VC ds w) : MidM w0 Bc Bt O Bk M F K V D A1 A2 nc c1 nt c2 VC ds w.drew := by
  obtain ⟨⟨s, h1⟩, h2, h3, h4⟩ := h
  exact ⟨⟨_, h1.kept (Kept.refl _).drew⟩, h2.drew, h3, h4⟩
end
set_option maxRecDepth 100000 in
set_option maxHeartbeats 8000000 in
theorem mk_drop (Bc Bt O Bk M F K V : Nat) (A1 A2 : Option Addr) (nc c1 nt c2 : Nat) (VC : Value) (s : MSt) (clear things : List Lab) (u : Nat) (t : Int) (lv : Int) (pt : BitVec 32) (vl : Int) (w0 w : World) (hw : MkSt w0 w Bc Bt O Bk M F K V A1 A2 nc c1 nt c2 VC s) (hu : u < nc) :
    Calls Try.prog 45 #[.agg #[.int .i64 3, .int .i64 u, .int .i64 t, .int .i64 lv, .int .u32 (W pt), .int .i64 vl], .pointer (some ⟨Bc, 0, none⟩), .pointer (some ⟨Bt, 0, none⟩), .pointer (some ⟨O, 0, none⟩), .pointer (some ⟨Bk, 0, none⟩)] w (RetMk w0 w Bc Bt O Bk M F K V A1 A2 nc c1 nt c2 VC (markDo nc nt (lab clear) (lab things) s (3, u, t, lv, pt, vl))) := by
  have HR := Lib.hid (markDrop (nt := nt) (clear := lab clear) (things := lab things) (s := s) (t := t) (x := (lv, pt, vl)) hu)
  rw [HR.out]
  have HW := Lib.hid hw
  have hka : Kept w (w.alloc (.cells #[.int .i64 3, .int .i64 u, .int .i64 t, .int .i64 lv, .int .u32 (W pt), .int .i64 vl] 75)) := (Kept.refl _).alloc _
  have hbx := Row.new hw.bc.kept0 75 [.int .i64 3, .int .i64 u, .int .i64 t, .int .i64 lv, .int .u32 (W pt), .int .i64 vl] _ rfl
  obtain ⟨w2, hw2⟩ : ∃ w2, w.alloc (.cells #[.int .i64 3, .int .i64 u, .int .i64 t, .int .i64 lv, .int .u32 (W pt), .int .i64 vl] 75) = w2 := ⟨_, rfl⟩
  have HK := Lib.hid (show Kept w w2 from hw2 ▸ hka)
  have DB := Lib.hid (show Row w0 w2 w.heap.size 75 [.int .i64 3, .int .i64 u, .int .i64 t, .int .i64 lv, .int .u32 (W pt), .int .i64 vl] from hw2 ▸ hbx)
  clear hbx hka
  have g1 : decide ((u : Int) < 0) = false := by simp
  have g2 : decide (nc ≤ u) = false := by simp; omega
  have hu1 : (0 : Int) ≤ (u : Int) := by omega
  have hu2 : (u : Int) < (nc : Int) := by omega
  have d0 := DB.out.cell 0 rfl
  have d1 := DB.out.cell 1 rfl
  have s0 := (hw.bc.kept HK.out).cell 0 rfl
  have HD := Lib.hid (show w.heap.size ≠ M ∧ w.heap.size ≠ K from ⟨by have := hw.mr.lt; omega, by have := hw.kn.lt; omega⟩)
  have HNE := Lib.hid (show K ≠ M from row_neL hw.kn hw.mr (by decide))
  have HF := Lib.hid (fun (D : Nat) (w' : World) (h : MidM w0 Bc Bt O Bk M F K V D A1 A2 nc c1 nt c2 VC [.int .i64 3, .int .i64 u, .int .i64 t, .int .i64 lv, .int .u32 (W pt), .int .i64 vl] w') => show w'.cell? ⟨O, 1, none⟩ = some (.slice (some ⟨M, 0, none⟩) nc nc) ∧ w'.cell? ⟨Bk, 0, none⟩ = some (.slice (some ⟨K, 0, none⟩) nc nc) ∧ w'.cell? ⟨D, 1, none⟩ = some (.int .i64 u) from by
    obtain ⟨⟨s', h1⟩, h2, _, _⟩ := h
    exact ⟨h1.ot.cell 1 rfl, h1.bk.cell 0 rfl, h2.cell 1 rfl⟩)
  clear hw
  go_enter Try.func45, Try.ntmps45
  go_wp2_with fail
  have DB3 := DB
  have HK3 := HK
  clear d0 d1 s0 hw2
  generalize w.heap.size = D at DB DB3 HD ⊢
  have HW3 := Lib.hid (HW.out.kept HK3.out)
  have HM3 := Lib.hid (show MidM w0 Bc Bt O Bk M F K V D A1 A2 nc c1 nt c2 VC [.int .i64 3, .int .i64 u, .int .i64 t, .int .i64 lv, .int .u32 (W pt), .int .i64 vl] w2 from ⟨⟨s, HW3.out⟩, DB3.out, HD.out.1, HD.out.2⟩)
  have q0 := labsV_at s.marks hu
  have e1 := HW3.out.mr.cell _ q0.1
  have e2 := HW3.out.mr.cell _ q0.2
  have e3 := HW3.out.kn.cell u (rowsV_at s.knows hu)
  have f7 := HW3.out.mr.free (u * 2)
  have f8 := HW3.out.mr.free (u * 2 + 1)
  have f9 := HW3.out.kn.free u
  have n7 : K ≠ M := HNE.out
  have n14 := n7.symm
  clear q0
  go_region_held3 (fun w' => w'.cell? ⟨O, 1, none⟩ = some (.slice (some ⟨M, 0, none⟩) nc nc) ∧ w'.cell? ⟨Bk, 0, none⟩ = some (.slice (some ⟨K, 0, none⟩) nc nc) ∧ w'.cell? ⟨D, 1, none⟩ = some (.int .i64 u))
    ((refine HF.out _ _ ?_; repeat first | with_reducible exact HM3.out | with_reducible refine MidM.drew ?_ | with_reducible refine MidM.setG ?_ _ | with_reducible refine MidM.setZ ?_ _))
    ((fail))
  all_goals
    rename_i hHeld
    clear hHeld
    go_wp2_with fail
    go_ret
    have h1 := (HW3.out.setM u (0, 0#32)).setK u 0#32
    have h2 := HW3.out.setM_keep u (0, 0#32)
    have h3 := KeepC.setRow (HW3.out.setM u (0, 0#32)).kn (by decide) u (.int .u32 0)
    simp only [W_zero] at h1 h2 h3
    exact ⟨rfl, h1.kept (Kept.refl _).drew, ((KeepC.of HK3.out).trans (h2.trans h3)).trans (KeepC.of (Kept.refl _).drew)⟩
end Go.Proofs.Ytnnddjanbfamkaa
