/- The walk of package low: a deed that drops. -/
import Derived.Test.YtnnddjanbfamkaaLow4
import Derived.Deep.RegionHeld3
import Derived.Deep.RegionLaw
namespace Go.Proofs.Ytnnddjanbfamkaa
open Go Go.RowKit
set_option linter.unusedVariables false

theorem held_num (k : IntKind) (a : Addr) : ∃ m : World → Int, ∀ (w : World) (z : Int), w.cell? a = some (.int k z) → w.cell? a = some (.int k (m w)) := by
  have h : ∀ w : World, ∃ x : Int, ∀ z : Int, w.cell? a = some (.int k z) → w.cell? a = some (.int k x) := fun w => by
    rcases Classical.em (∃ z : Int, w.cell? a = some (.int k z)) with ⟨z, hz⟩ | hn
    · exact ⟨z, fun _ _ => hz⟩
    · exact ⟨0, fun z hz => absurd ⟨z, hz⟩ hn⟩
  exact Classical.skolem.1 h
theorem Row.apart {w0 w : World} {B g j : Nat} {e : TypeId} {xs : List Value} (h : Row w0 w B e xs) (u : Value) (hne : B ≠ g) (hg : w0.heap.size ≤ g) : Row w0 (w.setCell ⟨g, j, none⟩ u) B e xs := h.other (p := ⟨g, j, none⟩) u hne hg
/-- the state and the deed, in the midst of a store -/
def MidD (w0 : World) (S K D g : Nat) (Ac At AF : Option Addr) (nc c1 nt c2 cM cF : Nat) (ds : List Value) (w : World) : Prop :=
  (∃ s, LSt w0 w S K Ac At (some ⟨g, 0, none⟩) AF nc c1 nt c2 cM cF s) ∧ Row w0 w D 75 ds ∧ D ≠ g ∧ D ≠ K
section
variable {w0 w : World} {S K D g : Nat} {Ac At AF : Option Addr} {nc c1 nt c2 cM cF : Nat} {ds : List Value}
theorem MidD.setG (h : MidD w0 S K D g Ac At AF nc c1 nt c2 cM cF ds w) (u : Nat) (l : Int) (p : BitVec 32) : MidD w0 S K D g Ac At AF nc c1 nt c2 cM cF ds ((w.setCell ⟨g, u * 2, none⟩ (.int .i64 l)).setCell ⟨g, u * 2 + 1, none⟩ (.int .u32 (W p))) := by
  obtain ⟨⟨s, h1⟩, h2, h3, h4⟩ := h
  have hg := h1.mr.since g rfl
  exact ⟨⟨_, h1.setM u (l, p)⟩, (h2.apart _ h3 hg).apart _ h3 hg, h3, h4⟩
theorem MidD.setZ (h : MidD w0 S K D g Ac At AF nc c1 nt c2 cM cF ds w) (u : Nat) : MidD w0 S K D g Ac At AF nc c1 nt c2 cM cF ds (w.setCell ⟨K, u, none⟩ (.int .u32 0)) := by
  obtain ⟨⟨s, h1⟩, h2, h3, h4⟩ := h
  have := h1.setK u 0#32
  rw [W_zero] at this
  exact ⟨⟨_, this⟩, h2.apart _ h4 h1.kn.2.1, h3, h4⟩
theorem MidD.drew (h : MidD w0 S K D g Ac At AF nc c1 nt c2 cM cF ds w) : MidD w0 S K D g Ac At AF nc c1 nt c2 cM cF ds w.drew := by
  obtain ⟨⟨s, h1⟩, h2, h3, h4⟩ := h
  exact ⟨⟨_, h1.kept (Kept.refl _).drew⟩, h2.drew, h3, h4⟩
end
set_option maxRecDepth 100000 in
set_option maxHeartbeats 8000000 in
theorem do_drop (S K : Nat) (Ac At AM AF : Option Addr) (nc c1 nt c2 cM cF : Nat) (s : MSt) (clear things : List Lab) (u : Nat) (t : Int) (lv : Int) (pt : BitVec 32) (vl : Int) (w0 w : World) (hw : LSt w0 w S K Ac At AM AF nc c1 nt c2 cM cF s) (hc : SlLab w0 Ac nc clear) (hu : u < nc) :
    Calls Try.prog 48 #[.pointer (some ⟨S, 0, none⟩), .agg #[.int .i64 3, .int .i64 u, .int .i64 t, .int .i64 lv, .int .u32 (W pt), .int .i64 vl]] w (RetLow w0 w S K Ac At AM AF nc c1 nt c2 cM cF (lowDo nc nt (lab clear) (lab things) s (3, u, t, lv, pt, vl))) := by
  have HR := Lib.hid (lowDrop (nt := nt) (clear := lab clear) (things := lab things) (s := s) (t := t) (x := (lv, pt, vl)) hu)
  rw [HR.out]
  have HW := Lib.hid hw
  have hka : Kept w (w.alloc (.cells #[.int .i64 3, .int .i64 u, .int .i64 t, .int .i64 lv, .int .u32 (W pt), .int .i64 vl] 75)) := (Kept.refl _).alloc _
  have hbx := Row.new hw.st.kept0 75 [.int .i64 3, .int .i64 u, .int .i64 t, .int .i64 lv, .int .u32 (W pt), .int .i64 vl] _ rfl
  obtain ⟨w2, hw2⟩ : ∃ w2, w.alloc (.cells #[.int .i64 3, .int .i64 u, .int .i64 t, .int .i64 lv, .int .u32 (W pt), .int .i64 vl] 75) = w2 := ⟨_, rfl⟩
  have HK := Lib.hid (show Kept w w2 from hw2 ▸ hka)
  have DB := Lib.hid (show Row w0 w2 w.heap.size 75 [.int .i64 3, .int .i64 u, .int .i64 t, .int .i64 lv, .int .u32 (W pt), .int .i64 vl] from hw2 ▸ hbx)
  clear hbx hka
  have g1 : decide ((u : Int) < 0) = false := by simp
  have g2 : decide (nc ≤ u) = false := by simp; omega
  have hu1 : (0 : Int) ≤ (u : Int) := by omega
  have hu2 : (u : Int) < (nc : Int) := by omega
  have d0 := DB.out.cell 0 rfl
  have d1 := DB.out.cell 1 rfl
  have s0 := (hw.st.kept HK.out).cell 0 rfl
  have s1 := (hw.st.kept HK.out).cell 1 rfl
  obtain ⟨b, off, rfl, hb, ct0, ct1⟩ := hc.lab_get u hu
  obtain ⟨g, rfl, _, hglt⟩ := hw.mr.block (by omega)
  obtain ⟨y, hy⟩ : ∃ y, lab clear u = y := ⟨_, rfl⟩
  have HNE := Lib.hid (show S ≠ g ∧ S ≠ K ∧ b ≠ g ∧ b ≠ K ∧ K ≠ g from ⟨fun e => hw.mr.far hw.st (by decide) (by rw [e]; rfl), row_neL hw.st hw.kn (by decide), by have := hw.mr.since g rfl; omega, by have := hw.kn.2.1; omega, fun e => hw.mr.far hw.kn (by decide) (by rw [e]; rfl)⟩)
  rw [hy] at ct0 ct1 ⊢
  have HD := Lib.hid (show w.heap.size ≠ g ∧ w.heap.size ≠ K from ⟨by omega, by have := hw.kn.lt; omega⟩)
  obtain ⟨m1, hm1⟩ := held_num .i64 ⟨g, u * 2, none⟩
  obtain ⟨m2, hm2⟩ := held_num .u32 ⟨g, u * 2 + 1, none⟩
  obtain ⟨m3, hm3⟩ := held_num .u32 ⟨K, u, none⟩
  have HF := Lib.hid (fun D w' (h : MidD w0 S K D g (some ⟨b, off, none⟩) At AF nc c1 nt c2 cM cF [.int .i64 3, .int .i64 u, .int .i64 t, .int .i64 lv, .int .u32 (W pt), .int .i64 vl] w') => show w'.cell? ⟨S, 0, none⟩ = some (.slice (some ⟨b, off, none⟩) nc c1) ∧ w'.cell? ⟨S, 2, none⟩ = some (.slice (some ⟨g, 0, none⟩) nc cM) ∧ w'.cell? ⟨S, 3, none⟩ = some (.slice (some ⟨K, 0, none⟩) nc nc) ∧ w'.cell? ⟨D, 1, none⟩ = some (.int .i64 u) ∧ w'.cell? ⟨b, off + u * 2, none⟩ = some (.int .i64 y.1) ∧ w'.cell? ⟨b, off + u * 2 + 1, none⟩ = some (.int .u32 (W y.2)) ∧ w'.frozen? ⟨g, u * 2, none⟩ = false ∧ w'.frozen? ⟨g, u * 2 + 1, none⟩ = false ∧ w'.frozen? ⟨K, u, none⟩ = false ∧ w'.cell? ⟨g, u * 2, none⟩ = some (.int .i64 (m1 w')) ∧ w'.cell? ⟨g, u * 2 + 1, none⟩ = some (.int .u32 (m2 w')) ∧ w'.cell? ⟨K, u, none⟩ = some (.int .u32 (m3 w')) from by
    obtain ⟨⟨s', h1⟩, h2, _, _⟩ := h
    exact ⟨h1.st.cell 0 rfl, h1.st.cell 2 rfl, h1.st.cell 3 rfl, h2.cell 1 rfl, (h1.st.kept0.cell (cell_lt ct0)).trans ct0, (h1.st.kept0.cell (cell_lt ct1)).trans ct1, h1.mr.free _, h1.mr.free _, h1.kn.free _, hm1 _ _ (h1.mr.cell _ (labsV_at s'.marks hu).1), hm2 _ _ (h1.mr.cell _ (labsV_at s'.marks hu).2), hm3 _ _ (h1.kn.cell u (rowsV_at s'.knows hu))⟩)
  have HF6 := Lib.hid (fun (D : Nat) (w' : World) (h : MidD w0 S K D g (some ⟨b, off, none⟩) At AF nc c1 nt c2 cM cF [.int .i64 3, .int .i64 u, .int .i64 t, .int .i64 lv, .int .u32 (W pt), .int .i64 vl] w') => show w'.cell? ⟨S, 0, none⟩ = some (.slice (some ⟨b, off, none⟩) nc c1) ∧ w'.cell? ⟨S, 2, none⟩ = some (.slice (some ⟨g, 0, none⟩) nc cM) ∧ w'.cell? ⟨S, 3, none⟩ = some (.slice (some ⟨K, 0, none⟩) nc nc) ∧ w'.cell? ⟨D, 1, none⟩ = some (.int .i64 u) ∧ w'.cell? ⟨b, off + u * 2, none⟩ = some (.int .i64 y.1) ∧ w'.cell? ⟨b, off + u * 2 + 1, none⟩ = some (.int .u32 (W y.2)) from by
    obtain ⟨a1, a2, a3, a4, a5, a6, _⟩ := HF.out D w' h
    exact ⟨a1, a2, a3, a4, a5, a6⟩)
  clear hw hc hy ct0 ct1 hb hglt hm1 hm2 hm3
  go_enter Try.func48, Try.ntmps48
  go_wp2_with fail
  go_quiet (fail)
  have k3 := (Kept.refl w2).drewN nq
  have DB3 := Lib.hid (DB.out.kept k3)
  have HK3 := Lib.hid (HK.out.trans k3)
  clear d0 d1 s0 s1 hw2 k3
  obtain ⟨w3, hw3⟩ : ∃ w3, w2.drewN nq = w3 := ⟨_, rfl⟩
  rw [hw3] at DB3 HK3 ⊢
  clear hw3
  generalize w.heap.size = D at DB3 HD ⊢
  have HW3 := Lib.hid (HW.out.kept HK3.out)
  have HM3 := Lib.hid (show MidD w0 S K D g (some ⟨b, off, none⟩) At AF nc c1 nt c2 cM cF [.int .i64 3, .int .i64 u, .int .i64 t, .int .i64 lv, .int .u32 (W pt), .int .i64 vl] w3 from ⟨⟨s, HW3.out⟩, DB3.out, HD.out.1, HD.out.2⟩)
  have d0 := DB3.out.cell 0 rfl
  have q0 := labsV_at s.marks hu
  have e1 := HW3.out.mr.cell _ q0.1
  have e2 := HW3.out.mr.cell _ q0.2
  have e3 := HW3.out.kn.cell u (rowsV_at s.knows hu)
  obtain ⟨f1, f2, f3, f4, f5, f6, f7, f8, f9, _, _, _⟩ := HF.out _ _ HM3.out
  have n1 : S ≠ g := HNE.out.1
  have n2 : S ≠ K := HNE.out.2.1
  have n3 : D ≠ g := HD.out.1
  have n4 : D ≠ K := HD.out.2
  have n5 : b ≠ g := HNE.out.2.2.1
  have n6 : b ≠ K := HNE.out.2.2.2.1
  have n7 : K ≠ g := HNE.out.2.2.2.2
  have n8 := n1.symm
  have n9 := n2.symm
  have n10 := n3.symm
  have n11 := n4.symm
  have n12 := n5.symm
  have n13 := n6.symm
  have n14 := n7.symm
  clear q0
  go_wp2_with fail
  clear d0 f1 f2 f3 f4 f5 f6 n1 n2 n3 n4 n5 n6 n8 n9 n10 n11 n12 n13
  go_region_held3 (fun w' => w'.cell? ⟨S, 0, none⟩ = some (.slice (some ⟨b, off, none⟩) nc c1) ∧ w'.cell? ⟨S, 2, none⟩ = some (.slice (some ⟨g, 0, none⟩) nc cM) ∧ w'.cell? ⟨S, 3, none⟩ = some (.slice (some ⟨K, 0, none⟩) nc nc) ∧ w'.cell? ⟨D, 1, none⟩ = some (.int .i64 u) ∧ w'.cell? ⟨b, off + u * 2, none⟩ = some (.int .i64 y.1) ∧ w'.cell? ⟨b, off + u * 2 + 1, none⟩ = some (.int .u32 (W y.2)))
    ((refine HF6.out _ _ ?_; repeat first | with_reducible exact HM3.out | with_reducible refine MidD.drew ?_ | with_reducible refine MidD.setG ?_ _ _ _ | with_reducible refine MidD.setZ ?_ _))
    ((fail))
  all_goals
    rename_i hHeld
    clear hHeld
    go_wp2_with fail
    go_ret
    have h1 := (HW3.out.setM u y).setK u 0#32
    rw [W_zero] at h1
    exact ⟨rfl, h1.kept (Kept.refl _).drew, ((KeepC.of HK3.out).trans ((setM_keep HW3.out.mr _ _ _ _).trans (KeepC.setRow (HW3.out.setM u y).kn (by decide) u _))).trans (KeepC.of (Kept.refl _).drew)⟩
end Go.Proofs.Ytnnddjanbfamkaa
