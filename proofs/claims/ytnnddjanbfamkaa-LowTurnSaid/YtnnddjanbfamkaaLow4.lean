/- The walk of package low: a deed that may be. -/
import Derived.Test.YtnnddjanbfamkaaLow2
import Derived.Test.YtnnddjanbfamkaaLow3
import Derived.StillTailTactics
import Derived.BigQuiet
namespace Go.Proofs.Ytnnddjanbfamkaa
open Go Go.RowKit
set_option linter.unusedVariables false

theorem lowRead {nc nt : Nat} {clear things : Nat → Lab} {s : MSt} {u t : Nat} {x : Int × BitVec 32 × Int} (hu : u < nc) (ht : t < nt) : lowDo nc nt clear things s (1, (u : Int), (t : Int), x) = (0, readSt s u t (things t)) := by
  unfold lowDo readSt
  have h : deedF nc nt (1, (u : Int), (t : Int), x) = 0 := by
    unfold deedF
    rw [if_neg (by simp), if_neg (by simp only; omega)]
  rw [h]
  simp
theorem lowWrite {nc nt : Nat} {clear things : Nat → Lab} {s : MSt} {u t : Nat} {x : Int × BitVec 32 × Int} (hu : u < nc) (ht : t < nt) : lowDo nc nt clear things s (2, (u : Int), (t : Int), x) = if leB (things t) (s.marks u) then (0, ⟨s.marks, s.knows, upd s.from_ t (s.from_ t ||| s.knows u)⟩) else (7, s) := by
  unfold lowDo
  have h : deedF nc nt (2, (u : Int), (t : Int), x) = 0 := by
    unfold deedF
    rw [if_neg (by simp), if_neg (by simp only; omega)]
  rw [h]
  simp
theorem lowDrop {nc nt : Nat} {clear things : Nat → Lab} {s : MSt} {u : Nat} {t : Int} {x : Int × BitVec 32 × Int} (hu : u < nc) : lowDo nc nt clear things s (3, (u : Int), t, x) = (0, ⟨upd s.marks u (clear u), upd s.knows u 0#32, s.from_⟩) := by
  unfold lowDo
  have h : deedF nc nt (3, (u : Int), t, x) = 0 := by
    unfold deedF
    rw [if_neg (by simp), if_neg (by simp only; omega)]
  rw [h]
  simp
section
set_option maxRecDepth 100000
set_option maxHeartbeats 8000000
theorem do_read (S K : Nat) (Ac At AM AF : Option Addr) (nc c1 nt c2 cM cF : Nat) (s : MSt) (clear things : List Lab) (u t : Nat) (lv : Int) (pt : BitVec 32) (vl : Int) (w0 w : World) (hw : LSt w0 w S K Ac At AM AF nc c1 nt c2 cM cF s) (hs : SlLab w0 At nt things) (hu : u < nc) (ht : t < nt) :
    Calls Try.prog 48 #[.pointer (some ⟨S, 0, none⟩), .agg #[.int .i64 1, .int .i64 u, .int .i64 t, .int .i64 lv, .int .u32 (W pt), .int .i64 vl]] w (RetLow w0 w S K Ac At AM AF nc c1 nt c2 cM cF (lowDo nc nt (lab clear) (lab things) s (1, u, t, lv, pt, vl))) := by
  have HR := Lib.hid (lowRead (clear := lab clear) (things := lab things) (s := s) (x := (lv, pt, vl)) hu ht)
  rw [HR.out]
  have HW := Lib.hid hw
  have hka : Kept w (w.alloc (.cells #[.int .i64 1, .int .i64 u, .int .i64 t, .int .i64 lv, .int .u32 (W pt), .int .i64 vl] 75)) := (Kept.refl _).alloc _
  have hbx := Row.new hw.st.kept0 75 [.int .i64 1, .int .i64 u, .int .i64 t, .int .i64 lv, .int .u32 (W pt), .int .i64 vl] _ rfl
  obtain ⟨w2, hw2⟩ : ∃ w2, w.alloc (.cells #[.int .i64 1, .int .i64 u, .int .i64 t, .int .i64 lv, .int .u32 (W pt), .int .i64 vl] 75) = w2 := ⟨_, rfl⟩
  have HK := Lib.hid (show Kept w w2 from hw2 ▸ hka)
  have DB := Lib.hid (show Row w0 w2 w.heap.size 75 [.int .i64 1, .int .i64 u, .int .i64 t, .int .i64 lv, .int .u32 (W pt), .int .i64 vl] from hw2 ▸ hbx)
  clear hbx hka
  have g1 : decide ((u : Int) < 0) = false := by simp
  have g2 : decide (nc ≤ u) = false := by simp; omega
  have g3 : decide ((t : Int) < 0) = false := by simp
  have g4 : decide (nt ≤ t) = false := by simp; omega
  have d0 := DB.out.cell 0 rfl
  have d1 := DB.out.cell 1 rfl
  have d2 := DB.out.cell 2 rfl
  have s0 := (hw.st.kept HK.out).cell 0 rfl
  have s1 := (hw.st.kept HK.out).cell 1 rfl
  have HRD := Lib.hid (fun w' (k : Kept w w') => read_any S K Ac At AM AF nc c1 nt c2 cM cF s things u t w0 w' (hw.kept k) hs hu ht)
  clear hw hs
  go_enter Try.func48, Try.ntmps48
  go_wp2_with fail
  go_quiet (fail)
  have k3 := (Kept.refl w2).drewN nq
  have DB3 := Lib.hid (DB.out.kept k3)
  have HK3 := Lib.hid (HK.out.trans k3)
  clear d0 d1 d2 s0 s1 hw2 k3
  obtain ⟨w3, hw3⟩ : ∃ w3, w2.drewN nq = w3 := ⟨_, rfl⟩
  rw [hw3] at DB3 HK3 ⊢
  clear hw3
  have d0 := DB3.out.cell 0 rfl
  have d1 := DB3.out.cell 1 rfl
  have d2 := DB3.out.cell 2 rfl
  go_wp2_with fail
  refine (HRD.out _ HK3.out).mono ?_
  rintro e w4 ⟨rfl, hw4, hk4⟩
  have HW4 := Lib.hid hw4
  have HC4 := Lib.hid ((KeepC.of HK3.out).trans hk4 : KeepC w0 w w4)
  clear hw4 hk4 d0 d1 d2
  go_wp2_with fail
  go_ret
  exact ⟨rfl, HW4.out, HC4.out⟩
end
end Go.Proofs.Ytnnddjanbfamkaa
