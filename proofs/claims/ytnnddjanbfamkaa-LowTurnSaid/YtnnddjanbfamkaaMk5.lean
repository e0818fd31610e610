/- The walk of mark.Play's closure: a deed that reads. -/
import Derived.Test.YtnnddjanbfamkaaMk1
import Derived.StillTailTactics
import Derived.BigQuiet
import Derived.Deep.RegionHeld3
namespace Go.Proofs.Ytnnddjanbfamkaa
open Go Go.RowKit
set_option linter.unusedVariables false

set_option maxRecDepth 100000 in
set_option maxHeartbeats 8000000 in
theorem mk_read (Bc Bt O Bk M F K V : Nat) (A1 A2 : Option Addr) (nc c1 nt c2 : Nat) (VC : Value) (s : MSt) (clear things : List Lab) (u t : Nat) (lv : Int) (pt : BitVec 32) (vl : Int) (w0 w : World) (hw : MkSt w0 w Bc Bt O Bk M F K V A1 A2 nc c1 nt c2 VC s) (hc : SlLab w0 A1 nc clear) (hs : SlLab w0 A2 nt things) (hu : u < nc) (ht : t < nt) :
    Calls Try.prog 45 #[.agg #[.int .i64 1, .int .i64 u, .int .i64 t, .int .i64 lv, .int .u32 (W pt), .int .i64 vl], .pointer (some ⟨Bc, 0, none⟩), .pointer (some ⟨Bt, 0, none⟩), .pointer (some ⟨O, 0, none⟩), .pointer (some ⟨Bk, 0, none⟩)] w (RetMk w0 w Bc Bt O Bk M F K V A1 A2 nc c1 nt c2 VC (markDo nc nt (lab clear) (lab things) s (1, u, t, lv, pt, vl))) := by
  have HR := Lib.hid (markRead (clear := lab clear) (things := lab things) (s := s) (x := (lv, pt, vl)) hu ht)
  rw [HR.out]
  have HW := Lib.hid hw
  have hka : Kept w (w.alloc (.cells #[.int .i64 1, .int .i64 u, .int .i64 t, .int .i64 lv, .int .u32 (W pt), .int .i64 vl] 75)) := (Kept.refl _).alloc _
  have hbx := Row.new hw.bc.kept0 75 [.int .i64 1, .int .i64 u, .int .i64 t, .int .i64 lv, .int .u32 (W pt), .int .i64 vl] _ rfl
  obtain ⟨w2, hw2⟩ : ∃ w2, w.alloc (.cells #[.int .i64 1, .int .i64 u, .int .i64 t, .int .i64 lv, .int .u32 (W pt), .int .i64 vl] 75) = w2 := ⟨_, rfl⟩
  have HK := Lib.hid (show Kept w w2 from hw2 ▸ hka)
  have DB := Lib.hid (show Row w0 w2 w.heap.size 75 [.int .i64 1, .int .i64 u, .int .i64 t, .int .i64 lv, .int .u32 (W pt), .int .i64 vl] from hw2 ▸ hbx)
  clear hbx hka
  have g1 : decide ((u : Int) < 0) = false := by simp
  have g2 : decide (nc ≤ u) = false := by simp; omega
  have hu1 : (0 : Int) ≤ (u : Int) := by omega
  have hu2 : (u : Int) < (nc : Int) := by omega
  have d0 := DB.out.cell 0 rfl
  have d1 := DB.out.cell 1 rfl
  have s0 := (hw.bc.kept HK.out).cell 0 rfl
  have g3 : decide ((t : Int) < 0) = false := by simp
  have g4 : decide (nt ≤ t) = false := by simp; omega
  have ht1 : (0 : Int) ≤ (t : Int) := by omega
  have ht2 : (t : Int) < (nt : Int) := by omega
  have d2 := DB.out.cell 2 rfl
  have s1 := (hw.bt.kept HK.out).cell 0 rfl
  obtain ⟨b, off, rfl, hb, ct0, ct1⟩ := hs.lab_get t ht
  have q0 := labsV_at s.marks hu
  obtain ⟨x, hx⟩ : ∃ x, s.marks u = x := ⟨_, rfl⟩
  obtain ⟨y, hy⟩ : ∃ y, lab things t = y := ⟨_, rfl⟩
  rw [hy] at ct0 ct1
  rw [hx] at q0
  obtain ⟨bc, offc, rfl, hbc, cc0, cc1⟩ := hc.lab_get u hu
  obtain ⟨z, hz⟩ : ∃ z, lab clear u = z := ⟨_, rfl⟩
  rw [hz] at cc0 cc1
  obtain ⟨n, hn⟩ : ∃ n, joinL (s.marks u) (lab things t) = n := ⟨_, rfl⟩
  obtain ⟨bb, hbb⟩ : ∃ bb, leB (joinL (s.marks u) (lab things t)) (lab clear u) = bb := ⟨_, rfl⟩
  rw [hbb]
  obtain ⟨r, hr⟩ : ∃ r, (if bb = true then ((0 : Int), (⟨upd s.marks u (joinL (s.marks u) (lab things t)), upd s.knows u (s.knows u ||| s.from_ t), s.from_⟩ : MSt)) else (7, s)) = r := ⟨_, rfl⟩
  rw [hr]
  have HRR := Lib.hid hr
  rw [hn, hz] at hbb
  rw [hn] at HRR
  have HN := Lib.hid (show (max x.1 y.1, x.2 ||| y.2) = n by rw [← hn, hx, hy]; rfl)
  have HA := Lib.hid (fun w' => all_any x.1 y.1 x.2 y.2 w')
  have HL := Lib.hid (fun w' => least_any n.1 z.1 n.2 z.2 w')
  rw [show leB (n.1, n.2) (z.1, z.2) = bb from hbb] at HL
  rw [show max x.1 y.1 = n.1 from congrArg Prod.fst HN.out, show x.2 ||| y.2 = n.2 from congrArg Prod.snd HN.out] at HA
  have CT := Lib.hid (And.intro ct0 ct1)
  have CC := Lib.hid (And.intro cc0 cc1)
  have Q0 := Lib.hid q0
  clear hw hc hs hbb hx hy hr hz hn ct0 ct1 cc0 cc1 q0 hb hbc
  go_enter Try.func45, Try.ntmps45
  go_wp2_with fail
  have DB3 := DB
  have HK3 := HK
  clear d0 d1 d2 s0 s1 hw2
  generalize w.heap.size = D at DB DB3 ⊢
  have HW3 := Lib.hid (HW.out.kept HK3.out)
  have HS3 := Lib.hid (fun w' (kk : Kept w2 w') => show w'.cell? ⟨O, 1, none⟩ = some (.slice (some ⟨M, 0, none⟩) nc nc) ∧ w'.cell? ⟨Bt, 0, none⟩ = some (.slice (some ⟨b, off, none⟩) nt c2) ∧ w'.cell? ⟨D, 1, none⟩ = some (.int .i64 u) ∧ w'.cell? ⟨D, 2, none⟩ = some (.int .i64 t) ∧ w'.cell? ⟨b, off + t * 2, none⟩ = some (.int .i64 y.1) ∧ w'.cell? ⟨b, off + t * 2 + 1, none⟩ = some (.int .u32 (W y.2)) ∧ Kept w2 w' from
    have h := HW3.out.kept kk
    have dd := DB3.out.kept kk
    ⟨h.ot.cell 1 rfl, h.bt.cell 0 rfl, dd.cell 1 rfl, dd.cell 2 rfl, (h.bt.kept0.cell (cell_lt CT.out.1)).trans CT.out.1, (h.bt.kept0.cell (cell_lt CT.out.2)).trans CT.out.2, kk⟩)
  go_region_held3 (fun w' => w'.cell? ⟨O, 1, none⟩ = some (.slice (some ⟨M, 0, none⟩) nc nc) ∧ w'.cell? ⟨Bt, 0, none⟩ = some (.slice (some ⟨b, off, none⟩) nt c2) ∧ w'.cell? ⟨D, 1, none⟩ = some (.int .i64 u) ∧ w'.cell? ⟨D, 2, none⟩ = some (.int .i64 t) ∧ w'.cell? ⟨b, off + t * 2, none⟩ = some (.int .i64 y.1) ∧ w'.cell? ⟨b, off + t * 2 + 1, none⟩ = some (.int .u32 (W y.2)) ∧ Kept w2 w')
    ((refine HS3.out _ ?_; repeat first | exact Kept.refl _ | refine Kept.alloc ?_ _ | refine Kept.drew ?_ | refine Kept.setCell ?_ (by simp) _))
    ((fail))
  rename_i hHeld
  have K4 := Lib.hid hHeld.2.2.2.2.2.2
  clear hHeld
  first
  | (obtain ⟨w4, hw4⟩ : ∃ w4, (w2.alloc (.cells #[.int .i64 y.1, .int .u32 (W y.2)] 24)).drew = w4 := ⟨_, rfl⟩
     rw [hw4] at K4
     rw [hw4]
     have YB := Lib.hid (show Row w0 w4 w2.heap.size 24 [.int .i64 y.1, .int .u32 (W y.2)] from hw4 ▸ (Row.new HW3.out.bc.kept0 24 [.int .i64 y.1, .int .u32 (W y.2)] _ rfl).drew))
  | (obtain ⟨w4, hw4⟩ : ∃ w4, w2.drew.alloc (.cells #[.int .i64 y.1, .int .u32 (W y.2)] 24) = w4 := ⟨_, rfl⟩
     rw [hw4] at K4
     rw [hw4]
     have YB := Lib.hid (show Row w0 w4 w2.heap.size 24 [.int .i64 y.1, .int .u32 (W y.2)] from hw4 ▸ Row.new (HW3.out.bc.kept0.drew) 24 [.int .i64 y.1, .int .u32 (W y.2)] _ rfl))
  clear hw4
  have HLT := Lib.hid (show M < w2.heap.size from HW3.out.mr.lt)
  generalize w2.heap.size = Y at YB HLT ⊢
  have HW4 := Lib.hid (HW3.out.kept K4.out)
  have DB4 := Lib.hid (DB3.out.kept K4.out)
  have KC4 := Lib.hid (KeepC.of (w0 := w0) (HK3.out.trans K4.out))
  have HS4 := Lib.hid (fun w' (kk : Kept w4 w') => show w'.cell? ⟨M, u * 2, none⟩ = some (.int .i64 x.1) ∧ w'.cell? ⟨M, u * 2 + 1, none⟩ = some (.int .u32 (W x.2)) ∧ w'.cell? ⟨Y, 0, none⟩ = some (.int .i64 y.1) ∧ w'.cell? ⟨Y, 1, none⟩ = some (.int .u32 (W y.2)) ∧ Kept w4 w' from
    have h := HW4.out.kept kk
    have yy := YB.out.kept kk
    ⟨h.mr.cell _ Q0.out.1, h.mr.cell _ Q0.out.2, yy.cell 0 rfl, yy.cell 1 rfl, kk⟩)
  have d0 := DB4.out.cell 0 rfl
  go_wp2_with fail
  clear d0
  go_region_held3 (fun w' => w'.cell? ⟨M, u * 2, none⟩ = some (.int .i64 x.1) ∧ w'.cell? ⟨M, u * 2 + 1, none⟩ = some (.int .u32 (W x.2)) ∧ w'.cell? ⟨Y, 0, none⟩ = some (.int .i64 y.1) ∧ w'.cell? ⟨Y, 1, none⟩ = some (.int .u32 (W y.2)) ∧ Kept w4 w')
    ((refine HS4.out _ ?_; repeat first | exact Kept.refl _ | exact K5.out | refine Kept.alloc ?_ _ | refine Kept.drew ?_ | refine Kept.setCell ?_ (by first | exact Nat.le_refl _ | exact K5.out.size) _))
    ((go_at_call 42
      refine (HA.out _).mono ?_
      rintro e w5 ⟨rfl, k5⟩
      have K5 := Lib.hid (Kept.trans (show Kept w4 _ by repeat first | exact Kept.refl _ | refine Kept.alloc ?_ _ | refine Kept.drew ?_) k5)
      try (have bxs := (Row.new HW4.out.bc.kept0 24 [.int .i64 0, .int .u32 0] _ rfl).kept (Kept.trans (Kept.drew (Kept.refl (w4.alloc (.cells #[.int .i64 0, .int .u32 0] 24)))) k5)
           have bc0 := bxs.cell 0 rfl
           have bc1 := bxs.cell 1 rfl
           have bf0 := bxs.free 0
           have bf1 := bxs.free 1
           have BXR := Lib.hid bxs
           clear bxs)
      clear k5))
  all_goals
   rename_i hHeld
   have K6 := Lib.hid hHeld.2.2.2.2
   clear hHeld
   try clear bc0 bc1 bf0 bf1
   first
   | (obtain ⟨w6, hw6⟩ : ∃ w6, (w5.setCell ⟨w4.heap.size, 0, none⟩ (.int .i64 n.1)).setCell ⟨w4.heap.size, 1, none⟩ (.int .u32 (W n.2)) = w6 := ⟨_, rfl⟩
      rw [hw6] at K6
      rw [hw6]
      have NB := Lib.hid (show Row w0 w6 w4.heap.size 24 [.int .i64 n.1, .int .u32 (W n.2)] from hw6 ▸ (BXR.out.set 0 (.int .i64 n.1)).set 1 (.int .u32 (W n.2)))
      clear hw6 BXR
      generalize w4.heap.size = NX at NB ⊢)
   | (obtain ⟨w6, hw6⟩ : ∃ w6, ((w5.setCell ⟨w4.heap.size, 0, none⟩ (.int .i64 n.1)).setCell ⟨w4.heap.size, 1, none⟩ (.int .u32 (W n.2))).drew = w6 := ⟨_, rfl⟩
      rw [hw6] at K6
      rw [hw6]
      have NB := Lib.hid (show Row w0 w6 w4.heap.size 24 [.int .i64 n.1, .int .u32 (W n.2)] from hw6 ▸ ((BXR.out.set 0 (.int .i64 n.1)).set 1 (.int .u32 (W n.2))).drew)
      clear hw6 BXR
      generalize w4.heap.size = NX at NB ⊢)
   | (obtain ⟨w6, hw6⟩ : ∃ w6, (w5.alloc (.cells #[.int .i64 n.1, .int .u32 (W n.2)] 24)).drew = w6 := ⟨_, rfl⟩
      rw [hw6] at K6
      rw [hw6]
      have NB := Lib.hid (show Row w0 w6 w5.heap.size 24 [.int .i64 n.1, .int .u32 (W n.2)] from hw6 ▸ (Row.new (HW4.out.bc.kept0.trans K5.out) 24 [.int .i64 n.1, .int .u32 (W n.2)] _ rfl).drew)
      clear hw6
      generalize w5.heap.size = NX at NB ⊢)
   | (obtain ⟨w6, hw6⟩ : ∃ w6, w5.alloc (.cells #[.int .i64 n.1, .int .u32 (W n.2)] 24) = w6 := ⟨_, rfl⟩
      rw [hw6] at K6
      rw [hw6]
      have NB := Lib.hid (show Row w0 w6 w5.heap.size 24 [.int .i64 n.1, .int .u32 (W n.2)] from hw6 ▸ Row.new (HW4.out.bc.kept0.trans K5.out) 24 [.int .i64 n.1, .int .u32 (W n.2)] _ rfl)
      clear hw6
      generalize w5.heap.size = NX at NB ⊢)
   have HW6 := Lib.hid (HW4.out.kept K6.out)
   have DB6 := Lib.hid (DB4.out.kept K6.out)
   have KC6 := Lib.hid (KC4.out.trans (KeepC.of K6.out) : KeepC w0 w w6)
   have b0 := NB.out.cell 0 rfl
   have b1 := NB.out.cell 1 rfl
   have d1 := DB6.out.cell 1 rfl
   have p0 := HW6.out.bc.cell 0 rfl
   have v0 := (HW6.out.bc.kept0.cell (cell_lt CC.out.1)).trans CC.out.1
   have v1 := (HW6.out.bc.kept0.cell (cell_lt CC.out.2)).trans CC.out.2
   have z1 := kw_cell b0
   have z2 := kw_cell b1
   have z3 := kw_cell d1
   have z4 := kw_cell p0
   have z5 := kw_cell v0
   have z6 := kw_cell v1
   go_wp2_with fail
   refine wp_region_kept (by kernel_rfl) (by kernel_rfl) ?_
   repeat (go_big_quiet_step ((go_at_call 43; exact kept_of (HL.out _))))
   refine wpQuiet_nil ?_
   intro w7 k7
   have HW7 := Lib.hid (HW6.out.kept k7)
   have DB7 := Lib.hid (DB6.out.kept k7)
   have NB7 := Lib.hid (NB.out.kept k7)
   have KC7 := Lib.hid (KC6.out.trans (KeepC.of k7) : KeepC w0 w w7)
   clear b0 b1 d1 p0 v0 v1 z1 z2 z3 z4 z5 z6 k7
   cases bb
   · obtain rfl : (7, s) = r := HRR.out
     go_wp2_with fail
     go_ret
     exact ⟨rfl, HW7.out, KC7.out⟩
   · obtain rfl : ((0 : Int), (⟨upd s.marks u n, upd s.knows u (s.knows u ||| s.from_ t), s.from_⟩ : MSt)) = r := HRR.out
     have b0 := NB7.out.cell 0 rfl
     have b1 := NB7.out.cell 1 rfl
     have m0 := HW7.out.mr.cell _ Q0.out.1
     have m1 := HW7.out.mr.cell _ Q0.out.2
     have f0 := HW7.out.mr.free (u * 2)
     have f1 := HW7.out.mr.free (u * 2 + 1)
     go_wp2_with fail
     obtain ⟨w8, hw8⟩ : ∃ w8, (w7.setCell ⟨M, u * 2, none⟩ (.int .i64 n.1)).setCell ⟨M, u * 2 + 1, none⟩ (.int .u32 (W n.2)) = w8 := ⟨_, rfl⟩
     rw [hw8]
     have HW8 := Lib.hid (hw8 ▸ HW7.out.setM u n)
     have KC8 := Lib.hid (KC7.out.trans (hw8 ▸ HW7.out.setM_keep u n) : KeepC w0 w w8)
     have DB8 := Lib.hid (show Row w0 w8 D 75 _ from hw8 ▸ (DB7.out.other (p := ⟨M, u * 2, none⟩) (.int .i64 n.1) (row_neL DB7.out HW7.out.mr (by decide)) HW7.out.mr.2.1).other (p := ⟨M, u * 2 + 1, none⟩) (.int .u32 (W n.2)) (row_neL DB7.out HW7.out.mr (by decide)) HW7.out.mr.2.1)
     clear hw8 b0 b1 m0 m1 f0 f1
     have d1 := DB8.out.cell 1 rfl
     have d2 := DB8.out.cell 2 rfl
     have o2 := HW8.out.ot.cell 2 rfl
     have k0 := HW8.out.bk.cell 0 rfl
     have r0 := HW8.out.kn.cell u (rowsV_at s.knows hu)
     have rf := HW8.out.kn.free u
     have r1 := HW8.out.fr.cell t (rowsV_at s.from_ ht)
     go_wp2_with fail
     go_still_tail 13, (by kernel_rfl)
     go_wp2_with fail
     go_ret
     exact ⟨rfl, (HW8.out.setK u _).kept (Kept.refl _).drew, (KC8.out.trans (KeepC.setRow HW8.out.kn (by decide) u _)).trans (KeepC.of (Kept.refl _).drew)⟩
end Go.Proofs.Ytnnddjanbfamkaa
