/- The walk of pen.put where nothing is put. -/
import Derived.Test.YtjcooagchjjknaaInsL
import Derived.Test.YtjcooagchjjknaaPenP
import Derived.Test.YtjcooagchjjknaaQuiet
import Derived.Deep.RegionHeld3
namespace Go.Proofs.Ytjcooagchjjknaa
open Go Go.RowKit Go.Lib
set_option linter.unusedVariables false

/-- a slice of leaves and a code -/
def RetPen (w : World) (r : Int × List Lf) (e : Ending) (w' : World) : Prop := ∃ A c, e = .returned (.tuple #[.slice A r.2.length c, .int .i64 r.1]) ∧ SlL w' A r.2.length r.2 ∧ Kept w w'
theorem RetPen.no {w w' : World} (code : Int) (k : Kept w w') : RetPen w (code, []) (.returned (.tuple #[.slice none 0 0, .int .i64 code])) w' := ⟨none, 0, rfl, SlL.nil_ _ _, k⟩
/-- the same, with the slice in a block of the call's own -/
def RetPenO (w : World) (r : Int × List Lf) (e : Ending) (w' : World) : Prop := ∃ A c, e = .returned (.tuple #[.slice A r.2.length c, .int .i64 r.1]) ∧ Own w w' 38 4 (.slice A r.2.length c) r.2.length (lfCells r.2)
theorem RetPenO.no {w w' : World} (code : Int) (k : Kept w w') : RetPenO w (code, []) (.returned (.tuple #[.slice none 0 0, .int .i64 code])) w' := ⟨none, 0, rfl, Own.start k⟩
theorem RetPenO.weak {w w' : World} {r : Int × List Lf} {e : Ending} (h : RetPenO w r e w') : RetPen w r e w' := by
  obtain ⟨A, c, h1, h2⟩ := h
  exact ⟨A, c, h1, ⟨Sl.of_own h2.1, rfl⟩, h2.2⟩
/-- the cells of a stroke -/
def skC (kind lv : Int) (pt : BitVec 32) (A2 : Option Addr) (m c2 : Nat) (tx : Int) : Array Value := #[.int .i64 kind, .int .i64 lv, .int .u32 (W pt), .slice A2 m c2, .int .i64 tx]
theorem dropLast_take (ps : List Int) : ps.take (ps.length - 1) = ps.dropLast := by rw [List.dropLast_eq_take]
theorem putX_nil (A : Option Addr) (n c : Nat) (ls : List Lf) (kind lv : Int) (pt : BitVec 32) (A2 : Option Addr) (c2 : Nat) (tx : Int) (w : World) :
    Calls Try.prog 43 #[.slice A n c, .agg (skC kind lv pt A2 0 c2 tx)] w (RetPenO w (putF ls (lv, pt) [] tx)) := by
  have hka : Kept w (w.alloc (.cells #[.int .i64 kind, .int .i64 lv, .int .u32 (W pt), .slice A2 0 c2, .int .i64 tx] 48)) := (Kept.refl _).alloc _
  have bx := Box.new w #[.int .i64 kind, .int .i64 lv, .int .u32 (W pt), .slice A2 0 c2, .int .i64 tx] 48 w.heap.size rfl
  have e3 := bx.at_ 3 rfl
  have FIN := Lib.hid (RetPenO.no 5 hka)
  unfold skC
  go_enter Try.func43, Try.ntmps43
  go_wp2_with fail
  go_ret2
  exact FIN.out
set_option maxHeartbeats 4000000 in
theorem putX_none (A : Option Addr) (n c : Nat) (ls : List Lf) (kind lv : Int) (pt : BitVec 32) (A2 : Option Addr) (m c2 : Nat) (ps : List Int) (tx : Int) (w : World) (hs : SlL w A n ls) (hp : SlI w A2 m ps) (hn : n ≤ 1000) (hm : m ≤ maxLen) (hmc : m ≤ c2) (hm0 : 0 < m)
    (hg : goF ls (lv, pt) (-1) ps.dropLast = none) :
    Calls Try.prog 43 #[.slice A n c, .agg (skC kind lv pt A2 m c2 tx)] w (RetPenO w (putF ls (lv, pt) ps tx)) := by
  have HF := Lib.hid (show putF ls (lv, pt) ps tx = (5, []) by
    unfold putF
    rw [if_neg (fun h => by rw [h] at hp; have := hp.2; simp at this; omega), hg])
  have hka : Kept w (w.alloc (.cells #[.int .i64 kind, .int .i64 lv, .int .u32 (W pt), .slice A2 m c2, .int .i64 tx] 48)) := (Kept.refl _).alloc _
  have bx := Box.new w #[.int .i64 kind, .int .i64 lv, .int .u32 (W pt), .slice A2 m c2, .int .i64 tx] 48 w.heap.size rfl
  have e1 := bx.at_ 1 rfl
  have e2 := bx.at_ 2 rfl
  have e3 := bx.at_ 3 rfl
  have e4 := bx.at_ 4 rfl
  have z1 := kw_cell e1
  have z2 := kw_cell e2
  have z3 := kw_cell e3
  obtain ⟨mm, rfl⟩ : ∃ mm, m = mm + 1 := ⟨m - 1, by omega⟩
  have hp2 : SlI w A2 mm ps.dropLast := by
    have h := hp.take (i := mm) (by omega)
    have e : ps.take mm = ps.dropLast := by rw [← dropLast_take, hp.2]; rfl
    rwa [e] at h
  obtain ⟨b, off, hlk, rfl, hb, ck⟩ := hp.get mm (by omega)
  have HG := Lib.hid hg
  unfold maxLen at hm
  have HS := Lib.hid (fun x : KW (w.alloc (.cells #[.int .i64 kind, .int .i64 lv, .int .u32 (W pt), .slice (some ⟨b, off, none⟩) (mm + 1) c2, .int .i64 tx] 48)) => hs.kept (hka.trans x.kept))
  have HP := Lib.hid (fun x : KW (w.alloc (.cells #[.int .i64 kind, .int .i64 lv, .int .u32 (W pt), .slice (some ⟨b, off, none⟩) (mm + 1) c2, .int .i64 tx] 48)) => hp2.kept (hka.trans x.kept))
  have i1 : (0 : Int) ≤ (mm : Int) := by omega
  have i2 : (mm : Int) ≤ (c2 : Int) := by omega
  have i4 : ((mm + 1 : Nat) : Int) - 1 = (mm : Int) := by omega
  have i5 : IntKind.i64.wrap (mm : Int) = (mm : Int) := by rw [IntKind.wrap_i64]; omega
  have i3 : (((mm + 1 : Nat) : Int) == 0) = false := by simp; omega
  clear hg hp hp2 hs e4
  unfold skC
  go_enter Try.func43, Try.ntmps43
  go_wp2_with fail
  refine wp_region_kept (by kernel_rfl) (by kernel_rfl) ?_
  repeat (go_big_quiet_step ((go_at_call 38; exact kept_of (go_none HG.out (HS.out _) (HP.out _) hn (by unfold maxLen; omega)))))
  refine wpQuiet_nil ?_
  intro w2 k2
  have FIN := Lib.hid (RetPenO.no 5 (hka.trans k2))
  go_wp2_with fail
  go_ret2
  rw [HF.out]
  exact FIN.out
set_option maxHeartbeats 8000000 in
theorem putX_bad (A : Option Addr) (n c : Nat) (ls : List Lf) (kind lv : Int) (pt : BitVec 32) (A2 : Option Addr) (m c2 : Nat) (ps : List Int) (tx : Int) (w : World) (hs : SlL w A n ls) (hp : SlI w A2 m ps) (hn : n ≤ 1000) (hm : m ≤ maxLen) (hmc : m ≤ c2) (hm0 : 0 < m) {bb : Int}
    (hg : goF ls (lv, pt) (-1) ps.dropLast = some bb) (kx : Int) (hk : ps.getD (ps.length - 1) 0 = kx) (hbad : kx < 0 ∨ ((belowL ls (lv, pt) bb).length : Int) < kx) :
    Calls Try.prog 43 #[.slice A n c, .agg (skC kind lv pt A2 m c2 tx)] w (RetPenO w (putF ls (lv, pt) ps tx)) := by
  have HF := Lib.hid (show putF ls (lv, pt) ps tx = (5, []) by
    unfold putF
    rw [if_neg (fun h => by rw [h] at hp; have := hp.2; simp at this; omega), hg]
    show putK _ _ _ _ _ = _
    unfold putK
    rw [hk, if_pos hbad])
  have hka : Kept w (w.alloc (.cells #[.int .i64 kind, .int .i64 lv, .int .u32 (W pt), .slice A2 m c2, .int .i64 tx] 48)) := (Kept.refl _).alloc _
  have bx := Box.new w #[.int .i64 kind, .int .i64 lv, .int .u32 (W pt), .slice A2 m c2, .int .i64 tx] 48 w.heap.size rfl
  have e1 := bx.at_ 1 rfl
  have e2 := bx.at_ 2 rfl
  have e3 := bx.at_ 3 rfl
  have e4 := bx.at_ 4 rfl
  have z1 := kw_cell e1
  have z2 := kw_cell e2
  have z3 := kw_cell e3
  obtain ⟨mm, rfl⟩ : ∃ mm, m = mm + 1 := ⟨m - 1, by omega⟩
  have hp2 : SlI w A2 mm ps.dropLast := by
    have h := hp.take (i := mm) (by omega)
    have e : ps.take mm = ps.dropLast := by rw [← dropLast_take, hp.2]; rfl
    rwa [e] at h
  obtain ⟨b, off, hlk, rfl, hb, ck⟩ := hp.get mm (by omega)
  have HG := Lib.hid hg
  unfold maxLen at hm
  have HS := Lib.hid (fun x : KW (w.alloc (.cells #[.int .i64 kind, .int .i64 lv, .int .u32 (W pt), .slice (some ⟨b, off, none⟩) (mm + 1) c2, .int .i64 tx] 48)) => hs.kept (hka.trans x.kept))
  have HP := Lib.hid (fun x : KW (w.alloc (.cells #[.int .i64 kind, .int .i64 lv, .int .u32 (W pt), .slice (some ⟨b, off, none⟩) (mm + 1) c2, .int .i64 tx] 48)) => hp2.kept (hka.trans x.kept))
  have i1 : (0 : Int) ≤ (mm : Int) := by omega
  have i2 : (mm : Int) ≤ (c2 : Int) := by omega
  have i4 : ((mm + 1 : Nat) : Int) - 1 = (mm : Int) := by omega
  have i5 : IntKind.i64.wrap (mm : Int) = (mm : Int) := by rw [IntKind.wrap_i64]; omega
  have i6 : (mm : Int) < (mm : Int) + 1 := by omega
  have i3 : (((mm + 1 : Nat) : Int) == 0) = false := by simp; omega
  have HPK := Lib.hid (show ps[mm] = kx by rw [← hk, show ps.length - 1 = mm by rw [hp.2]; rfl, List.getD_eq_getElem?_getD, List.getElem?_eq_getElem hlk]; rfl)
  unfold skC
  go_enter Try.func43, Try.ntmps43
  go_wp2_with fail
  refine wp_region_kept (by kernel_rfl) (by kernel_rfl) ?_
  repeat (go_big_quiet_step ((go_at_call 38; exact kept_of (go_some HG.out (HS.out _) (HP.out _) hn (by unfold maxLen; omega)))))
  refine wpQuiet_nil ?_
  intro w2 k2
  have q2 := hka.trans k2
  have d1 := (k2.cell (cell_lt e1)).trans e1
  have d2 := (k2.cell (cell_lt e2)).trans e2
  have d3 := (k2.cell (cell_lt e3)).trans e3
  have d4 := (k2.cell (cell_lt e4)).trans e4
  have dk := (q2.cell (cell_lt ck)).trans ck
  have hs2 := Lib.hid (hs.kept q2)
  have Q2 := Lib.hid q2
  have hd1 : (#[Value.int .i64 kind, .int .i64 lv, .int .u32 (W pt), .slice (some ⟨b, off, none⟩) (mm + 1) c2, .int .i64 tx] : Array Value)[1] = .int .i64 lv := rfl
  have hd2 : (#[Value.int .i64 kind, .int .i64 lv, .int .u32 (W pt), .slice (some ⟨b, off, none⟩) (mm + 1) c2, .int .i64 tx] : Array Value)[2] = .int .u32 (W pt) := rfl
  have hd3 : (#[Value.int .i64 kind, .int .i64 lv, .int .u32 (W pt), .slice (some ⟨b, off, none⟩) (mm + 1) c2, .int .i64 tx] : Array Value)[3] = .slice (some ⟨b, off, none⟩) (mm + 1) c2 := rfl
  have hd4 : (#[Value.int .i64 kind, .int .i64 lv, .int .u32 (W pt), .slice (some ⟨b, off, none⟩) (mm + 1) c2, .int .i64 tx] : Array Value)[4] = .int .i64 tx := rfl
  rw [hd1] at d1
  rw [hd2] at d2
  rw [hd3] at d3
  rw [hd4] at d4
  clear hd1 hd2 hd3 hd4 e1 e2 e3 e4 z1 z2 z3 hs hp hp2 hka bx k2 q2 HS HP hg ck
  rw [HPK.out] at dk
  generalize ps[mm] = kk at HPK dk
  generalize w.heap.size = B at d1 d2 d3 d4 ⊢
  have HSW := Lib.hid (fun w' (k : Kept w2 w') => show w'.cell? ⟨B, 1, none⟩ = some (.int .i64 lv) ∧ w'.cell? ⟨B, 2, none⟩ = some (.int .u32 (W pt)) ∧ w'.cell? ⟨B, 3, none⟩ = some (.slice (some ⟨b, off, none⟩) (mm + 1) c2) ∧ w'.cell? ⟨b, off + mm, none⟩ = some (.int .i64 kx) ∧ Kept w2 w' from
    ⟨(k.cell (cell_lt d1)).trans d1, (k.cell (cell_lt d2)).trans d2, (k.cell (cell_lt d3)).trans d3, (k.cell (cell_lt dk)).trans dk, k⟩)
  go_wp2_with fail
  go_region_held3 (fun w' => w'.cell? ⟨B, 1, none⟩ = some (.int .i64 lv) ∧ w'.cell? ⟨B, 2, none⟩ = some (.int .u32 (W pt)) ∧ w'.cell? ⟨B, 3, none⟩ = some (.slice (some ⟨b, off, none⟩) (mm + 1) c2) ∧ w'.cell? ⟨b, off + mm, none⟩ = some (.int .i64 kx) ∧ Kept w2 w')
    ((refine HSW.out _ ?_; repeat first | exact Kept.refl _ | exact K4.out | refine Kept.alloc ?_ _ | refine Kept.drew ?_))
    ((go_at_call 40
      refine (below_any A n c ls lv pt bb _ (hs2.out.kept (by repeat first | exact Kept.refl _ | refine Kept.alloc ?_ _ | refine Kept.drew ?_)) hn).mono ?_
      rintro e w4 ⟨A4, c4, rfl, h4, k4⟩
      have K4 := Lib.hid (Kept.trans (show Kept w2 _ by repeat first | exact Kept.refl _ | refine Kept.alloc ?_ _ | refine Kept.drew ?_) k4)
      have H4 := Lib.hid h4
      clear h4 k4))
  all_goals
    rename_i hHeld
    obtain ⟨g1, g2, g3, _, _⟩ := hHeld
    have hs4 := hs2.out.kept K4.out
    have q4 := Q2.out.trans K4.out
    have FIN := Lib.hid (RetPenO.no 5 q4)
    generalize (belowL ls (lv, pt) bb).length = len at *
    by_cases hneg : kx < 0
    · have t1 : decide (kx < 0) = true := by simpa using hneg
      clear d1 d2 d3 d4 dk HSW
      go_wp2_with fail
      go_ret2
      rw [HF.out]
      exact FIN.out
    · have t1 : decide (kx < 0) = false := by simpa using hneg
      have t2 : decide ((len : Int) < kx) = true := by simp; omega
      clear d1 d2 d3 d4 dk HSW
      go_wp2_with fail
      go_ret2
      rw [HF.out]
      exact FIN.out
end Go.Proofs.Ytjcooagchjjknaa
