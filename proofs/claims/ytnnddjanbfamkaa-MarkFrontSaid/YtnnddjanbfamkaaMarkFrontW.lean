/- MarkFront: the walk of the statement. -/
import Derived.Test.YtnnddjanbfamkaaMk8
import Derived.Test.YtnnddjanbfamkaaCodes
import Derived.Test.YtnnddjanbfamkaaCloneL
import Derived.BigQuiet
namespace Go.Proofs.Ytnnddjanbfamkaa.markFrontDone
open Go Go.RowKit Go.ChangeShapes Go.WideShapes Go.Deep
set_option linter.unusedVariables false

theorem open_deedsC {H : Type} {enc : TypeId × Value → H} {P : Program} {w : World} {base : Nat} {spare : Nat → Bool} {held : Bool} {t e : TypeId} {f0 f1 f2 f3 f4 g0 g1 : Field} {fuel : Nat} {A : Option Addr} {n c : Nat} {x : DataW H × List MemPlace} (ht : P.underlying t = some (.slice e)) (he : P.underlying e = some (.struct #[f0, f1, f2, f3, f4])) (hg : P.underlying f3.type = some (.struct #[g0, g1]))
    (hc : P.cellsOf e = 6) (o0 : f0.offset = 0) (o1 : f1.offset = 1) (o2 : f2.offset = 2) (o3 : f3.offset = 3) (o4 : f4.offset = 5) (k0 : P.cellsOf f0.type = 1) (k1 : P.cellsOf f1.type = 1) (k2 : P.cellsOf f2.type = 1) (k3 : P.cellsOf f3.type = 2) (k4 : P.cellsOf f4.type = 1) (hone : oneCellFields P #[g0, g1] = true)
    (u0 : P.underlying f0.type = some (.int .i64)) (u1 : P.underlying f1.type = some (.int .i64)) (u2 : P.underlying f2.type = some (.int .i64)) (u4 : P.underlying f4.type = some (.int .i64)) (v0 : P.underlying g0.type = some (.int .i64)) (v1 : P.underlying g1.type = some (.int .u32))
    (h : DataW.trod enc P w base spare held fuel t [.slice A n c] = some x) : (n ≤ maxLen ∧ n ≤ c) ∧ ∃ ls, SlD w A n ls := by
  obtain ⟨h1, h2⟩ := open_deeds ht he hg hc o0 o1 o2 o3 o4 k0 k1 k2 k3 k4 hone u0 u1 u2 u4 v0 v1 h
  refine ⟨⟨h1, ?_⟩, h2⟩
  rcases open_slice ht h with ⟨h0, _⟩ | ⟨a, len, cap, m, k, D, Pl, hcs, hb, hl, _⟩
  · simp at h0
    obtain ⟨rfl, rfl, rfl⟩ := h0
    exact Nat.le_refl _
  · simp at hcs
    obtain ⟨rfl, rfl, rfl⟩ := hcs
    exact hl
theorem deCells_take (ds : List De) (i : Nat) : (deCells ds).take (i * 6) = deCells (ds.take i) := by
  induction ds generalizing i with
  | nil => simp [deCells]
  | cons d ds ih =>
    cases i with
    | zero => simp [deCells]
    | succ i =>
      have e : deCells (d :: ds) = dev d ++ deCells ds := by unfold deCells; rw [List.flatMap_cons]
      have e2 : deCells ((d :: ds).take (i + 1)) = dev d ++ deCells (ds.take i) := by unfold deCells; rw [List.take_succ_cons, List.flatMap_cons]
      have hl : (dev d).length = 6 := rfl
      rw [e, e2, ← ih i, show (i + 1) * 6 = (dev d).length + i * 6 by rw [hl]; omega, List.take_length_add_append]
theorem take_deeds {w : World} {A : Option Addr} {n : Nat} {ds : List De} (h : SlD w A n ds) {i : Nat} (hi : i ≤ n) : SlD w A i (ds.take i) :=
  ⟨by have := h.1.take hi; rwa [deCells_take] at this, by rw [List.length_take, h.2]; omega⟩
theorem marksF_le {clear things : List Lab} {k i : Nat} (hi : i ≤ k) (h : marksF clear things k = 0) : marksF clear things i = 0 := by
  unfold marksF at h ⊢
  split at h
  · cases h
  · rw [if_neg (by omega)]
    exact h
theorem marksF_zero {clear things : List Lab} {k : Nat} (h : marksF clear things k = 0) : 1 ≤ clear.length ∧ clear.length ≤ 5 ∧ things.length ≤ 8 ∧ k ≤ 30 := by
  unfold marksF at h
  split at h
  · cases h
  · omega
theorem mplay_any (A1 : Option Addr) (nc c1 : Nat) (clear : List Lab) (A2 : Option Addr) (nt c2 : Nat) (things : List Lab) (A3 : Option Addr) (nd c3 : Nat) (ds : List De) (w : World) (s1 : SlLab w A1 nc clear) (s2 : SlLab w A2 nt things) (hd : SlD w A3 nd ds) :
    Calls Try.prog 19 #[.slice A1 nc c1, .slice A2 nt c2, .slice A3 nd c3] w fun e w' => Kept w w' ∧ ∃ (A B C : Option Addr) (na nb m ca cb cc : Nat) (code : Int), e = .returned (.tuple #[.agg #[.slice A na ca, .slice B nb cb, .slice C m cc], .int .i64 code]) := by
  by_cases h : marksF clear things nd = 0
  · obtain ⟨q1, q2, q3, q4⟩ := marksF_zero h
    refine (mplay_good A1 nc c1 clear A2 nt c2 things A3 nd c3 ds w s1 s2 hd h (by rw [← s1.2]; exact q1) (by rw [← s1.2]; exact q2) (by rw [← s2.2]; exact q3) q4).mono ?_
    rintro e w' ⟨k, AC, AM, AF, cC, cM, cF, rfl, _⟩
    exact ⟨k, _, _, _, _, _, _, _, _, _, _, rfl⟩
  · refine (mplay_bad A1 nc c1 clear A2 nt c2 things A3 nd c3 w s1 s2 h).mono ?_
    rintro e w' ⟨k, code, _, rfl⟩
    exact ⟨k, _, _, _, _, _, _, _, _, _, _, rfl⟩
theorem bad (A1 : Option Addr) (nc c1 : Nat) (clear : List Lab) (A2 : Option Addr) (nt c2 : Nat) (things : List Lab) (A3 : Option Addr) (nd c3 : Nat) (ds : List De) (k : Int) (w : World) (s1 : SlLab w A1 nc clear) (s2 : SlLab w A2 nt things) (hcap : nd ≤ c3) (hd : SlD w A3 nd ds) (hk0 : 0 ≤ k) (hk1 : k ≤ 255) (hnd : (nd : Int) + 1 ≤ 9223372036854775807) (h : marksF clear things nd ≠ 0) :
    Calls Try.prog 6 #[.slice A1 nc c1, .slice A2 nt c2, .slice A3 nd c3, .int .u8 k] w fun e w' => e = .returned (.bool true) ∧ Kept w w' := by
  obtain ⟨i, hi, hin⟩ : ∃ i : Nat, k % ((nd : Int) + 1) = i ∧ i ≤ nd := by
    have p0 : (0 : Int) ≤ k % ((nd : Int) + 1) := Int.emod_nonneg _ (by omega)
    have p1 : k % ((nd : Int) + 1) < (nd : Int) + 1 := Int.emod_lt_of_pos _ (by omega)
    exact ⟨(k % ((nd : Int) + 1)).toNat, by omega, by omega⟩
  have HP := Lib.hid (mplay_bad A1 nc c1 clear A2 nt c2 things A3 nd c3 w s1 s2 h)
  have HP2 := Lib.hid (fun w' (k : Kept w w') => mplay_any A1 nc c1 clear A2 nt c2 things A3 i c3 (ds.take i) w' (s1.kept k) (s2.kept k) (take_deeds (hd.kept k) hin))
  have HK := Lib.hid (fun w' (k : Kept w w') => marked_any A1 nc c1 clear A2 nt c2 things nd w' (s1.kept k) (s2.kept k))
  have h1 : (marksF clear things nd == 0) = false := by simpa using h
  rw [h1] at HK
  have hi3 : (i : Int) ≤ (c3 : Int) := by omega
  have hi0 : (0 : Int) ≤ (i : Int) := by omega
  clear h h1
  go_enter Try.func6, Try.ntmps6
  go_wp2_with fail
  refine HP.out.mono ?_
  rintro e w1 ⟨k1, code, hcode, rfl⟩
  have hc2 : (code != 0) = true := by simpa using hcode
  have k2 := k1.alloc (.cells #[.slice none 0 0, .slice none 0 0, .slice none 0 0] 41)
  go_wp2_with fail
  refine (HP2.out _ k2).mono ?_
  rintro e w2 ⟨k3, VA, VB, VC, na, nb, m, ca, cb, cc, code2, rfl⟩
  have k4 := k3.alloc (.cells #[.slice VA na ca, .slice VB nb cb, .slice VC m cc] 41)
  have K4 := Lib.hid (k2.trans k4)
  clear k1 k2 k3 k4
  go_wp2_with fail
  refine (HK.out _ K4.out).mono ?_
  rintro e w3 ⟨rfl, k5⟩
  go_wp2_with fail
  go_ret
  exact ⟨rfl, K4.out.trans k5⟩
theorem in_is (x y : BitVec 32) (h : subB x y = true) (w : World) : Calls Try.prog 25 #[.int .u32 (W x), .int .u32 (W y)] w fun e w' => e = .returned (.bool true) ∧ w = w' := by
  have := belowIn_any x y w
  rw [h] at this
  exact this
set_option maxRecDepth 100000 in
set_option maxHeartbeats 16000000 in
theorem good (A1 : Option Addr) (nc c1 : Nat) (clear : List Lab) (A2 : Option Addr) (nt c2 : Nat) (things : List Lab) (A3 : Option Addr) (nd c3 : Nat) (ds : List De) (k : Int) (w : World) (s1 : SlLab w A1 nc clear) (s2 : SlLab w A2 nt things) (hcap : nd ≤ c3) (hd : SlD w A3 nd ds) (hk0 : 0 ≤ k) (hk1 : k ≤ 255) (h0 : marksF clear things nd = 0) :
    Calls Try.prog 6 #[.slice A1 nc c1, .slice A2 nt c2, .slice A3 nd c3, .int .u8 k] w fun e w' => e = .returned (.bool true) ∧ Kept w w' := by
  obtain ⟨hn1, hn5, hn8, hn30⟩ := marksF_zero h0
  rw [s1.2] at hn1 hn5
  rw [s2.2] at hn8
  obtain ⟨i, hi, hin⟩ : ∃ i : Nat, k % ((nd : Int) + 1) = i ∧ i ≤ nd := by
    have p0 : (0 : Int) ≤ k % ((nd : Int) + 1) := Int.emod_nonneg _ (by omega)
    have p1 : k % ((nd : Int) + 1) < (nd : Int) + 1 := Int.emod_lt_of_pos _ (by omega)
    exact ⟨(k % ((nd : Int) + 1)).toNat, by omega, by omega⟩
  have HP := Lib.hid (mplay_goodC A1 nc c1 clear A2 nt c2 things A3 nd c3 ds w s1 s2 hd h0 hn1 hn5 hn8 hn30)
  have HP2 := Lib.hid (fun w' (k : Kept w w') => mplay_good A1 nc c1 clear A2 nt c2 things A3 i c3 (ds.take i) w' (s1.kept k) (s2.kept k) (take_deeds (hd.kept k) hin) (marksF_le hin h0) hn1 hn5 hn8 (by omega))
  have hsplit : ds.take i ++ ds.drop i = ds := List.take_append_drop i ds
  have hlen : (codesOf (markDo nc nt (lab clear) (lab things)) mark0 (ds.take i)).length = i := by rw [codesOf_length, List.length_take, hd.2]; omega
  have HCD : codesOf (markDo nc nt (lab clear) (lab things)) mark0 (ds.take i) = (codesOf (markDo nc nt (lab clear) (lab things)) mark0 ds).take i := by
    conv => rhs; rw [← hsplit, codesOf_append]
    rw [List.take_left' hlen]
  have HSUB := Lib.hid (show ∀ t, subB ((stOf (markDo nc nt (lab clear) (lab things)) mark0 (ds.take i)).from_ t) ((stOf (markDo nc nt (lab clear) (lab things)) mark0 ds).from_ t) = true by
    intro t
    conv => lhs; rhs; rw [← hsplit, stOf_append]
    exact from_grows_all t _ _)
  rw [HCD] at HP2
  have hi3 : (i : Int) ≤ (c3 : Int) := by omega
  have hi0 : (0 : Int) ≤ (i : Int) := by omega
  generalize codesOf (markDo nc nt (lab clear) (lab things)) mark0 ds = cl at HP HP2
  generalize stOf (markDo nc nt (lab clear) (lab things)) mark0 (ds.take i) = sp at HSUB HP2
  generalize stOf (markDo nc nt (lab clear) (lab things)) mark0 ds = sl at HSUB HP
  clear hsplit hlen HCD h0
  have n0 : ((nd : Int) != (nd : Int)) = false := by simp
  have n2 : ((nt : Int) != (nt : Int)) = false := by simp
  have hnd : (nd : Int) + 1 ≤ 9223372036854775807 := by omega
  go_enter Try.func6, Try.ntmps6
  go_wp2_with fail
  refine HP.out.mono ?_
  rintro e w1 ⟨k1, AC, AM, AF, cC, cM, cF, hcC, rfl, hC, _, hF⟩
  have hi4 : (i : Int) ≤ (cC : Int) := by omega
  have kb := (Kept.refl w1).alloc (.cells #[.slice AC nd cC, .slice AM nc cM, .slice AF nt cF] 41)
  have HB1 := Lib.hid (Box.new w1 #[.slice AC nd cC, .slice AM nc cM, .slice AF nt cF] 41 w1.heap.size rfl)
  have K2 := Lib.hid (k1.trans kb)
  have C2 := Lib.hid (hC.kept kb)
  have F2 := Lib.hid (hF.kept kb)
  clear hC hF k1 kb
  go_wp2_with fail
  refine (HP2.out _ K2.out).mono ?_
  rintro e w2 ⟨k2, BC, BM, BF, dC, dM, dF, rfl, hC, _, hF⟩
  have kb := (Kept.refl w2).alloc (.cells #[.slice BC i dC, .slice BM nc dM, .slice BF nt dF] 41)
  have HB2 := Lib.hid (Box.new w2 #[.slice BC i dC, .slice BM nc dM, .slice BF nt dF] 41 w2.heap.size rfl)
  have kk := k2.trans kb
  have K3 := Lib.hid (K2.out.trans kk)
  have C3 := Lib.hid ((C2.out.kept kk).take hin)
  have F3 := Lib.hid (F2.out.kept kk)
  have HB1' := Lib.hid (HB1.out.kept kk)
  have D3 := Lib.hid (hC.kept kb)
  have G3 := Lib.hid (hF.kept kb)
  clear hC hF k2 kb kk K2 C2 F2 HB1 HP HP2
  generalize w1.heap.size = X1 at HB1' ⊢
  have z0 := kw_cell (HB1'.out.at_ 0 rfl)
  have z2 := kw_cell (HB1'.out.at_ 2 rfl)
  have y0 := kw_cell (HB2.out.at_ 0 rfl)
  have y2 := kw_cell (HB2.out.at_ 2 rfl)
  have HCo := Lib.hid (fun w' (q : Kept (w2.alloc (.cells #[.slice BC i dC, .slice BM nc dM, .slice BF nt dF] 41)) w') => codes_same AC i cC BC dC _ w' (C3.out.kept q) (D3.out.kept q) (by unfold maxLen; omega))
  go_wp2_with fail
  refine wp_region_kept (by kernel_rfl) (by kernel_rfl) ?_
  repeat (go_big_quiet_step ((go_at_call 24; exact kept_of (HCo.out _ (KW.kept _)))))
  refine wpQuiet_nil ?_
  intro w3 k3
  have HB1a := Lib.hid (HB1'.out.kept k3)
  have HB2a := Lib.hid (HB2.out.kept k3)
  have F4 := Lib.hid (F3.out.kept k3)
  have G4 := Lib.hid (G3.out.kept k3)
  have K4 := Lib.hid (K3.out.trans k3)
  clear k3 HB1' HB2 F3 G3 K3 C3 D3 HCo z0 z2 y0 y2
  generalize w2.heap.size = X2 at HB2a ⊢
  go_wp2_with fail
  go_loopw [83] (fun t wr => ∃ q : Nat, q ≤ nt ∧ t = .int .i64 q ∧ Kept w3 wr) (fun t _ => nt - (intOf t).toNat)
  case atStart => exact ⟨0, Nat.zero_le _, rfl, Kept.refl _⟩
  case round =>
    obtain ⟨q, hq, rfl, kq⟩ := hrel
    by_cases hltq : q < nt
    · have hq1 : (0 : Int) ≤ (q : Int) := by omega
      have hq2 : (q : Int) < (nt : Int) := by omega
      obtain ⟨bf, ff, rfl, _, cf⟩ := (F4.out.kept kq).getN q hltq
      obtain ⟨bg, fg, rfl, _, cg⟩ := (G4.out.kept kq).getN q hltq
      rw [show nth ((List.range nt).map sl.from_) q = sl.from_ q by rw [nth_eq _ _ (by simpa using hltq)]; simp] at cf
      rw [show nth ((List.range nt).map sp.from_) q = sp.from_ q by rw [nth_eq _ _ (by simpa using hltq)]; simp] at cg
      have HI := Lib.hid (fun w' => in_is (sp.from_ q) (sl.from_ q) (HSUB.out q) w')
      have z1 := kw_cell cf
      have z2 := kw_cell cg
      have z3 := kw_cell ((HB1a.out.kept kq).at_ 2 rfl)
      have z4 := kw_cell ((HB2a.out.kept kq).at_ 2 rfl)
      generalize sl.from_ q = x at cf z1 HI
      generalize sp.from_ q = y at cg z2 HI
      go_wp2_with fail
      refine wp_region_kept (by kernel_rfl) (by kernel_rfl) ?_
      repeat (go_big_quiet_step ((go_at_call 25; exact kept_of_same (HI.out _))))
      refine wpQuiet_nil ?_
      intro w12 k12
      go_wp2_with fail
      go_roundw
      case rel => exact ⟨q + 1, by omega, by go_num, kq.trans k12⟩
      case measure => simp [intOf]; omega
    · go_wp2_with fail
      go_ret
      exact ⟨rfl, K4.out.trans kq⟩
theorem markFront_walk (A1 : Option Addr) (nc c1 : Nat) (clear : List Lab) (A2 : Option Addr) (nt c2 : Nat) (things : List Lab) (A3 : Option Addr) (nd c3 : Nat) (ds : List De) (k : Int) (w : World) (hl1 : nc ≤ maxLen) (s1 : SlLab w A1 nc clear) (hl2 : nt ≤ maxLen) (s2 : SlLab w A2 nt things) (hl3 : nd ≤ maxLen ∧ nd ≤ c3) (hd : SlD w A3 nd ds) (wk : (Lit.int .u8 k).wf = true) (hr : nd * 48 ≤ 140737488351232) :
    Calls Try.prog 6 #[.slice A1 nc c1, .slice A2 nt c2, .slice A3 nd c3, .int .u8 k] w fun e w' => e = .returned (.bool true) ∧ Below w.heap.size w w' := by
  suffices h : Calls Try.prog 6 #[.slice A1 nc c1, .slice A2 nt c2, .slice A3 nd c3, .int .u8 k] w fun e w' => e = .returned (.bool true) ∧ Kept w w' from h.mono fun e w' ⟨h1, h2⟩ => ⟨h1, h2.below⟩
  have hk : 0 ≤ k ∧ k ≤ 255 := by simpa [Lit.wf, IntKind.signed, IntKind.bits, IntKind.min, IntKind.max] using wk
  by_cases h0 : marksF clear things nd = 0
  · exact good A1 nc c1 clear A2 nt c2 things A3 nd c3 ds k w s1 s2 hl3.2 hd hk.1 hk.2 h0
  · exact bad A1 nc c1 clear A2 nt c2 things A3 nd c3 ds k w s1 s2 hl3.2 hd hk.1 hk.2 (by omega) h0
end Go.Proofs.Ytnnddjanbfamkaa.markFrontDone
