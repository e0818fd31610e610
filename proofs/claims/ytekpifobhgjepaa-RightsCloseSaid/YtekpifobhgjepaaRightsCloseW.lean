/- RightsClose: the walk of the statement. -/
import Derived.Test.YtekpifobhgjepaaRights2
import Derived.Test.YtekpifobhgjepaaPushAll
import Derived.Deep.RegionHeld3
namespace Go.Proofs.Ytekpifobhgjepaa
open Go Go.RowKit Go.ChangeShapes Go.WideShapes Go.Deep
section
variable {H : Type} {enc : TypeId × Value → H} {P : Program} {w : World} {base : Nat} {spare : Nat → Bool} {held : Bool}
/-- a chain by value -/
theorem open_chainv {r : Reach} {b0 : Nat} {t : TypeId} {f0 f1 f2 : Field} {v : Value} {d : DataW H} {p : List MemPlace} (hs : P.underlying t = some (.struct #[f0, f1, f2])) (hone : oneCellFields P #[f0, f1, f2] = true) (hC : P.cellsOf t = 3)
    (u0 : P.underlying f0.type = some (.int .u32)) (u1 : P.underlying f1.type = some (.int .u32)) (u2 : P.underlying f2.type = some (.int .u32))
    (hv : Value.okWide P w r b0 t v) (h : DataW.Trod enc P w base spare held t v d p) : ∃ x : Ch, v = .agg #[.int .u32 (W x.1), .int .u32 (W x.2.1), .int .u32 (W x.2.2)] ∧ True := by
  obtain ⟨c0, c1, c2, y0, y1, y2, m, rfl, _, _, hy0, hy1, hy2⟩ := Go.Joins.open_agg3 hs hone hC hv h
  obtain ⟨z0, e0, _, w0⟩ := DataW.trod_int u0 hy0
  obtain ⟨z1, e1, _, w1⟩ := DataW.trod_int u1 hy1
  obtain ⟨z2, e2, _, w2⟩ := DataW.trod_int u2 hy2
  simp at e0 e1 e2
  subst e0 e1 e2
  obtain ⟨b0, rfl⟩ := bvOf_wf w0
  obtain ⟨b1, rfl⟩ := bvOf_wf w1
  obtain ⟨b2, rfl⟩ := bvOf_wf w2
  exact ⟨(b0, b1, b2), rfl, trivial⟩
end
end Go.Proofs.Ytekpifobhgjepaa
namespace Go.Proofs.Ytekpifobhgjepaa.rightsCloseDone
open Go Go.RowKit
set_option linter.unusedVariables false
theorem info_chain : (Try.prog.info? 51).map (fun i => (i.zero, i.size, i.bytes)) = some (some (.agg #[.int .u32 0, .int .u32 0, .int .u32 0]), 3, 12) := by kernel_rfl

theorem bad (n : Int) (A : Option Addr) (len c : Nat) (rs : List Wr) (A2 : Option Addr) (k2 c2 : Nat) (cs : List Ch) (x : Ch) (w : World) (hs : SlX w A len rs) (hc : SlC w A2 k2 cs) (h : rightF n rs cs.length ≠ 0) :
    Calls Try.prog 8 #[.int .i64 n, .slice A len c, .slice A2 k2 c2, .agg #[.int .u32 (W x.1), .int .u32 (W x.2.1), .int .u32 (W x.2.2)]] w fun e w' => e = .returned (.bool true) ∧ Kept w w' := by
  have hk := fun w h => matrixCheck_any n A len c rs A2 k2 c2 w h
  have hF : rightF n rs k2 = rightF n rs cs.length := by rw [hc.2]
  rw [hF] at hk
  have h0 : (rightF n rs cs.length != 0) = true := by simpa using h
  have HH := Lib.hid h
  have hka : Kept w (w.alloc (.cells #[.int .u32 (W x.1), .int .u32 (W x.2.1), .int .u32 (W x.2.2)] 51)) := (Kept.refl _).alloc _
  clear h hF
  go_enter Try.func8, Try.ntmps8
  go_wp2_with fail
  refine (close_any n A len c rs A2 k2 c2 cs _ (hs.kept hka) (hc.kept hka)).mono ?_
  rintro e w1 ⟨k1, ⟨_, rfl⟩ | ⟨hz, _⟩⟩
  case inr => exact absurd hz HH.out
  go_wp2_with fail
  refine (hk _ (hs.kept (hka.trans k1))).mono ?_
  rintro e w2 ⟨rfl, rfl⟩
  go_wp2_with fail
  go_ret
  exact ⟨rfl, hka.trans k1⟩
theorem in_is (x y : BitVec 32) (b : Bool) (hb : subB x y = b) (w : World) : Calls Try.prog 18 #[.int .u32 (W x), .int .u32 (W y)] w fun e w' => e = .returned (.bool b) ∧ w = w' := by
  rw [← hb]
  exact rightsIn_any x y w
theorem own_sl {w0 w : World} {E : TypeId} {s n c : Nat} {A : Option Addr} {xs : List Value} (h : Own w0 w E s (.slice A n c) n xs) : Sl w s A n xs := by
  obtain ⟨A2, c2, e, hsl, _⟩ := h.form
  injection e with e
  subst e
  exact hsl
/-- what the third call hands back -/
def RetMore (w : World) (n : Nat) (rs : List Wr) (ds : List Ch) (A : Option Addr) (l : Nat) (code : Int) (w' : World) : Prop :=
  (code ≠ 0 → 10 < ds.length) ∧ (code = 0 → l = n ∧ ∃ rs4, SlX w' A n rs4 ∧ (∀ r ∈ rs4, r.2.1 = n) ∧ IsClose n ds (mxOf rs) (mxOf rs4))
theorem close_more_any (n : Nat) (A : Option Addr) (c : Nat) (rs : List Wr) (A2 : Option Addr) (k2 c2 : Nat) (cs ds : List Ch) (w : World) (hs : SlX w A n rs) (hc : SlC w A2 k2 ds) (h : rightF n rs cs.length = 0) :
    Calls Try.prog 26 #[.int .i64 n, .slice A n c, .slice A2 k2 c2] w fun e w' => ∃ A' l' c' code, e = .returned (.tuple #[.slice A' l' c', .int .i64 code]) ∧ Kept w w' ∧ RetMore w n rs ds A' l' code w' := by
  refine (close_any n A n c rs A2 k2 c2 ds w hs hc).mono ?_
  rintro e w1 ⟨k1, ⟨hz, rfl⟩ | ⟨hz, n', A3, c3, rs3, hn, rfl, hs3, hr3, hcl3⟩⟩
  · exact ⟨none, 0, 0, _, rfl, k1, fun _ => rightF_big h hz, fun h0 => absurd h0 hz⟩
  · obtain rfl : n = n' := by omega
    exact ⟨A3, n, c3, 0, rfl, k1, fun h0 => absurd rfl h0, fun _ => ⟨rfl, rs3, hs3, hr3, hcl3⟩⟩
set_option maxRecDepth 100000 in
set_option maxHeartbeats 16000000 in
theorem good (n : Nat) (A : Option Addr) (len c : Nat) (rs : List Wr) (A2 : Option Addr) (k2 c2 : Nat) (cs : List Ch) (x : Ch) (w : World) (hs : SlX w A n rs) (hc : SlC w A2 k2 cs) (h : rightF n rs cs.length = 0) (h1 : 1 ≤ n) (h6 : n ≤ 6) (hk10 : k2 ≤ 10) (hr : ∀ r ∈ rs, r.2.1 = n) :
    Calls Try.prog 8 #[.int .i64 n, .slice A n c, .slice A2 k2 c2, .agg #[.int .u32 (W x.1), .int .u32 (W x.2.1), .int .u32 (W x.2.2)]] w fun e w' => e = .returned (.bool true) ∧ Kept w w' := by
  have hk := fun w h => matrixCheck_any n A n c rs A2 k2 c2 w h
  have hF : rightF n rs k2 = rightF n rs cs.length := by rw [hc.2]
  rw [hF, h] at hk
  have HH := Lib.hid h
  have HR := Lib.hid hr
  have hka : Kept w (w.alloc (.cells #[.int .u32 (W x.1), .int .u32 (W x.2.1), .int .u32 (W x.2.2)] 51)) := (Kept.refl _).alloc _
  have bx := Box.new w #[.int .u32 (W x.1), .int .u32 (W x.2.1), .int .u32 (W x.2.2)] 51 w.heap.size rfl
  have p0 := bx.at_ 0 rfl
  have p1 := bx.at_ 1 rfl
  have p2 := bx.at_ 2 rfl
  clear h hF hr bx
  go_enter Try.func8, Try.ntmps8
  go_wp2_with fail
  refine (close_any n A n c rs A2 k2 c2 cs _ (hs.kept hka) (hc.kept hka)).mono ?_
  rintro e w1 ⟨k1, ⟨hz, _⟩ | ⟨_, n', A1, c1, rs1, hn, rfl, hs1, hr1, hcl1⟩⟩
  case inl => exact absurd HH.out hz
  obtain rfl : n = n' := by omega
  have HR1 := Lib.hid hr1
  have HCL1 := Lib.hid hcl1
  clear hr1 hcl1
  have q1 := hka.trans k1
  go_wp2_with fail
  refine (hk _ (hs.kept q1)).mono ?_
  rintro e w2 ⟨rfl, rfl⟩
  go_wp2_with fail
  refine (close_any n A1 n c1 rs1 A2 k2 c2 cs _ hs1 (hc.kept q1)).mono ?_
  rintro e w2 ⟨k2', ⟨hz, _⟩ | ⟨_, n', A3, c3, rs3, hn, rfl, hs3, hr3, hcl3⟩⟩
  case inl => exact absurd (rightF_ok h1 h6 (by rw [hc.2]; exact hk10) hs1.2.1 HR1.out) hz
  obtain rfl : n = n' := by omega
  have q2 := q1.trans k2'
  have hM := matrices_any n A1 c1 rs1 A3 c3 rs3 w2 (hs1.kept k2') hs3 h6 HR1.out hr3 (close_twice HCL1.out hcl3)
  go_wp2_with fail
  refine hM.mono ?_
  rintro e w3 ⟨rfl, k3⟩
  have q3 := q2.trans k3
  have k13 := (k1.trans k2').trans k3
  have p0 := (k13.cell (cell_lt p0)).trans p0
  have p1 := (k13.cell (cell_lt p1)).trans p1
  have p2 := (k13.cell (cell_lt p2)).trans p2
  have hs1b := hs1.kept (k2'.trans k3)
  have HSW := Lib.hid (fun w' (k : Kept w3 w') => show w'.cell? ⟨w.heap.size, 0, none⟩ = some (.int .u32 (W x.1)) ∧ w'.cell? ⟨w.heap.size, 1, none⟩ = some (.int .u32 (W x.2.1)) ∧ w'.cell? ⟨w.heap.size, 2, none⟩ = some (.int .u32 (W x.2.2)) ∧ Kept w3 w' from
    ⟨(k.cell (cell_lt p0)).trans p0, (k.cell (cell_lt p1)).trans p1, (k.cell (cell_lt p2)).trans p2, k⟩)
  have HC := Lib.hid (fun w' (k : Kept w3 w') => hc.kept (q3.trans k))
  have HM0 := Lib.hid (fun w' (k : Kept w3 w') => hs.kept (q3.trans k))
  have HS1 := Lib.hid (fun w' (k : Kept w3 w') => hs1b.kept k)
  have HK := Lib.hid hc.2
  have Q3 := Lib.hid q3
  clear hM hs3 hr3 hcl3 hs1 k13 q1 q2 q3 hka k1 k2' k3 hs1b
  go_wp2_with fail
  go_region_held3 (fun w' => w'.cell? ⟨w.heap.size, 0, none⟩ = some (.int .u32 (W x.1)) ∧ w'.cell? ⟨w.heap.size, 1, none⟩ = some (.int .u32 (W x.2.1)) ∧ w'.cell? ⟨w.heap.size, 2, none⟩ = some (.int .u32 (W x.2.2)) ∧ Kept w3 w')
    ((refine HSW.out _ ?_; repeat first | exact Kept.refl _ | exact K9.out | exact hown8.kept0 | exact hown7.kept0 | refine Kept.alloc ?_ _ | refine Kept.drew ?_))
    ((first
      | (refine step_pushAll (by rfl) _ _ 49 (by rfl) (.slice (some ⟨_, 0, none⟩) 0 0) (by rfl) A2 k2 c2 (by rfl) 51 Try.underlying49 info_chain rfl (by decide) (by decide) _ 0 [] (by first | exact (Own.empty (Kept.refl _) _ _ _ rfl).drew | exact ((Own.empty (Kept.refl _) _ _ _ rfl).alloc _).drew | exact (Own.empty ((Kept.refl _).alloc _) _ _ _ (by simp)).drew) (chCells cs) (HC.out _ (by repeat first | exact Kept.refl _ | refine Kept.alloc ?_ _ | refine Kept.drew ?_)).1 (one_chains cs) k2 (by omega) (by omega) ?_
         intro v7 w7 hown7 hgr7
         try have OC7 := Lib.hid (own_sl (Own.grown (by first | exact (Own.made ((Kept.refl w3).alloc (.cells #[] 51)) 51 #[.int .u32 (W x.1), .int .u32 (W x.2.1), .int .u32 (W x.2.2)] 3 1 _ rfl rfl (by decide)).drew | exact ((Own.made (Kept.refl w3) 51 #[.int .u32 (W x.1), .int .u32 (W x.2.1), .int .u32 (W x.2.2)] 3 1 _ rfl rfl (by decide)).alloc (.cells #[] 51)).drew) hgr7 (.inr (by simp [Value.ownBlock])) (by intro k hk; simp [Value.ownBlock] at hk; subst hk; simp)))
         obtain ⟨A7, c7, rfl, hsl7⟩ := hown7.form)
      | (refine step_pushAll (by rfl) _ _ 49 (by rfl) (.slice A7 k2 c7) (by rfl) _ 1 1 (by rfl) 51 Try.underlying49 info_chain rfl (by decide) (by decide) _ k2 (chCells cs) (by first | exact hown7 | exact hown7.alloc _) (chCells [x]) (by first | exact Sl.new w7 #[.int .u32 (W x.1), .int .u32 (W x.2.1), .int .u32 (W x.2.2)] 51 3 1 rfl | (have h := OC7.out; simpa [chCells, chv] using h)) (one_chains [x]) (k2 + 1) (by omega) (by omega) ?_
         intro v8 w8 hown8 hgr8
         obtain ⟨A8, c8, rfl, hsl8⟩ := hown8.form)
      | (go_at_call 26
         refine (close_more_any n A c rs A8 (k2 + 1) c8 cs (cs ++ [x]) _ (HM0.out _ hown8.kept0) ⟨by rw [chCells_append]; exact hsl8.1, by simp [HK.out]⟩ HH.out).mono ?_
         rintro e w9 ⟨A9, l9, c9, code, rfl, k9, hm9⟩
         have K9 := Lib.hid (hown8.kept0.trans k9)
         have HM9 := Lib.hid hm9
         clear hm9)))
  all_goals
    have k9w := Lib.hid (Q3.out.trans K9.out)
    have hcell := True.intro
    by_cases hcode : code = 0
    · subst hcode
      have HL := Lib.hid (HM9.out.2 rfl)
      obtain ⟨hl9, rs4, hs4, hr4, hcl4⟩ := HL.out
      subst l9
      have HT := Lib.hid (close_more (ds := [x]) HCL1.out hcl4)
      have HD := Lib.hid (fun w' (k : Kept w9 w') => hs4.kept k)
      have HR4 := Lib.hid hr4
      clear HL HM9 hs4 hr4 hcl4 hcell
      go_wp2_with fail
      go_loopw [15] (fun t wr => ∃ i : Nat, i ≤ n ∧ t = .int .i64 i ∧ Kept w9 wr) (fun t _ => n - (intOf t).toNat)
      case atStart => exact ⟨0, Nat.zero_le _, rfl, Kept.refl _⟩
      case round =>
        obtain ⟨i, hi, rfl, ki⟩ := hrel
        by_cases hlti : i < n
        · have hi1 : (0 : Int) ≤ (i : Int) := by omega
          have hi2 : (i : Int) < (n : Int) := by omega
          go_wp2_with fail
          go_loopw [16] (fun t wr => ∃ j : Nat, j ≤ n ∧ t = .int .i64 j ∧ Kept w9 wr) (fun t _ => n - (intOf t).toNat)
          case atStart => exact ⟨0, Nat.zero_le _, rfl, ki⟩
          case round =>
            clear ki
            obtain ⟨j, hj, rfl, ki⟩ := hrel
            by_cases hltj : j < n
            · have hj1 : (0 : Int) ≤ (j : Int) := by omega
              have hj2 : (j : Int) < (n : Int) := by omega
              obtain ⟨bm, fm, bm2, fm2, cm2, rfl, m1, m2⟩ := (HM0.out _ (K9.out.trans ki)).at_ HR.out i j hlti hltj
              obtain ⟨ba, fa, ba2, fa2, ca2, rfl, a1, a2⟩ := (HS1.out _ (K9.out.trans ki)).at_ HR1.out i j hlti hltj
              obtain ⟨bd, fd, bd2, fd2, cd2, rfl, d1, d2⟩ := (HD.out _ ki).at_ HR4.out i j hlti hltj
              have qd1 := kw_cell d1
              have qd2 := kw_cell d2
              have T2 := Lib.hid (HT.out i j hlti hltj)
              have qm1 := kw_cell m1
              have qm2 := kw_cell m2
              have qa1 := kw_cell a1
              have qa2 := kw_cell a2
              have T1 := Lib.hid (HCL1.out.1 i j hlti hltj)
              generalize mxOf rs i j = u at m2 qm2 T1
              generalize mxOf rs1 i j = v at a2 qa2 T1 T2
              generalize mxOf rs4 i j = z at d2 qd2 T2
              go_wp2_with fail
              refine wp_region_kept (by kernel_rfl) (by kernel_rfl) ?_
              repeat (go_big_quiet_step ((go_at_call 18; exact kept_of_same (in_is _ _ true (by first | exact T1.out | exact T2.out) _))))
              refine wpQuiet_nil ?_
              intro w12 k12
              go_wp2_with fail
              go_roundw
              case rel => exact ⟨j + 1, by omega, by go_num, ki.trans k12⟩
              case measure => simp [intOf]; omega
            · go_wp2_with fail
              go_roundw
              case rel => exact ⟨i + 1, by omega, by go_num, ki⟩
              case measure => simp [intOf]; omega
        · go_wp2_with fail
          go_ret
          exact ⟨by simp, k9w.out.trans ki⟩
    · have hc0 := True.intro
      have hne : (code == 0) = false := by simpa using hcode
      have HK10 := Lib.hid (show k2 = 10 by have := HM9.out.1 hcode; simp [HK.out] at this; omega)
      clear HM9 hcell
      go_wp2_with fail
      go_loopw [15] (fun t wr => ∃ i : Nat, i ≤ n ∧ t = .int .i64 i ∧ Kept w9 wr) (fun t _ => n - (intOf t).toNat)
      case atStart => exact ⟨0, Nat.zero_le _, rfl, Kept.refl _⟩
      case round =>
        obtain ⟨i, hi, rfl, ki⟩ := hrel
        by_cases hlti : i < n
        · have hi1 : (0 : Int) ≤ (i : Int) := by omega
          have hi2 : (i : Int) < (n : Int) := by omega
          go_wp2_with fail
          go_loopw [16] (fun t wr => ∃ j : Nat, j ≤ n ∧ t = .int .i64 j ∧ Kept w9 wr) (fun t _ => n - (intOf t).toNat)
          case atStart => exact ⟨0, Nat.zero_le _, rfl, ki⟩
          case round =>
            clear ki
            obtain ⟨j, hj, rfl, ki⟩ := hrel
            by_cases hltj : j < n
            · have hj1 : (0 : Int) ≤ (j : Int) := by omega
              have hj2 : (j : Int) < (n : Int) := by omega
              obtain ⟨bm, fm, bm2, fm2, cm2, rfl, m1, m2⟩ := (HM0.out _ (K9.out.trans ki)).at_ HR.out i j hlti hltj
              obtain ⟨ba, fa, ba2, fa2, ca2, rfl, a1, a2⟩ := (HS1.out _ (K9.out.trans ki)).at_ HR1.out i j hlti hltj
              have qm1 := kw_cell m1
              have qm2 := kw_cell m2
              have qa1 := kw_cell a1
              have qa2 := kw_cell a2
              have T1 := Lib.hid (HCL1.out.1 i j hlti hltj)
              generalize mxOf rs i j = u at m2 qm2 T1
              generalize mxOf rs1 i j = v at a2 qa2 T1
              go_wp2_with fail
              refine wp_region_kept (by kernel_rfl) (by kernel_rfl) ?_
              repeat (go_big_quiet_step ((go_at_call 18; exact kept_of_same (in_is _ _ true (by exact T1.out) _))))
              refine wpQuiet_nil ?_
              intro w12 k12
              go_wp2_with fail
              go_roundw
              case rel => exact ⟨j + 1, by omega, by go_num, ki.trans k12⟩
              case measure => simp [intOf]; omega
            · go_wp2_with fail
              go_roundw
              case rel => exact ⟨i + 1, by omega, by go_num, ki⟩
              case measure => simp [intOf]; omega
        · have hk10 := HK10.out
          subst hk10
          go_wp2_with fail
          go_ret
          exact ⟨by simp, k9w.out.trans ki⟩
theorem rightsClose_walk (n : Int) (A : Option Addr) (len c : Nat) (rs : List Wr) (A2 : Option Addr) (k2 c2 : Nat) (cs : List Ch) (x : Ch) (w : World) (_wn : (Lit.int .i64 n).wf = true) (hl : len ≤ maxLen) (hs : SlX w A len rs) (hl2 : k2 ≤ maxLen) (hc : SlC w A2 k2 cs) (_h : True) :
    Calls Try.prog 8 #[.int .i64 n, .slice A len c, .slice A2 k2 c2, .agg #[.int .u32 (W x.1), .int .u32 (W x.2.1), .int .u32 (W x.2.2)]] w fun e w' => e = .returned (.bool true) ∧ Below w.heap.size w w' := by
  suffices h : Calls Try.prog 8 #[.int .i64 n, .slice A len c, .slice A2 k2 c2, .agg #[.int .u32 (W x.1), .int .u32 (W x.2.1), .int .u32 (W x.2.2)]] w fun e w' => e = .returned (.bool true) ∧ Kept w w' from h.mono fun e w' ⟨h1, h2⟩ => ⟨h1, h2.below⟩
  by_cases h0 : rightF n rs cs.length = 0
  · obtain ⟨nn, rfl, h1, h6, hk, hlr, hr⟩ := rightF_zero h0
    obtain rfl : len = nn := by rw [← hs.2.1]; exact hlr
    exact good len A len c rs A2 k2 c2 cs x w hs hc h0 h1 h6 (by rw [← hc.2]; exact hk) hr
  · exact bad n A len c rs A2 k2 c2 cs x w hs hc h0
end Go.Proofs.Ytekpifobhgjepaa.rightsCloseDone
