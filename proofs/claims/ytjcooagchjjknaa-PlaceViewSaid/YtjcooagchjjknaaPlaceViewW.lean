/- PlaceView: the walk of the statement. -/
import Derived.Test.YtjcooagchjjknaaPlace
namespace Go.Proofs.Ytjcooagchjjknaa.placeViewDone
open Go Go.RowKit
set_option linter.unusedVariables false

theorem findF_zero {ls : List Lf} {who : Lab} {ps : List Int} (h : viewF ls who = 0) : findF ls who ps = if ps = [] then ((0 : Int), (5 : Int)) else match goF ls who (-1) ps with | none => ((0 : Int), (5 : Int)) | some a => (a, 0) := by
  unfold findF
  rw [if_neg (fun h2 => h2 h)]
  rfl
/-- Find on a page and on its view -/
theorem find_both {ls : List Lf} {who : Lab} (h : pagedB ls who = true) (ps : List Int) :
    (findF ls who ps = (0, 5) ∧ findF (viewL ls who) who ps = (0, 5)) ∨
    ∃ i j, i < ls.length ∧ j < (viewL ls who).length ∧ findF ls who ps = (((i : Nat) : Int), 0) ∧ findF (viewL ls who) who ps = (((j : Nat) : Int), 0) ∧ (lfAt (viewL ls who) j).2 = (lfAt ls i).2 := by
  have hp := pagedB_iff.1 h
  have hok := pageF_zero.1 hp.1
  have v1 : viewF ls who = 0 := viewF_iff.2 h
  have v2 : viewF (viewL ls who) who = 0 := viewF_iff.2 (pagedB_iff.2 ⟨pageF_zero.2 (viewL_ok hok who), hp.2⟩)
  rw [findF_zero v1, findF_zero v2]
  by_cases hps : ps = []
  · rw [if_pos hps, if_pos hps]; exact .inl ⟨rfl, rfl⟩
  rw [if_neg hps, if_neg hps]
  have hv := goF_view hok ps (-1) (.inl rfl : At ls who (-1))
  have e : inV (seen who) ls (-1) = -1 := by unfold inV; rw [if_pos (by omega)]
  rw [e] at hv
  rw [hv]
  cases hg : goF ls who (-1) ps
  · exact .inl ⟨rfl, rfl⟩
  · rename_i a
    obtain ⟨i, h1, h2, h3⟩ := goF_at ps (-1) a hg hps
    subst h2
    have hva := view_at (so := seen who) h1 h3
    refine .inr ⟨i, cntK (seen who) ls i, h1, hva.1, rfl, ?_, ?_⟩
    · show (inV (seen who) ls (i : Int), (0 : Int)) = _
      unfold inV
      rw [if_neg (by omega), Int.toNat_natCast]
    · show (lfAt (viewK (seen who) ls) _).2 = _
      rw [hva.2]; rfl
set_option maxHeartbeats 4000000 in
theorem placeView_walk (A : Option Addr) (n c : Nat) (ls : List Lf) (a : Lab) (A2 : Option Addr) (m c2 : Nat) (ps : List Int) (w : World) (hn : n ≤ maxLen) (hs : SlL w A n ls) (wa : (Lit.int .i64 a.1).wf = true) (hm : m ≤ maxLen) (hpp : SlI w A2 m ps ∧ ∀ x ∈ ps, (Lit.int .i64 x).wf = true) :
    Calls Try.prog 5 #[.slice A n c, .agg #[.int .i64 a.1, .int .u32 (W a.2)], .slice A2 m c2] w fun e w' => e = .returned (.bool true) ∧ Below w.heap.size w w' := by
  suffices h : Calls Try.prog 5 #[.slice A n c, .agg #[.int .i64 a.1, .int .u32 (W a.2)], .slice A2 m c2] w fun e w' => e = .returned (.bool true) ∧ Kept w w' from h.mono fun e w' ⟨h1, h2⟩ => ⟨h1, h2.below⟩
  obtain ⟨la, pa⟩ := a
  have hpath := hpp.1
  clear hpp wa
  have k0 : Kept w (w.alloc (.cells #[.int .i64 la, .int .u32 (W pa)] 25)) := (Kept.refl _).alloc _
  have bx := Box.new w #[.int .i64 la, .int .u32 (W pa)] 25 w.heap.size rfl
  have e0 := bx.at_ 0 rfl
  have e1 := bx.at_ 1 rfl
  have hHN := Lib.hid hn
  have hHM := Lib.hid hm
  cases hpa : pagedB ls (la, pa)
  · have hne : (findF ls (la, pa) ps).2 ≠ 0 := fun h => by
      have hv : viewF ls (la, pa) ≠ 0 := fun h2 => by rw [viewF_iff.1 h2] at hpa; cases hpa
      unfold findF at h
      rw [if_pos hv] at h
      exact hv h
    have hneb : ((findF ls (la, pa) ps).2 != 0) = true := by simpa using hne
    have HP := Lib.hid hpa
    clear hpa hne
    go_enter Try.func5, Try.ntmps5
    go_wp2_with fail
    refine (find_any A n c ls la pa A2 m c2 ps _ (hs.kept k0) (hpath.kept k0) hn hm).mono ?_
    rintro e w1 ⟨rfl, k1⟩
    clear e0 e1
    have b1 := bx.kept k1
    have e0 := b1.at_ 0 rfl
    have e1 := b1.at_ 1 rfl
    clear bx
    go_wp2_with fail
    refine (paged_any A n c ls la pa _ (hs.kept (k0.trans k1)) hHN.out).mono ?_
    rintro e w2 ⟨rfl, k2⟩
    rw [HP.out]
    go_wp2_with fail
    go_ret
    exact ⟨rfl, (k0.trans k1).trans k2⟩
  · have hpf := (pagedB_iff.1 hpa).1
    have hla := (pagedB_iff.1 hpa).2
    have hfb := find_both hpa ps
    have hFF := find_any A n c ls la pa A2 m c2 ps _ (hs.kept k0) (hpath.kept k0) hn hm
    have hFV := fun (A1 : Option Addr) (n1 c1 : Nat) (w9 : World) => find_any A1 n1 c1 (viewL ls (la, pa)) la pa A2 m c2 ps w9
    have HP := Lib.hid hpa
    have HPF := Lib.hid hpf
    have HLA := Lib.hid hla
    have HVL := Lib.hid (viewL_le ls (la, pa))
    have HLN := Lib.hid hs.2
    have H40 := Lib.hid (pageF_zero.1 hpf).1
    clear hpa hpf hla
    rcases hfb with ⟨f1, f2⟩ | ⟨i, j, hi, hj, f1, f2, hij⟩
    · rw [f1] at hFF
      rw [f2] at hFV
      clear f1 f2
      have HFV := Lib.hid hFV
      clear hFV
      go_enter Try.func5, Try.ntmps5
      go_wp2_with fail
      refine hFF.mono ?_
      rintro e w1 ⟨rfl, k1⟩
      clear e0 e1 hFF
      have q1 := k0.trans k1
      replace bx := bx.kept k1
      have e0 := bx.at_ 0 rfl
      have e1 := bx.at_ 1 rfl
      go_wp2_with fail
      refine (paged_any A n c ls la pa _ (hs.kept q1) hHN.out).mono ?_
      rintro e w2 ⟨rfl, k2⟩
      rw [HP.out]
      have q2 := q1.trans k2
      replace bx := bx.kept k2
      clear e0 e1
      have e0 := bx.at_ 0 rfl
      have e1 := bx.at_ 1 rfl
      go_wp2_with fail
      refine (viewX_ok A n c ls la pa _ (hs.kept q2) HPF.out HLA.out).mono ?_
      rintro e w3 ⟨A3, c3, rfl, hv3, k3⟩
      have q3 := q2.trans k3
      replace bx := bx.kept k3
      clear e0 e1
      have e0 := bx.at_ 0 rfl
      have e1 := bx.at_ 1 rfl
      have hl9 : (viewL ls (la, pa)).length ≤ maxLen := Nat.le_trans HVL.out (by rw [HLN.out]; exact hn)
      generalize (viewL ls (la, pa)).length = n3 at hv3 hl9 ⊢
      go_wp2_with fail
      refine (HFV.out _ _ _ _ hv3 (hpath.kept q3) hl9 hHM.out).mono ?_
      rintro e w4 ⟨rfl, k4⟩
      go_wp2_with fail
      go_ret
      exact ⟨rfl, q3.trans k4⟩
    · rw [f1] at hFF
      rw [f2] at hFV
      clear f1 f2
      have HFV := Lib.hid hFV
      have HIJ := Lib.hid hij
      have HI := Lib.hid hi
      have HJ := Lib.hid hj
      clear hFV hij hi hj
      go_enter Try.func5, Try.ntmps5
      go_wp2_with fail
      refine hFF.mono ?_
      rintro e w1 ⟨rfl, k1⟩
      clear e0 e1 hFF
      have q1 := k0.trans k1
      replace bx := bx.kept k1
      have e0 := bx.at_ 0 rfl
      have e1 := bx.at_ 1 rfl
      go_wp2_with fail
      refine (paged_any A n c ls la pa _ (hs.kept q1) hHN.out).mono ?_
      rintro e w2 ⟨rfl, k2⟩
      rw [HP.out]
      have q2 := q1.trans k2
      replace bx := bx.kept k2
      clear e0 e1
      have e0 := bx.at_ 0 rfl
      have e1 := bx.at_ 1 rfl
      go_wp2_with fail
      refine (viewX_ok A n c ls la pa _ (hs.kept q2) HPF.out HLA.out).mono ?_
      rintro e w3 ⟨A3, c3, rfl, hv3, k3⟩
      have q3 := q2.trans k3
      replace bx := bx.kept k3
      clear e0 e1
      have e0 := bx.at_ 0 rfl
      have e1 := bx.at_ 1 rfl
      have hl9 : (viewL ls (la, pa)).length ≤ maxLen := Nat.le_trans HVL.out (by rw [HLN.out]; exact hn)
      have hl8 : (viewL ls (la, pa)).length ≤ 40 := Nat.le_trans HVL.out H40.out
      have HJ2 := HJ.out
      have hi2 : i < n := by rw [← HLN.out]; exact HI.out
      have hn40 : n ≤ 40 := by rw [← HLN.out]; exact H40.out
      generalize (viewL ls (la, pa)).length = n3 at hv3 hl9 hl8 HJ2 ⊢
      go_wp2_with fail
      refine (HFV.out _ _ _ _ hv3 (hpath.kept q3) hl9 hHM.out).mono ?_
      rintro e w4 ⟨rfl, k4⟩
      have q4 := q3.trans k4
      obtain ⟨b, off, rfl, hb, c0, c1, c2, c3⟩ := (hs.kept q4).getN i hi2
      obtain ⟨b', off', rfl, hb', d0, d1, d2, d3⟩ := (hv3.kept k4).getN j HJ2
      rw [HIJ.out] at d1 d2 d3
      generalize lfAt ls i = x at c0 c1 c2 c3 d1 d2 d3
      obtain ⟨up, tx, lx, px⟩ := x
      simp only at c0 c1 c2 c3 d1 d2 d3
      have g1 : (0 : Int) ≤ (i : Int) := by omega
      have g2 : (i : Int) < (n : Int) := by omega
      have g3 : (0 : Int) ≤ (j : Int) := by omega
      have g4 : (j : Int) < (n3 : Int) := by omega
      go_wp2_with fail
      go_quiet (fail)
      go_wp2_with fail
      go_ret
      exact ⟨rfl, q4.drewN nq⟩
end Go.Proofs.Ytjcooagchjjknaa.placeViewDone
