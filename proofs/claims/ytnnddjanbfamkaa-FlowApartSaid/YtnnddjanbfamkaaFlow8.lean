/- The walks of flow.Clean and flow.Raise. -/
import Derived.Test.YtnnddjanbfamkaaFlow7
import Derived.Test.YtnnddjanbfamkaaFlowQ
namespace Go.Proofs.Ytnnddjanbfamkaa
open Go Go.RowKit
set_option linter.unusedVariables false

theorem measure_ofF {α β : Type} (R : Nat → α → β → Prop) : ∃ M : α → β → Nat, ∀ t w k, R k t w → R (M t w) t w ∧ M t w ≤ k := by
  have key : ∀ (t : α) (w : β), ∃ m, ∀ k, R k t w → R m t w ∧ m ≤ k := by
    intro t w
    by_cases h : ∃ k, R k t w
    · obtain ⟨k, hk⟩ := h
      revert hk
      induction k using Nat.strongRecOn with
      | ind k ih =>
        intro hk
        by_cases h2 : ∃ j, j < k ∧ R j t w
        · obtain ⟨j, hj, hr⟩ := h2
          exact ih j hj hr
        · refine ⟨k, fun j hr => ⟨hk, ?_⟩⟩
          rcases Nat.lt_or_ge j k with hlt | hge
          · exact absurd ⟨j, hlt, hr⟩ h2
          · exact hge
    · exact ⟨0, fun k hk => absurd ⟨k, hk⟩ h⟩
  refine ⟨fun t w => Classical.choose (key t w), fun t w k hk => Classical.choose_spec (key t w) k hk⟩
/-- the labels of a list -/
def labOf (ls : List Lab) : Nat → Lab := fun i => ls.getD i (0, 0#32)
theorem labOf_at {ls : List Lab} {i : Nat} (h : i < ls.length) : labOf ls i = ls[i] := by
  unfold labOf
  rw [List.getD_eq_getElem?_getD, List.getElem?_eq_getElem h]
  rfl
theorem labOf_cells (ls : List Lab) : labCells ls = labsV ls.length (labOf ls) := by
  unfold labsV
  congr 1
  apply List.ext_getElem
  · simp
  · intro i h1 h2
    simp [labOf_at h1]
theorem labOf_ok {ls : List Lab} (h : ∀ x ∈ ls, labOk x = true) {n : Nat} (hn : ls.length = n) : ∀ j : Nat, (j : Int) < (n : Int) → labOk (labOf ls j) = true := fun j hj => by
  have hj2 : j < ls.length := by omega
  rw [labOf_at hj2]
  exact h _ (List.getElem_mem hj2)
theorem LabO.of_own {w0 w : World} {v : Value} {n : Nat} {ls : List Lab} (h : Own w0 w 24 2 v n (labCells ls)) (hn : ls.length = n) (hpos : 0 < n) : ∃ L cl, v = .slice (some ⟨L, 0, none⟩) n cl ∧ LabO w0 w L n cl (labOf ls) := by
  obtain ⟨A, c, rfl, _, _⟩ := h.form
  obtain ⟨g, rfl, _, _⟩ := h.block hpos
  refine ⟨g, c, rfl, ?_⟩
  have := h
  rw [labOf_cells, hn] at this
  exact this
def RetClean (w : World) (n : Int) (ls : List Lab) (p : Ln) (e : Ending) (w' : World) : Prop :=
  e = .returned (.tuple #[.bool (if lbF n ls p = 0 then (rsL p (labOf ls) lab0).1 else false), .int .i64 (lbF n ls p)]) ∧ Kept w w'
set_option maxRecDepth 100000 in
set_option maxHeartbeats 4000000 in
theorem flowClean_any (n : Int) (ls : List Lab) (A2 : Option Addr) (l2 c2 : Nat) (p : Ln) (A : Option Addr) (c : Nat) (w : World) (hl : SlLab w A2 l2 ls) (hs : SlLn w A p) :
    Calls Try.prog 32 #[.int .i64 n, .slice A2 l2 c2, .slice A p.len c] w (RetClean w n ls p) := by
  have HLB := Lib.hid (labeled_any n ls A2 l2 c2 p A c w hl hs)
  have HL := Lib.hid hl
  have HS := Lib.hid hs
  clear hl hs
  unfold RetClean
  by_cases h0 : lbF n ls p = 0
  · rw [if_pos h0, h0]
    rw [h0] at HLB
    obtain ⟨hw, hlen, hok⟩ := lbF_ok h0
    obtain ⟨hn1, hn6, hln⟩ := wrF_ok hw
    obtain ⟨nn, rfl⟩ := Int.eq_ofNat_of_zero_le (show 0 ≤ n by omega)
    have hl2 : l2 = nn := by have := HL.out.2; omega
    subst hl2
    have HLN := Lib.hid hln
    have HLEN := Lib.hid (show ls.length = l2 by omega)
    have hp1 : 1 ≤ l2 := by omega
    have hp6 : l2 ≤ 6 := by omega
    clear h0 hw hlen hok hn1 hn6 hln
    go_enter Try.func32, Try.ntmps32
    go_wp2_with fail
    refine HLB.out.mono ?_
    rintro e w1 ⟨rfl, k1⟩
    have HCL := Lib.hid (cloneL_any A2 l2 c2 ls w1 (HL.out.kept k1) (by omega))
    have HK1 := Lib.hid k1
    clear k1
    go_wp2_with fail
    refine HCL.out.mono ?_
    rintro e w2 ⟨v, rfl, hown⟩
    obtain ⟨L, cl, rfl, hlo⟩ := LabO.of_own hown HLEN.out hp1
    have HR := Lib.hid (raise_any w1 L l2 cl hp1 hp6 (p.wt + 1) p A c lab0 (labOf ls) w2 (by omega) (HS.out.kept HK1.out) HLN.out hlo)
    have HR2 : Hid (Calls Try.prog 50 #[.slice A p.len c, .slice (some ⟨L, 0, none⟩) l2 cl, .agg #[.int .i64 0, .int .u32 0]] w2 (RetRs w1 w2 L l2 cl (rsL p (labOf ls) lab0))) := HR
    clear hown hlo HR
    go_wp2_with fail
    refine HR2.out.mono ?_
    rintro e w3 ⟨rfl, hl3, _⟩
    have HK3 := Lib.hid (HK1.out.trans hl3.2)
    clear hl3
    go_wp2_with fail
    go_ret2
    exact ⟨rfl, HK3.out⟩
  · rw [if_neg h0]
    have hne : (lbF n ls p != 0) = true := by rw [bne_iff_ne]; exact h0
    clear h0
    generalize lbF n ls p = ff at HLB hne
    go_enter Try.func32, Try.ntmps32
    go_wp2_with fail
    refine HLB.out.mono ?_
    rintro e w1 ⟨rfl, k1⟩
    go_wp2_with fail
    go_ret2
    exact ⟨rfl, k1⟩
/-- what Raise answers -/
def RetRaise (w : World) (n : Int) (ls : List Lab) (p : Ln) (e : Ending) (w' : World) : Prop :=
  Kept w w' ∧ ((lbF n ls p ≠ 0 ∧ e = .returned (.tuple #[.slice none 0 0, .int .i64 (lbF n ls p)])) ∨
    (lbF n ls p = 0 ∧ ∃ (nn L cl : Nat) (lab : Nat → Lab), (nn : Int) = n ∧ e = .returned (.tuple #[.slice (some ⟨L, 0, none⟩) nn cl, .int .i64 0]) ∧ LabO w w' L nn cl lab ∧ RsI nn p (labOf ls) lab ∧ (rsL p lab lab0).1 = true))
def RsR (w1 : World) (L n cl : Nat) (p : Ln) (l0 : Nat → Lab) (k : Nat) (t : Value) (w : World) : Prop := ∃ lab, LabO w1 w L n cl lab ∧ RsI n p l0 lab ∧ n * 127 - rkL lab n = k
set_option maxRecDepth 100000 in
set_option maxHeartbeats 4000000 in
theorem flowRaise_any (n : Int) (ls : List Lab) (A2 : Option Addr) (l2 c2 : Nat) (p : Ln) (A : Option Addr) (c : Nat) (w : World) (hl : SlLab w A2 l2 ls) (hs : SlLn w A p) :
    Calls Try.prog 30 #[.int .i64 n, .slice A2 l2 c2, .slice A p.len c] w (RetRaise w n ls p) := by
  have HLB := Lib.hid (labeled_any n ls A2 l2 c2 p A c w hl hs)
  have HL := Lib.hid hl
  have HS := Lib.hid hs
  clear hl hs
  by_cases h0 : lbF n ls p = 0
  · rw [h0] at HLB
    have H0 := Lib.hid h0
    obtain ⟨hw, hlen, hok⟩ := lbF_ok h0
    obtain ⟨hn1, hn6, hln⟩ := wrF_ok hw
    obtain ⟨nn, rfl⟩ := Int.eq_ofNat_of_zero_le (show 0 ≤ n by omega)
    have hl2 : l2 = nn := by have := HL.out.2; omega
    subst hl2
    have HLN := Lib.hid hln
    have HLEN := Lib.hid (show ls.length = l2 by omega)
    have HOK := Lib.hid (labOf_ok hok (show ls.length = l2 by omega))
    have hp1 : 1 ≤ l2 := by omega
    have hp6 : l2 ≤ 6 := by omega
    clear h0 hw hlen hok hn1 hn6 hln
    go_enter Try.func30, Try.ntmps30
    go_wp2_with fail
    refine HLB.out.mono ?_
    rintro e w1 ⟨rfl, k1⟩
    have HCL := Lib.hid (cloneL_any A2 l2 c2 ls w1 (HL.out.kept k1) (by omega))
    have HK1 := Lib.hid k1
    clear k1
    go_wp2_with fail
    refine HCL.out.mono ?_
    rintro e w2 ⟨v, rfl, hown⟩
    obtain ⟨L, cl, rfl, hlo⟩ := LabO.of_own hown HLEN.out hp1
    obtain ⟨M, hM⟩ := measure_ofF (RsR w1 L l2 cl p (labOf ls))
    have HM := Lib.hid hM
    have HST := Lib.hid (show ∃ z, RsR w1 L l2 cl p (labOf ls) z (.int .i64 0) w2 from ⟨_, _, hlo, RsI.start HOK.out, rfl⟩)
    clear hown hlo hM
    go_wp2_with fail
    go_loopw [22] (fun t wr => ∃ lab, LabO w1 wr L l2 cl lab ∧ Hid (RsI l2 p (labOf ls) lab)) (fun t wr => M (.int .i64 0) wr)
    case atStart => obtain ⟨z, lab, h1, h2, _⟩ := HST.out; exact ⟨lab, h1, Lib.hid h2⟩
    case round =>
      obtain ⟨lab0', h10, h20⟩ := hrel
      have hz := (HM.out (.int .i64 0) wr _ ⟨lab0', h10, h20.out, rfl⟩).1
      obtain ⟨lab, hlo, hri, hk⟩ := hz
      clear h10 h20 lab0'
      have HRI := Lib.hid hri
      have HKM := Lib.hid hk
      have HR : Hid (Calls Try.prog 50 #[.slice A p.len c, .slice (some ⟨L, 0, none⟩) l2 cl, .agg #[.int .i64 0, .int .u32 0]] wr (RetRs w1 wr L l2 cl (rsL p lab lab0))) := Lib.hid (raise_any w1 L l2 cl hp1 hp6 (p.wt + 1) p A c lab0 lab wr (by omega) (HS.out.kept HK1.out) HLN.out hlo)
      have HCLN := Lib.hid (fun (h : (rsL p lab lab0).1 = true) => (rsG_clean p lab0 (true, lab) h).2.1)
      have HSTEP := Lib.hid (hri.step HLN.out)
      have HLESS := Lib.hid (hri.less HLN.out)
      clear hlo hri hk
      cases hb : (rsL p lab lab0).1 with
      | true =>
        have HB := Lib.hid hb
        have HE := Lib.hid (HCLN.out hb)
        clear hb
        go_wp2_with fail
        refine HR.out.mono ?_
        rintro e w3 ⟨rfl, hl3, _⟩
        rw [HB.out]
        have hl3' : LabO w1 w3 L l2 cl lab := by
          have := hl3
          rw [show (rsL p lab lab0).2 = lab from HE.out] at this
          exact this
        have FIN := Lib.hid (show RetRaise w (l2 : Int) ls p (.returned (.tuple #[.slice (some ⟨L, 0, none⟩) l2 cl, .int .i64 0])) w3 from ⟨HK1.out.trans hl3'.2, .inr ⟨H0.out, l2, L, cl, lab, rfl, rfl, ⟨⟨hl3'.1.1, by
          rcases hl3'.1.2 with hn | ⟨g, cap, cur, e, hb, rest⟩
          · exact .inl hn
          · exact .inr ⟨g, cap, cur, e, Nat.le_trans HK1.out.size hb, rest⟩⟩, HK1.out.trans hl3'.2⟩, HRI.out, HB.out⟩⟩)
        clear hl3 hl3'
        go_wp2_with fail
        go_ret2
        exact FIN.out
      | false =>
        have HB := Lib.hid hb
        have HLS := Lib.hid (HLESS.out hb)
        clear hb
        go_wp2_with fail
        refine HR.out.mono ?_
        rintro e w3 ⟨rfl, hl3, _⟩
        rw [HB.out]
        have HL3 := Lib.hid hl3
        clear hl3
        go_wp2_with fail
        go_roundw
        case rel => exact ⟨_, HL3.out, HSTEP⟩
        case measure =>
          have h1 := (HM.out (.int .i64 0) w3 _ ⟨_, HL3.out, HSTEP.out, rfl⟩).2
          have h2 := HSTEP.out.small
          have h3 := HLS.out
          have h4 := HKM.out
          omega
  · have H0 := Lib.hid h0
    have hne : (lbF n ls p != 0) = true := by rw [bne_iff_ne]; exact h0
    have HFIN := Lib.hid (fun w' (k : Kept w w') => show RetRaise w n ls p (.returned (.tuple #[.slice none 0 0, .int .i64 (lbF n ls p)])) w' from ⟨k, .inl ⟨H0.out, rfl⟩⟩)
    clear h0
    generalize lbF n ls p = ff at HLB hne HFIN
    go_enter Try.func30, Try.ntmps30
    go_wp2_with fail
    refine HLB.out.mono ?_
    rintro e w1 ⟨rfl, k1⟩
    have HF := Lib.hid (HFIN.out w1 k1)
    clear k1
    go_wp2_with fail
    go_ret2
    exact HF.out
end Go.Proofs.Ytnnddjanbfamkaa
