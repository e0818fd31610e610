/- The walk of flow.lines. -/
import Derived.Test.YtnnddjanbfamkaaFlow2
namespace Go.Proofs.Ytnnddjanbfamkaa
open Go Go.RowKit
set_option linter.unusedVariables false

theorem vLn_any (p : Addr) (n x : Int) (w : World) (hp : w.cell? p = some (.int .i64 n)) : Calls Try.prog 72 #[.int .i64 x, .pointer (some p)] w fun e w' => e = .returned (.bool (vB n x)) ∧ w = w' := by
  have HV := Lib.hid (show vB n x = (decide (0 ≤ x) && decide (x < n)) from rfl)
  rw [HV.out]
  cases h1 : decide (0 ≤ x)
  · go_enter Try.func72, Try.ntmps72
    go_wp2_with fail
    go_ret
    exact ⟨rfl, rfl⟩
  · cases h2 : decide (x < n)
    all_goals
      go_enter Try.func72, Try.ntmps72
      go_wp2_with fail
      go_ret
      exact ⟨rfl, rfl⟩
/-- the parts that were looked at are right -/
def Pn (n : Int) (body els : Ln) (j : Nat) : Prop := (1 ≤ j → lnF n body = 0) ∧ (2 ≤ j → lnF n els = 0)
theorem parts_ln {w : World} {Y : Nat} {bA eA : Option Addr} {bc ec : Nat} {body els : Ln} {f : Nat} (y0 : w.cell? ⟨Y, 0, none⟩ = some (.slice bA body.len bc)) (y1 : w.cell? ⟨Y, 1, none⟩ = some (.slice eA els.len ec)) (h0 : SlLn w bA body) (h1 : SlLn w eA els) (w0 : body.wt < f) (w1 : els.wt < f) {n V r : Int} (hV : V = if lnF n body ≠ 0 then lnF n body else if lnF n els ≠ 0 then lnF n els else r) {j : Nat} (hj : j < 2) (hp : Pn n body els j) :
    ∃ (pj : Ln) (Aj : Option Addr) (cj : Nat), w.cell? ⟨Y, j, none⟩ = some (.slice Aj pj.len cj) ∧ SlLn w Aj pj ∧ pj.wt < f ∧ (lnF n pj ≠ 0 → V = lnF n pj) ∧ (lnF n pj = 0 → Pn n body els (j + 1)) := by
  obtain rfl | rfl : j = 0 ∨ j = 1 := by omega
  · exact ⟨body, bA, bc, y0, h0, w0, fun h => by rw [hV, if_pos h], fun h => ⟨fun _ => h, fun h2 => by omega⟩⟩
  · have hb := hp.1 (by omega)
    exact ⟨els, eA, ec, y1, h1, w1, fun h => by rw [hV, if_neg (fun h2 => h2 hb), if_pos h], fun h => ⟨fun _ => hb, fun _ => h⟩⟩
theorem Pn.done {n V r : Int} {body els : Ln} (h : Pn n body els 2) (hV : V = if lnF n body ≠ 0 then lnF n body else if lnF n els ≠ 0 then lnF n els else r) : r = V := by
  rw [hV, if_neg (fun h2 => h2 (h.1 (by omega))), if_neg (fun h2 => h2 (h.2 (by omega)))]
set_option maxRecDepth 100000 in
set_option maxHeartbeats 16000000 in
theorem linesF_any (n : Int) (hn1 : 1 ≤ n) (hn6 : n ≤ 6) : ∀ (f : Nat) (p : Ln) (A : Option Addr) (c : Nat) (w : World), p.wt < f → SlLn w A p →
    Calls Try.prog 64 #[.int .i64 n, .slice A p.len c] w fun e w' => e = .returned (.int .i64 (lnF n p)) ∧ Kept w w' := by
  intro f
  induction f with
  | zero => intro p A c w h; omega
  | succ f ih =>
    intro p A c w hwt hs
    have HIH := Lib.hid ih
    have HWT := Lib.hid hwt
    have hml : p.len ≤ 9223372036854775807 := hs.1
    obtain ⟨B, o, hA, hat⟩ := hs.open_
    have hka : Kept w (w.alloc (.cells #[.int .i64 n] 3)) := (Kept.refl _).alloc _
    have HA := Lib.hid hA
    have HAT := Lib.hid (LnAt.kept hka _ _ _ hat)
    have KA := Lib.hid hka
    have BN := Lib.hid (Box.new w #[.int .i64 n] 3 w.heap.size rfl)
    clear ih hwt hs hA hat hka
    go_enter Try.func64, Try.ntmps64
    go_wp2_with fail
    obtain ⟨w1, hw1⟩ : ∃ w1, w.alloc (.cells #[.int .i64 n] 3) = w1 := ⟨_, rfl⟩
    rw [hw1] at HAT KA BN ⊢
    clear hw1
    generalize w.heap.size = N at BN ⊢
    go_loopw [14] (fun t wr => ∃ (q : Ln) (i : Nat), i + q.len = p.len ∧ t = .int .i64 (i : Nat) ∧ q.wt ≤ p.wt ∧ LnAt w1 q B (o + i * 7) ∧ Hid (lnF n q = lnF n p) ∧ Kept w1 wr) (fun t _ => p.len - (intOf t).toNat)
    case atStart => exact ⟨p, 0, by omega, rfl, Nat.le_refl _, by simpa using HAT.out, Lib.hid rfl, Kept.refl _⟩
    case round =>
      obtain ⟨q, i, hiq, rfl, hqw, hat, HG, hkw⟩ := hrel
      cases q with
      | nil =>
        have hip : i = p.len := hiq
        subst hip
        have HG2 := Lib.hid (show lnF n p = 0 from HG.out.symm)
        have HKW := Lib.hid (KA.out.trans hkw)
        clear hat hkw hiq hqw
        go_wp2_with fail
        go_ret
        exact ⟨by rw [HG2.out]; rfl, HKW.out⟩
      | cons k t a b v bA bc body eA ec els rest =>
        have hil : i + (rest.len + 1) = p.len := hiq
        have hlt : i < p.len := by omega
        have HLT := Lib.hid hlt
        have hA2 := HA.out (by omega)
        subst hA2
        have hw2 : body.wt + els.wt + rest.wt + 1 ≤ p.wt := hqw
        have hwf := HWT.out
        obtain ⟨⟨c0, c1, c2, c3, c4, c5, c6⟩, hb, he, lb, le, hr⟩ := hat.kept hkw
        have HREST := Lib.hid (show LnAt w1 rest B (o + (i + 1) * 7) by
          obtain ⟨_, _, _, _, _, hr⟩ := hat
          rw [show o + (i + 1) * 7 = o + i * 7 + 7 by omega]
          exact hr)
        have HRW := Lib.hid (show rest.wt ≤ p.wt by omega)
        have HRL := Lib.hid (show i + 1 + rest.len = p.len by omega)
        have HKW := Lib.hid hkw
        have HWB := Lib.hid (show body.wt < f by omega)
        have HWE := Lib.hid (show els.wt < f by omega)
        have bx := Box.new wr (lnV k t a b v bA bc body.len eA ec els.len) 104 wr.heap.size rfl
        have ka : Kept wr (wr.alloc (.cells (lnV k t a b v bA bc body.len eA ec els.len) 104)) := (Kept.refl _).alloc _
        have x0 := bx.at_ 0 (u := .int .i64 k) rfl
        have x1 := bx.at_ 1 (u := .int .i64 t) rfl
        have x2 := bx.at_ 2 (u := .int .i64 a) rfl
        have x3 := bx.at_ 3 (u := .int .i64 b) rfl
        have x5 := bx.at_ 5 (u := .slice bA body.len bc) rfl
        have x6 := bx.at_ 6 (u := .slice eA els.len ec) rfl
        have HV := Lib.hid (fun x => vLn_any ⟨N, 0, none⟩ n x (wr.alloc (.cells (lnV k t a b v bA bc body.len eA ec els.len) 104)) ((BN.out.kept (hkw.trans ka)).at_ 0 rfl))
        have by2 := Box.new (wr.alloc (.cells (lnV k t a b v bA bc body.len eA ec els.len) 104)) #[.slice bA body.len bc, .slice eA els.len ec] 55 (wr.heap.size + 1) (by simp)
        have KB := Lib.hid (show Kept wr ((wr.alloc (.cells (lnV k t a b v bA bc body.len eA ec els.len) 104)).alloc (.cells #[.slice bA body.len bc, .slice eA els.len ec] 55)) from ka.alloc _)
        have BY := Lib.hid by2
        have HBODY := Lib.hid (show SlLn wr bA body from ⟨lb, hb⟩)
        have HELS := Lib.hid (show SlLn wr eA els from ⟨le, he⟩)
        have HKA := Lib.hid (hkw.trans ka)
        unfold lnV at x0 x1 x2 x3 x5 x6 HV BY KB HKA
        clear bx by2 hat hkw hiq hqw hil hlt hw2 hwf hb he lb le hr ka HA
        by_cases hk : k < 1 ∨ 3 < k
        · have HR := Lib.hid (show lnF n p = 6 by rw [← HG.out]; unfold lnF; rw [if_pos hk])
          clear HV
          by_cases hk1 : k < 1
          · have d1 : decide (k < 1) = true := by simpa using hk1
            clear hk hk1
            go_wp2_with fail
            go_ret
            exact ⟨by rw [HR.out]; rfl, KA.out.trans HKA.out⟩
          · have d1 : decide (k < 1) = false := by simpa using hk1
            have d2 : decide (3 < k) = true := by rw [decide_eq_true_eq]; omega
            clear hk hk1
            go_wp2_with fail
            go_ret
            exact ⟨by rw [HR.out]; rfl, KA.out.trans HKA.out⟩
        · have d1 : decide (k < 1) = false := by rw [decide_eq_false_iff_not]; omega
          have d2 : decide (3 < k) = false := by rw [decide_eq_false_iff_not]; omega
          have HNF := Lib.hid (show lnF n p = if argB n k t a b = true then 2 else if lnF n body ≠ 0 then lnF n body else if lnF n els ≠ 0 then lnF n els else lnF n rest by rw [← HG.out]; show (if _ then _ else _) = _; rw [if_neg hk])
          clear hk
          have HAB := Lib.hid (show argB n k t a b = if k = 1 then !vB n t || ((a != -1) && !vB n a) || ((b != -1) && !vB n b) else !vB n a from rfl)
          cases hbad : argB n k t a b with
          | true =>
            have HR := Lib.hid (show lnF n p = 2 by rw [HNF.out, if_pos hbad])
            rw [HAB.out] at hbad
            by_cases hk1 : k = 1
            · have dk : (k == 1) = true := by rw [beq_iff_eq]; exact hk1
              rw [if_pos hk1] at hbad
              clear hk1
              cases vt : vB n t with
              | false =>
                clear hbad
                go_wp2_with (go_at_call 72; refine (HV.out _).mono ?_; rintro e w' ⟨rfl, rfl⟩)
                go_ret
                exact ⟨by rw [HR.out]; rfl, KA.out.trans HKA.out⟩
              | true =>
                rw [vt] at hbad
                cases ha : (a != -1) with
                | false =>
                  rw [ha] at hbad
                  cases hb : (b != -1) with
                  | false => rw [hb] at hbad; simp at hbad
                  | true =>
                    cases vb : vB n b with
                    | true => rw [hb, vb] at hbad; simp at hbad
                    | false =>
                      clear hbad
                      go_wp2_with (go_at_call 72; refine (HV.out _).mono ?_; rintro e w' ⟨rfl, rfl⟩)
                      go_ret
                      exact ⟨by rw [HR.out]; rfl, KA.out.trans HKA.out⟩
                | true =>
                  cases va : vB n a with
                  | false =>
                    clear hbad
                    go_wp2_with (go_at_call 72; refine (HV.out _).mono ?_; rintro e w' ⟨rfl, rfl⟩)
                    go_ret
                    exact ⟨by rw [HR.out]; rfl, KA.out.trans HKA.out⟩
                  | true =>
                    rw [ha, va] at hbad
                    cases hb : (b != -1) with
                    | false => rw [hb] at hbad; simp at hbad
                    | true =>
                      cases vb : vB n b with
                      | true => rw [hb, vb] at hbad; simp at hbad
                      | false =>
                        clear hbad
                        go_wp2_with (go_at_call 72; refine (HV.out _).mono ?_; rintro e w' ⟨rfl, rfl⟩)
                        go_ret
                        exact ⟨by rw [HR.out]; rfl, KA.out.trans HKA.out⟩
            · have dk : (k == 1) = false := by rw [beq_eq_false_iff_ne]; exact hk1
              have dk2 : (k != 1) = true := by rw [bne_iff_ne]; exact hk1
              rw [if_neg hk1] at hbad
              have va : vB n a = false := by simpa using hbad
              clear hk1 hbad
              go_wp2_with (go_at_call 72; refine (HV.out _).mono ?_; rintro e w' ⟨rfl, rfl⟩)
              go_ret
              exact ⟨by rw [HR.out]; rfl, KA.out.trans HKA.out⟩
          | false =>
            have HV2 := Lib.hid (show lnF n p = if lnF n body ≠ 0 then lnF n body else if lnF n els ≠ 0 then lnF n els else lnF n rest by rw [HNF.out, if_neg (by rw [hbad]; simp)])
            have hcases : ((k == 1) = true ∧ (k != 1) = false ∧ vB n t = true ∧ ((a != -1) = false ∨ ((a != -1) = true ∧ vB n a = true)) ∧ ((b != -1) = false ∨ ((b != -1) = true ∧ vB n b = true))) ∨ ((k == 1) = false ∧ (k != 1) = true ∧ vB n a = true) := by
              rw [HAB.out] at hbad
              by_cases hk1 : k = 1
              · rw [if_pos hk1] at hbad
                refine .inl ⟨by rw [beq_iff_eq]; exact hk1, by rw [bne_eq_false_iff_eq]; exact hk1, ?_⟩
                revert hbad
                generalize vB n t = y1
                generalize (a != -1) = y2
                generalize vB n a = y3
                generalize (b != -1) = y4
                generalize vB n b = y5
                cases y1 <;> cases y2 <;> cases y3 <;> cases y4 <;> cases y5 <;> simp
              · rw [if_neg hk1] at hbad
                exact .inr ⟨by rw [beq_eq_false_iff_ne]; exact hk1, by rw [bne_iff_ne]; exact hk1, by simpa using hbad⟩
            clear hbad
            rcases hcases with ⟨dk, dk2, vt, ha | ⟨ha, va⟩, hb | ⟨hb, vb⟩⟩ | ⟨dk, dk2, va⟩
            all_goals
              go_wp2_with (go_at_call 72; refine (HV.out _).mono ?_; rintro e w' ⟨rfl, rfl⟩)
              clear d1 d2 dk dk2
              obtain ⟨w2, hw2⟩ : ∃ w2, ((wr.alloc (.cells #[.int .i64 k, .int .i64 t, .int .i64 a, .int .i64 b, .int .i64 v, .slice bA body.len bc, .slice eA els.len ec] 104)).alloc (.cells #[.slice bA body.len bc, .slice eA els.len ec] 55)) = w2 := ⟨_, rfl⟩
              rw [hw2] at BY KB ⊢
              generalize wr.heap.size + 1 = Y at BY ⊢
              have Y0 := Lib.hid (BY.out.at_ 0 (u := .slice bA body.len bc) rfl)
              have Y1 := Lib.hid (BY.out.at_ 1 (u := .slice eA els.len ec) rfl)
              have HB2 := Lib.hid (HBODY.out.kept KB.out)
              have HE2 := Lib.hid (HELS.out.kept KB.out)
              have N0 := Lib.hid ((BN.out.kept (HKW.out.trans KB.out)).at_ 0 (u := .int .i64 n) rfl)
              clear hw2 x0 x1 x2 x3 x5 x6 c0 c1 c2 c3 c4 c5 c6 BY HBODY HELS HV HNF HAB
              obtain ⟨wo, hwo⟩ : ∃ wo : World, wo = wr := ⟨_, rfl⟩
              subst hwo
              go_loopw [78] (fun t w3 => ∃ j : Nat, j ≤ 2 ∧ t = .int .i64 (j : Nat) ∧ Hid (Pn n body els j) ∧ Kept w2 w3) (fun t _ => 2 - (intOf t).toNat)
              case atStart => exact ⟨0, by omega, rfl, Lib.hid ⟨fun h => by omega, fun h => by omega⟩, Kept.refl _⟩
              case round =>
                obtain ⟨j, hj, rfl, HPJ, hk2⟩ := hrel
                by_cases hlt : j < 2
                · obtain ⟨pj, Aj, cj, cell, hsj, hwj, hne, hze⟩ := parts_ln ((hk2.cell (cell_lt Y0.out)).trans Y0.out) ((hk2.cell (cell_lt Y1.out)).trans Y1.out) (HB2.out.kept hk2) (HE2.out.kept hk2) HWB.out HWE.out HV2.out hlt HPJ.out
                  have n0 := (hk2.cell (cell_lt N0.out)).trans N0.out
                  have j1 : (0 : Int) ≤ (j : Int) := by omega
                  have j2 : (j : Int) < 2 := by omega
                  have HCALL := Lib.hid (HIH.out pj Aj cj wr hwj hsj)
                  have HNE := Lib.hid hne
                  have HZE := Lib.hid hze
                  have HK2 := Lib.hid hk2
                  have HJ := Lib.hid hlt
                  generalize lnF n pj = ee at HCALL HNE HZE
                  clear hne hze hk2 hlt hsj hwj
                  by_cases hee : ee = 0
                  · subst hee
                    have HPN := Lib.hid (HZE.out rfl)
                    go_wp2_with fail
                    refine HCALL.out.mono ?_
                    rintro e w5 ⟨rfl, k5⟩
                    go_wp2_with fail
                    go_roundw
                    case rel => exact ⟨j + 1, by have := HJ.out; omega, by go_num, HPN, HK2.out.trans k5⟩
                    case measure => have := HJ.out; simp [intOf]; omega
                  · have hne : (ee != 0) = true := by rw [bne_iff_ne]; exact hee
                    have HR := Lib.hid (HNE.out hee)
                    clear hee
                    go_wp2_with fail
                    refine HCALL.out.mono ?_
                    rintro e w5 ⟨rfl, k5⟩
                    go_wp2_with fail
                    go_ret
                    exact ⟨by rw [HR.out]; rfl, KA.out.trans (HKW.out.trans (KB.out.trans (HK2.out.trans k5)))⟩
                · have hj2 : j = 2 := by omega
                  subst hj2
                  have HGN := Lib.hid (HPJ.out.done HV2.out)
                  have HKE := Lib.hid ((HKW.out.trans KB.out).trans hk2)
                  clear hk2 hlt hj
                  go_wp2_with fail
                  go_roundw
                  case rel => exact ⟨rest, i + 1, HRL.out, by go_num, HRW.out, HREST.out, HGN, HKE.out⟩
                  case measure => have := HLT.out; simp [intOf]; omega
end Go.Proofs.Ytnnddjanbfamkaa
