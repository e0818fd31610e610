/- The walk of flow.size. -/
import Derived.Test.YtnnddjanbfamkaaFlowP
namespace Go.Proofs.Ytnnddjanbfamkaa
open Go Go.RowKit
set_option linter.unusedVariables false

theorem SlLn.open_ {w : World} {A : Option Addr} {p : Ln} (h : SlLn w A p) : ∃ B o, (0 < p.len → A = some ⟨B, o, none⟩) ∧ LnAt w p B o := by
  cases p with
  | nil => exact ⟨0, 0, fun h => absurd h (by show ¬ 0 < 0; omega), trivial⟩
  | cons k t a b v bA bc body eA ec els rest =>
    obtain ⟨B, o, e, hat⟩ := h.2 (by show 0 < rest.len + 1; omega)
    exact ⟨B, o, fun _ => e, hat⟩
theorem sz_big {p : Ln} {deep : Nat} (h : 12 < p.len ∨ 4 < deep) : sz p deep = ((p.len : Int), deep) := by unfold sz szS; rw [if_pos h]
theorem sz_small {p : Ln} {deep : Nat} (h : ¬ (12 < p.len ∨ 4 < deep)) : sz p deep = szG p deep ((p.len : Int), deep) := by unfold sz szS; rw [if_neg h]
/-- one line, in memory -/
def lnV (k t a b v : Int) (bA : Option Addr) (bc bl : Nat) (eA : Option Addr) (ec el : Nat) : Array Value := #[.int .i64 k, .int .i64 t, .int .i64 a, .int .i64 b, .int .i64 v, .slice bA bl bc, .slice eA el ec]
/-- both parts of a line, one by one -/
def mdP (deep : Nat) (body els : Ln) (md : Int × Nat) (j : Nat) : Int × Nat := if j = 0 then md else if j = 1 then szA body.len (sz body (deep + 1)) md else szA els.len (sz els (deep + 1)) (szA body.len (sz body (deep + 1)) md)
theorem parts_at {w : World} {Y : Nat} {bA eA : Option Addr} {bc ec : Nat} {body els : Ln} {f : Nat} (y0 : w.cell? ⟨Y, 0, none⟩ = some (.slice bA body.len bc)) (y1 : w.cell? ⟨Y, 1, none⟩ = some (.slice eA els.len ec)) (h0 : SlLn w bA body) (h1 : SlLn w eA els) (w0 : body.wt < f) (w1 : els.wt < f) (deep : Nat) (md : Int × Nat) {j : Nat} (hj : j < 2) :
    ∃ (pj : Ln) (Aj : Option Addr) (cj : Nat), w.cell? ⟨Y, j, none⟩ = some (.slice Aj pj.len cj) ∧ SlLn w Aj pj ∧ pj.wt < f ∧ mdP deep body els md (j + 1) = szA pj.len (sz pj (deep + 1)) (mdP deep body els md j) := by
  obtain rfl | rfl : j = 0 ∨ j = 1 := by omega
  · exact ⟨body, bA, bc, y0, h0, w0, rfl⟩
  · exact ⟨els, eA, ec, y1, h1, w1, rfl⟩
theorem szA_no {len : Nat} {s md : Int × Nat} (h : ¬ 0 < len) : szA len s md = md := by unfold szA; rw [if_neg h]
theorem szA_yes {len : Nat} {s md : Int × Nat} (h : 0 < len) : szA len s md = (wrap64 (md.1 + s.1), max md.2 s.2) := by unfold szA; rw [if_pos h]
set_option maxRecDepth 100000 in
set_option maxHeartbeats 8000000 in
theorem size_any : ∀ (f : Nat) (p : Ln) (A : Option Addr) (c deep : Nat) (dv : Int) (w : World), p.wt < f → dv = (deep : Int) → deep ≤ 5 → SlLn w A p →
    Calls Try.prog 63 #[.slice A p.len c, .int .i64 dv] w fun e w' => e = .returned (.tuple #[.int .i64 (sz p deep).1, .int .i64 ((sz p deep).2 : Nat)]) ∧ Kept w w' := by
  intro f
  induction f with
  | zero => intro p A c deep dv w h; omega
  | succ f ih =>
    intro p A c deep dv w hwt hdv hd5 hs
    subst hdv
    have HIH := Lib.hid ih
    have HWT := Lib.hid hwt
    have HML := Lib.hid hs.1
    clear ih hwt
    by_cases hbig : 12 < p.len ∨ 4 < deep
    · have HB := Lib.hid (sz_big hbig)
      rw [HB.out]
      clear hs
      by_cases h1 : 12 < p.len
      · have e1 : decide (12 < (p.len : Int)) = true := by rw [decide_eq_true_eq]; omega
        clear hbig h1
        go_enter Try.func63, Try.ntmps63
        go_wp2_with fail
        go_ret2
        exact ⟨rfl, Kept.refl _⟩
      · have e1 : decide (12 < (p.len : Int)) = false := by rw [decide_eq_false_iff_not]; omega
        have e2 : decide (4 < (deep : Int)) = true := by rw [decide_eq_true_eq]; omega
        clear hbig h1
        go_enter Try.func63, Try.ntmps63
        go_wp2_with fail
        go_ret2
        exact ⟨rfl, Kept.refl _⟩
    · have HB := Lib.hid (sz_small hbig)
      have e1 : decide (12 < (p.len : Int)) = false := by rw [decide_eq_false_iff_not]; omega
      have e2 : decide (4 < (deep : Int)) = false := by rw [decide_eq_false_iff_not]; omega
      have hp12 : p.len ≤ 12 := by omega
      have hd4 : deep ≤ 4 := by omega
      rw [HB.out]
      obtain ⟨B, o, hA, hat⟩ := hs.open_
      have HA := Lib.hid hA
      have HAT := Lib.hid hat
      clear hbig hs hA hat
      go_enter Try.func63, Try.ntmps63
      go_wp2_with fail
      clear e1 e2
      go_loopw [6, 7, 27] (fun mv dv t wr => ∃ (q : Ln) (i : Nat) (md : Int × Nat), i + q.len = p.len ∧ t = .int .i64 (i : Nat) ∧ mv = .int .i64 md.1 ∧ dv = .int .i64 (md.2 : Nat) ∧ q.wt ≤ p.wt ∧ LnAt w q B (o + i * 7) ∧ Hid (szG q deep md = szG p deep ((p.len : Int), deep)) ∧ Kept w wr) (fun _ _ t _ => p.len - (intOf t).toNat)
      case atStart => exact ⟨p, 0, ((p.len : Int), deep), by omega, rfl, rfl, rfl, Nat.le_refl _, by simpa using HAT.out, Lib.hid rfl, Kept.refl _⟩
      case round =>
        obtain ⟨q, i, md, hiq, rfl, rfl, rfl, hqw, hat, HG, hkw⟩ := hrel
        cases q with
        | nil =>
          have hip : i = p.len := hiq
          subst hip
          have HG2 := Lib.hid (show szG p deep ((p.len : Int), deep) = md from HG.out.symm)
          have HKW := Lib.hid hkw
          clear hat hkw hiq hqw
          go_wp2_with fail
          go_ret2
          exact ⟨by rw [HG2.out]; rfl, HKW.out⟩
        | cons k t a b v bA bc body eA ec els rest =>
          have hil : i + (rest.len + 1) = p.len := hiq
          have hlt : i < p.len := by omega
          have HLT := Lib.hid hlt
          have hA2 := HA.out (by omega)
          subst hA2
          have hw2 : body.wt + els.wt + rest.wt + 1 ≤ p.wt := hqw
          have hwf := HWT.out
          obtain ⟨⟨c0, c1, c2, c3, c4, c5, c6⟩, hb, he, lb, le, hr⟩ := hat.kept hkw
          have HBODY := Lib.hid (show SlLn wr bA body from ⟨lb, hb⟩)
          have HELS := Lib.hid (show SlLn wr eA els from ⟨le, he⟩)
          have HWB := Lib.hid (show body.wt < f by omega)
          have HWE := Lib.hid (show els.wt < f by omega)
          have HREST := Lib.hid (show LnAt w rest B (o + (i + 1) * 7) by
            obtain ⟨_, _, _, _, _, hr⟩ := hat
            rw [show o + (i + 1) * 7 = o + i * 7 + 7 by omega]
            exact hr)
          have HRW := Lib.hid (show rest.wt ≤ p.wt by omega)
          have HRL := Lib.hid (show i + 1 + rest.len = p.len by omega)
          have HG3 := Lib.hid (show szG rest deep (mdP deep body els md 2) = szG p deep ((p.len : Int), deep) from HG.out)
          have HKW := Lib.hid hkw
          have bx := Box.new wr (lnV k t a b v bA bc body.len eA ec els.len) 104 wr.heap.size rfl
          have x5 := bx.at_ 5 (u := .slice bA body.len bc) rfl
          have x6 := bx.at_ 6 (u := .slice eA els.len ec) rfl
          have ka : Kept wr (wr.alloc (.cells (lnV k t a b v bA bc body.len eA ec els.len) 104)) := (Kept.refl _).alloc _
          have by2 := Box.new (wr.alloc (.cells (lnV k t a b v bA bc body.len eA ec els.len) 104)) #[.slice bA body.len bc, .slice eA els.len ec] 55 (wr.heap.size + 1) (by simp)
          have KB := Lib.hid (show Kept wr ((wr.alloc (.cells (lnV k t a b v bA bc body.len eA ec els.len) 104)).alloc (.cells #[.slice bA body.len bc, .slice eA els.len ec] 55)) from ka.alloc _)
          have BY := Lib.hid by2
          unfold lnV at x5 x6 BY KB
          clear bx by2 hat hkw hiq hqw hil hlt hw2 hwf hb he lb le hr ka
          go_wp2_with fail
          obtain ⟨w2, hw2⟩ : ∃ w2, ((wr.alloc (.cells #[.int .i64 k, .int .i64 t, .int .i64 a, .int .i64 b, .int .i64 v, .slice bA body.len bc, .slice eA els.len ec] 104)).alloc (.cells #[.slice bA body.len bc, .slice eA els.len ec] 55)) = w2 := ⟨_, rfl⟩
          rw [hw2] at BY KB ⊢
          generalize wr.heap.size + 1 = Y at BY ⊢
          have Y0 := Lib.hid (BY.out.at_ 0 (u := .slice bA body.len bc) rfl)
          have Y1 := Lib.hid (BY.out.at_ 1 (u := .slice eA els.len ec) rfl)
          have HB2 := Lib.hid (HBODY.out.kept KB.out)
          have HE2 := Lib.hid (HELS.out.kept KB.out)
          have HYL := Lib.hid BY.out.1
          clear hw2 x5 x6 c0 c1 c2 c3 c4 c5 c6 BY HBODY HELS HA
          obtain ⟨wo, hwo⟩ : ∃ wo : World, wo = wr := ⟨_, rfl⟩
          subst hwo
          go_loopw [6, 7, 37] (fun mv dv t w3 => ∃ (j : Nat) (mj : Int × Nat), j ≤ 2 ∧ t = .int .i64 (j : Nat) ∧ mv = .int .i64 mj.1 ∧ dv = .int .i64 (mj.2 : Nat) ∧ Hid (mj = mdP deep body els md j) ∧ Kept w2 w3) (fun _ _ t _ => 2 - (intOf t).toNat)
          case atStart => exact ⟨0, md, by omega, rfl, rfl, rfl, Lib.hid rfl, Kept.refl _⟩
          case round =>
            obtain ⟨j, mj, hj, rfl, rfl, rfl, HMJ, hk2⟩ := hrel
            by_cases hlt : j < 2
            · obtain ⟨pj, Aj, cj, cell, hsj, hwj, hstep⟩ := parts_at ((hk2.cell (cell_lt Y0.out)).trans Y0.out) ((hk2.cell (cell_lt Y1.out)).trans Y1.out) (HB2.out.kept hk2) (HE2.out.kept hk2) HWB.out HWE.out deep md hlt
              have j1 : (0 : Int) ≤ (j : Int) := by omega
              have j2 : (j : Int) < 2 := by omega
              have HST := Lib.hid hstep
              have HK2 := Lib.hid hk2
              have HJ := Lib.hid hlt
              clear hstep
              by_cases h0 : 0 < pj.len
              · have g0 : decide (0 < pj.len) = true := by rw [decide_eq_true_eq]; exact h0
                have HCALL := Lib.hid (HIH.out pj Aj cj (deep + 1) ((deep : Int) + 1) wr hwj (by omega) (by omega) hsj)
                have HSY := Lib.hid (show mdP deep body els md (j + 1) = (wrap64 (mj.1 + (sz pj (deep + 1)).1), max mj.2 (sz pj (deep + 1)).2) by rw [HST.out, szA_yes h0, ← HMJ.out])
                generalize sz pj (deep + 1) = s at HCALL HSY
                obtain ⟨s1, s2⟩ := s
                obtain ⟨m1, m2⟩ := mj
                simp only at HCALL HSY
                clear hk2 hlt h0 hsj hwj
                by_cases hmx : m2 < s2
                · have i2 : (m2 : Int) < (s2 : Int) := by omega
                  have HSZ := Lib.hid (show (wrap64 (m1 + s1), s2) = mdP deep body els md (j + 1) by rw [HSY.out, Nat.max_eq_right (by omega)])
                  go_wp2_with fail
                  refine HCALL.out.mono ?_
                  rintro e w5 ⟨rfl, k5⟩
                  go_wp2_with fail
                  go_roundw
                  case rel => exact ⟨j + 1, (wrap64 (m1 + s1), s2), by have := HJ.out; omega, by go_num, rfl, rfl, HSZ, HK2.out.trans k5⟩
                  case measure => have := HJ.out; simp [intOf]; omega
                · have i2 : ¬ ((m2 : Int) < (s2 : Int)) := by omega
                  have HSZ := Lib.hid (show (wrap64 (m1 + s1), m2) = mdP deep body els md (j + 1) by rw [HSY.out, Nat.max_eq_left (by omega)])
                  go_wp2_with fail
                  refine HCALL.out.mono ?_
                  rintro e w5 ⟨rfl, k5⟩
                  go_wp2_with fail
                  go_roundw
                  case rel => exact ⟨j + 1, (wrap64 (m1 + s1), m2), by have := HJ.out; omega, by go_num, rfl, rfl, HSZ, HK2.out.trans k5⟩
                  case measure => have := HJ.out; simp [intOf]; omega
              · have g0 : decide (0 < pj.len) = false := by rw [decide_eq_false_iff_not]; exact h0
                have HSZ := Lib.hid (show mj = mdP deep body els md (j + 1) by rw [HST.out, szA_no h0, ← HMJ.out])
                clear hk2 hlt h0 hsj hwj
                go_wp2_with fail
                go_roundw
                case rel => exact ⟨j + 1, mj, by have := HJ.out; omega, by go_num, rfl, rfl, HSZ, HK2.out⟩
                case measure => have := HJ.out; simp [intOf]; omega
            · have hj2 : j = 2 := by omega
              subst hj2
              have HGN := Lib.hid (show szG rest deep mj = szG p deep ((p.len : Int), deep) by rw [HMJ.out]; exact HG3.out)
              have HKE := Lib.hid ((HKW.out.trans KB.out).trans hk2)
              clear hk2 hlt hj
              go_wp2_with fail
              go_roundw
              case rel => exact ⟨rest, i + 1, mj, HRL.out, by go_num, rfl, rfl, HRW.out, HREST.out, HGN, HKE.out⟩
              case measure => have := HLT.out; simp [intOf]; omega
end Go.Proofs.Ytnnddjanbfamkaa
