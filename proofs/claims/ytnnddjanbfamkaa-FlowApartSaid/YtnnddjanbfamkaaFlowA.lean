/- The walk of flow.run: its lines. -/
import Derived.Test.YtnnddjanbfamkaaFlow9
import Derived.OwnWalk
namespace Go.Proofs.Ytnnddjanbfamkaa
open Go Go.RowKit
set_option linter.unusedVariables false

def RetRun (w0 w : World) (V n cv : Nat) (vs : Nat → Int) (e : Ending) (w' : World) : Prop := e = .returned (.tuple #[]) ∧ VarO w0 w' V n cv vs ∧ But w.heap.size V w w'
set_option maxRecDepth 100000 in
set_option maxHeartbeats 16000000 in
theorem run_any (w0 : World) (V n cv : Nat) (hn1 : 1 ≤ n) (hn6 : n ≤ 6) : ∀ (f : Nat) (p : Ln) (A : Option Addr) (c : Nat) (vs : Nat → Int) (w : World), p.wt < f → SlLn w0 A p → lnF (n : Int) p = 0 → Rng vs → VarO w0 w V n cv vs →
    Calls Try.prog 57 #[.slice A p.len c, .slice (some ⟨V, 0, none⟩) n cv] w (RetRun w0 w V n cv (runL p vs)) := by
  intro f
  induction f with
  | zero => intro p A c vs w h; omega
  | succ f ih =>
    intro p A c vs w hwt hs hln hrg hv
    have HIH := Lib.hid ih
    have HWT := Lib.hid hwt
    have hml : p.len ≤ 9223372036854775807 := hs.1
    obtain ⟨B, o, hA, hat⟩ := hs.open_
    have HA := Lib.hid hA
    have HAT := Lib.hid hat
    have HLN := Lib.hid hln
    have HRG := Lib.hid hrg
    have HV0 := Lib.hid hv
    clear ih hwt hs hA hat hln hrg hv
    go_enter Try.func57, Try.ntmps57
    go_wp2_with fail
    go_loopw [8] (fun t wr => ∃ (q : Ln) (i : Nat) (us : Nat → Int), i + q.len = p.len ∧ t = .int .i64 (i : Nat) ∧ q.wt ≤ p.wt ∧ LnAt w0 q B (o + i * 7) ∧ Hid (lnF (n : Int) q = 0) ∧ Hid (Rng us) ∧ VarO w0 wr V n cv us ∧ Hid (runL q us = runL p vs) ∧ But w.heap.size V w wr) (fun t _ => p.len - (intOf t).toNat)
    case atStart => exact ⟨p, 0, vs, by omega, rfl, Nat.le_refl _, by simpa using HAT.out, HLN, HRG, HV0.out, Lib.hid rfl, But.start _ _⟩
    case round =>
      obtain ⟨q, i, us, hiq, rfl, hqw, hat, HQL, HRU, hv, HG, hbut⟩ := hrel
      cases q with
      | nil =>
        have hip : i = p.len := hiq
        subst hip
        have HR := Lib.hid (show RetRun w0 w V n cv (runL p vs) (.returned (.tuple #[])) wr from ⟨rfl, (show us = runL p vs from HG.out) ▸ hv, hbut⟩)
        clear hat hv hbut hiq hqw
        go_wp2_with fail
        go_end0
        exact HR.out
      | cons k t a b v bA bc body eA ec els rest =>
        have hil : i + (rest.len + 1) = p.len := hiq
        have hlt : i < p.len := by omega
        have HLT := Lib.hid hlt
        have hA2 := HA.out (by omega)
        subst hA2
        have hw2' : body.wt + els.wt + rest.wt + 1 ≤ p.wt := hqw
        have hwf := HWT.out
        have HREST := Lib.hid (show LnAt w0 rest B (o + (i + 1) * 7) by
          obtain ⟨_, _, _, _, _, hr⟩ := hat
          rw [show o + (i + 1) * 7 = o + i * 7 + 7 by omega]
          exact hr)
        have HBODY := Lib.hid (show SlLn w0 bA body by obtain ⟨_, hb, he, lb, le, hr⟩ := hat; exact ⟨lb, hb⟩)
        have HELS := Lib.hid (show SlLn w0 eA els by obtain ⟨_, hb, he, lb, le, hr⟩ := hat; exact ⟨le, he⟩)
        obtain ⟨⟨c0, c1, c2, c3, c4, c5, c6⟩, _⟩ := hat.kept hv.2
        have HRW := Lib.hid (show rest.wt ≤ p.wt by omega)
        have HRL := Lib.hid (show i + 1 + rest.len = p.len by omega)
        have HWB := Lib.hid (show body.wt < f by omega)
        have HWE := Lib.hid (show els.wt < f by omega)
        obtain ⟨hk3, harg, l1, l2, l3⟩ := lnF_zero HQL.out
        have HL1 := Lib.hid l1
        have HL3 := Lib.hid l2
        have HLR := Lib.hid l3
        have bx := Box.new wr (lnV k t a b v bA bc body.len eA ec els.len) 104 wr.heap.size rfl
        have ka : Kept wr (wr.alloc (.cells (lnV k t a b v bA bc body.len eA ec els.len) 104)) := (Kept.refl _).alloc _
        have BX := Lib.hid bx
        have HVA := Lib.hid (hv.kept ka)
        have HXL := Lib.hid (show wr.heap.size ≠ V by have := hv.lt (by omega); omega)
        have HBUT := Lib.hid (hbut.kept ka)
        unfold lnV at BX HVA HBUT
        obtain ⟨w3, hw3⟩ : ∃ w3, wr.alloc (.cells #[.int .i64 k, .int .i64 t, .int .i64 a, .int .i64 b, .int .i64 v, .slice bA body.len bc, .slice eA els.len ec] 104) = w3 := ⟨_, rfl⟩
        rw [hw3] at BX HVA HBUT
        have x0 := BX.out.at_ 0 (u := .int .i64 k) rfl
        have HG2 := Lib.hid (show runL rest (stepR (runL body) (runL els) k t a b v us) = runL p vs from HG.out)
        have HRG2 := Lib.hid (show Rng (stepR (runL body) (runL els) k t a b v us) from Rng.run (.cons k t a b v none 0 body none 0 els .nil) us HRU.out)
        have HK3 := Lib.hid hk3
        have HARG := Lib.hid harg
        clear bx ka hat hv hbut hiq hqw hil hlt hw2' hwf hk3 harg l1 l2 l3
        by_cases hk : k = 1
        · have dk : (k == 1) = true := by rw [beq_iff_eq]; exact hk
          have hat1 := argB_set HARG.out hk
          obtain ⟨tn, rfl⟩ := Int.eq_ofNat_of_zero_le hat1.1.1
          have htn : tn < n := by have := hat1.1.2; omega
          have HVAA := Lib.hid (fun w' (kk : Kept w3 w') => (val_any w0 V n cv us a (by have := hat1.2.1; omega) w' (HVA.out.kept kk)).mono fun _ _ h => (⟨h.1, h.2.symm⟩ : _ ∧ _ = w'))
          have HVAB := Lib.hid (fun w' (kk : Kept w3 w') => (val_any w0 V n cv us b (by have := hat1.2.2; omega) w' (HVA.out.kept kk)).mono fun _ _ h => (⟨h.1, h.2.symm⟩ : _ ∧ _ = w'))
          have HSTEP := Lib.hid (show stepR (runL body) (runL els) k (tn : Int) a b v us = updI us tn (bits .and .i64 (wrap64 (wrap64 (valI us a + valI us b) + bits .and .i64 v 7)) 7) by unfold stepR; rw [if_pos hk, Int.toNat_natCast]; rfl)
          rw [HSTEP.out] at HG2 HRG2
          have x1 := BX.out.at_ 1 (u := .int .i64 (tn : Int)) rfl
          have x2 := BX.out.at_ 2 (u := .int .i64 a) rfl
          have x3 := BX.out.at_ 3 (u := .int .i64 b) rfl
          have x4 := BX.out.at_ 4 (u := .int .i64 v) rfl
          have q0 := HVA.out.at_ htn
          have fq0 := HVA.out.free tn
          have j1 : (0 : Int) ≤ (tn : Int) := by omega
          have j2 : (tn : Int) < (n : Int) := by omega
          generalize valI us a = va at HVAA HG2 HRG2
          generalize valI us b = vb at HVAB HG2 HRG2
          generalize us tn = ut at q0
          clear hk hat1 htn HSTEP
          go_wp2_with fail
          refine wp_region_still_tail 18 (by kernel_rfl) (by kernel_rfl) ?_
          simp only [List.take_succ_cons, List.take_zero, List.drop_succ_cons, List.drop_zero]
          repeat still_step
          still_call (HVAA.out _ (Kept.refl _).drew)
          repeat still_step
          still_call (HVAB.out _ (Kept.refl _).drew)
          repeat still_step
          refine wpStill_nil ?_
          have HVD := Lib.hid (HVA.out.kept (Kept.refl _).drew)
          have HBD := Lib.hid (HBUT.out.kept (Kept.refl _).drew)
          clear x1 x2 x3 x4
          go_wp2_with fail
          go_roundw
          case rel => exact ⟨rest, i + 1, _, HRL.out, by go_num, HRW.out, HREST.out, HLR, HRG2, HVD.out.put tn _, HG2, HBD.out.set tn _⟩
          case measure => have := HLT.out; simp [intOf]; omega
        · have dk : (k == 1) = false := by rw [beq_eq_false_iff_ne]; exact hk
          have har := argB_other HARG.out hk
          obtain ⟨an, rfl⟩ := Int.eq_ofNat_of_zero_le har.1
          have han : an < n := by have := har.2; omega
          have x2 := BX.out.at_ 2 (u := .int .i64 (an : Int)) rfl
          have x5 := BX.out.at_ 5 (u := .slice bA body.len bc) rfl
          have x6 := BX.out.at_ 6 (u := .slice eA els.len ec) rfl
          have q0 := HVA.out.at_ han
          have hrv := HRU.out an
          have j1 : (0 : Int) ≤ (an : Int) := by omega
          have j2 : (an : Int) < (n : Int) := by omega
          have HSTEP := Lib.hid (show stepR (runL body) (runL els) k (t : Int) (an : Int) b v us = if k = 2 then (if us an ≠ 0 then runL body us else runL els us) else if k = 3 then iterI (runL body) (us an).toNat us else us by unfold stepR; rw [if_neg hk, Int.toNat_natCast])
          rw [HSTEP.out] at HG2 HRG2
          by_cases hk2 : k = 2
          · have dk2 : (k == 2) = true := by rw [beq_iff_eq]; exact hk2
            rw [if_pos hk2] at HG2 HRG2
            by_cases hz : us an = 0
            · rw [if_neg (fun h => h hz)] at HG2 HRG2
              rw [hz] at q0
              have HR := Lib.hid (HIH.out els eA ec us w3 HWE.out HELS.out HL3.out HRU.out HVA.out)
              clear hk hk2 hz har han HSTEP hrv x5
              go_wp2_with fail
              refine HR.out.mono ?_
              rintro e w5 ⟨rfl, hv5, hb5⟩
              have HV5 := Lib.hid hv5
              have HB5 := Lib.hid (HBUT.out.trans hb5)
              clear hv5 hb5 q0 x0 x2 x6 c0 c1 c2 c3 c4 c5 c6
              go_wp2_with fail
              go_roundw
              case rel => exact ⟨rest, i + 1, _, HRL.out, by go_num, HRW.out, HREST.out, HLR, HRG2, HV5.out, HG2, HB5.out⟩
              case measure => have := HLT.out; simp [intOf]; omega
            · have hzn : (us an != 0) = true := by rw [bne_iff_ne]; exact hz
              rw [if_pos hz] at HG2 HRG2
              have HR := Lib.hid (HIH.out body bA bc us w3 HWB.out HBODY.out HL1.out HRU.out HVA.out)
              generalize us an = ua at q0 hzn
              clear hk hk2 hz har han HSTEP hrv x6
              go_wp2_with fail
              refine HR.out.mono ?_
              rintro e w5 ⟨rfl, hv5, hb5⟩
              have HV5 := Lib.hid hv5
              have HB5 := Lib.hid (HBUT.out.trans hb5)
              clear hv5 hb5 q0 x0 x2 x5 c0 c1 c2 c3 c4 c5 c6 hzn
              go_wp2_with fail
              go_roundw
              case rel => exact ⟨rest, i + 1, _, HRL.out, by go_num, HRW.out, HREST.out, HLR, HRG2, HV5.out, HG2, HB5.out⟩
              case measure => have := HLT.out; simp [intOf]; omega
          · have dk2 : (k == 2) = false := by rw [beq_eq_false_iff_ne]; exact hk2
            have hk3 : k = 3 := by have := HK3.out; omega
            have dk3 : (k == 3) = true := by rw [beq_iff_eq]; exact hk3
            rw [if_neg hk2, if_pos hk3] at HG2 HRG2
            obtain ⟨m, hm⟩ := Int.eq_ofNat_of_zero_le hrv.1
            have hm7 : m ≤ 7 := by have := hrv.2; omega
            rw [hm, Int.toNat_natCast] at HG2 HRG2
            rw [hm] at q0
            have HBX := BX
            clear hk hk2 hk3 har han HSTEP hrv hm x6
            go_wp2_with fail
            generalize wr.heap.size = X at HXL HBX ⊢
            clear q0 x0 x2 x5 c0 c1 c2 c3 c4 c5 c6 dk dk2 dk3
            obtain ⟨wo, hwo⟩ : ∃ wo : World, wo = wr := ⟨_, rfl⟩
            go_loopw [57] (fun t w9 => ∃ z : Nat, z ≤ m ∧ t = .int .i64 (z : Nat) ∧ VarO w0 w9 V n cv (iterI (runL body) z us) ∧ But w3.heap.size V w3 w9) (fun t _ => m - (intOf t).toNat)
            case atStart => exact ⟨0, Nat.zero_le _, rfl, HVA.out, But.start _ _⟩
            case round =>
              obtain ⟨z, hz, rfl, hvz, hbz⟩ := hrel
              by_cases hlt : z < m
              · have hbx := HBX.out.but hbz HXL.out
                have x5 := hbx.at_ 5 (u := .slice bA body.len bc) rfl
                have hrz := Rng.iter (f := runL body) (fun u hu => Rng.run body u hu) z us HRU.out
                have HR := Lib.hid (HIH.out body bA bc _ wr HWB.out HBODY.out HL1.out hrz hvz)
                have HBZ := Lib.hid hbz
                have HZ := Lib.hid hlt
                clear hbx hrz hvz hbz
                go_wp2_with fail
                refine HR.out.mono ?_
                rintro e w5 ⟨rfl, hv5, hb5⟩
                have HV5 := Lib.hid hv5
                have HB5 := Lib.hid (HBZ.out.trans hb5)
                clear hv5 hb5 x5
                go_wp2_with fail
                go_roundw
                case rel => exact ⟨z + 1, HZ.out, by go_num, HV5.out, HB5.out⟩
                case measure => have := HZ.out; simp [intOf]; omega
              · have hzm : m = z := by omega
                subst hzm
                have HVZ := Lib.hid hvz
                have HB5 := Lib.hid (HBUT.out.trans hbz)
                clear hvz hbz
                go_wp2_with fail
                go_roundw
                case rel => exact ⟨rest, i + 1, _, HRL.out, by go_num, HRW.out, HREST.out, HLR, HRG2, HVZ.out, HG2, HB5.out⟩
                case measure => have := HLT.out; simp [intOf]; omega
end Go.Proofs.Ytnnddjanbfamkaa
