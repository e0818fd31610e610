/- The walk of flow.raise. -/
import Derived.Test.YtnnddjanbfamkaaFlow6
import Derived.Deep.CutRange
import Derived.Test.YtnnddjanbfamkaaTail
namespace Go.Proofs.Ytnnddjanbfamkaa
open Go Go.RowKit
set_option linter.unusedVariables false
set_option linter.unusedSimpArgs false

theorem But.trans {S L : Nat} {w w1 w2 : World} (h : But S L w w1) (k : But w1.heap.size L w1 w2) : But S L w w2 :=
  ⟨fun i h1 h2 => (k.1 i (Nat.lt_of_lt_of_le h1 h.2) h2).trans (h.1 i h1 h2), Nat.le_trans h.2 k.2⟩
theorem But.of_kept {L : Nat} {w w1 : World} (k : Kept w w1) : But w.heap.size L w w1 := (But.start w L).kept k
theorem LabO.lt {w0 w : World} {L n cl : Nat} {lab : Nat → Lab} (h : LabO w0 w L n cl lab) (hn : 0 < n) : L < w.heap.size := by
  obtain ⟨g, e, _, h2⟩ := Own.block h hn
  injection e with e
  injection e with e
  rw [e]; exact h2
theorem BoxC.but {w w' : World} {Bc Bl L n cl : Nat} {cc : Lab} (h : BoxC w Bc Bl L n cl cc) (hb : But w.heap.size L w w') (h1 : Bc ≠ L) (h2 : Bl ≠ L) : BoxC w' Bc Bl L n cl cc :=
  ⟨(hb.cell (p := ⟨Bc, 0, none⟩) (cell_lt h.1) h1).trans h.1, (hb.cell (p := ⟨Bc, 1, none⟩) (cell_lt h.2.1) h1).trans h.2.1, (hb.cell (p := ⟨Bl, 0, none⟩) (cell_lt h.2.2) h2).trans h.2.2⟩
theorem Box.but {w w' : World} {B L : Nat} {cs : Array Value} (h : Box w B cs) (hb : But w.heap.size L w w') (hne : B ≠ L) : Box w' B cs := by
  refine ⟨Nat.lt_of_lt_of_le h.1 hb.2, fun i u hu => (hb.cell (p := ⟨B, i, none⟩) h.1 hne).trans (h.2.1 i u hu), fun i => ?_⟩
  have := h.2.2 i
  unfold World.frozen? at this ⊢
  rw [hb.1 B h.1 hne]
  exact this
theorem rowNewL (w3 w : World) (k : Kept w3 w) : Row w3 (w.alloc (.cells #[.int .i64 0, .int .u32 0] 24)) w.heap.size 24 [.int .i64 0, .int .u32 0] := Row.new k 24 [.int .i64 0, .int .u32 0] _ rfl
/-- what raise answers -/
def RetRs (w0 w : World) (L n cl : Nat) (r : Bool × (Nat → Lab)) (e : Ending) (w' : World) : Prop := e = .returned (.bool r.1) ∧ LabO w0 w' L n cl r.2 ∧ But w.heap.size L w w'
theorem rsG_other {k t a b v : Int} {bA eA : Option Addr} {bc ec : Nat} {body els rest : Ln} {cc : Lab} {s : Bool × (Nat → Lab)} (hk : k ≠ 1) :
    rsG (.cons k t a b v bA bc body eA ec els rest) cc s = rsG rest cc (if k = 2 then ((rsL els (rsL body s.2 (ofL s.2 cc a)).2 (ofL s.2 cc a)).1 && ((rsL body s.2 (ofL s.2 cc a)).1 && s.1), (rsL els (rsL body s.2 (ofL s.2 cc a)).2 (ofL s.2 cc a)).2) else ((rsL body s.2 (ofL s.2 cc a)).1 && s.1, (rsL body s.2 (ofL s.2 cc a)).2)) := by
  show rsG rest cc (stepS _ _ k t a b cc s) = _
  unfold stepS
  rw [if_neg hk]
  rfl
theorem rsG_set {k t a b v : Int} {bA eA : Option Addr} {bc ec : Nat} {body els rest : Ln} {cc : Lab} {s : Bool × (Nat → Lab)} (hk : k = 1) :
    rsG (.cons k t a b v bA bc body eA ec els rest) cc s = rsG rest cc (if leB (joinL (ofL s.2 cc a) (ofL s.2 cc b)) (s.2 t.toNat) = true then s else (false, updLb s.2 t.toNat (joinL (s.2 t.toNat) (joinL (ofL s.2 cc a) (ofL s.2 cc b))))) := by
  show rsG rest cc (stepS _ _ k t a b cc s) = _
  unfold stepS
  rw [if_pos hk]
set_option maxRecDepth 100000 in
set_option maxHeartbeats 16000000 in
theorem raise_any (w0 : World) (L n cl : Nat) (hn1 : 1 ≤ n) (hn6 : n ≤ 6) : ∀ (f : Nat) (p : Ln) (A : Option Addr) (c : Nat) (cc : Lab) (lab : Nat → Lab) (w : World), p.wt < f → SlLn w0 A p → lnF (n : Int) p = 0 → LabO w0 w L n cl lab →
    Calls Try.prog 50 #[.slice A p.len c, .slice (some ⟨L, 0, none⟩) n cl, .agg #[.int .i64 cc.1, .int .u32 (W cc.2)]] w (RetRs w0 w L n cl (rsL p lab cc)) := by
  intro f
  induction f with
  | zero => intro p A c cc lab w h; omega
  | succ f ih =>
    intro p A c cc lab w hwt hs hln hl
    have HIH := Lib.hid ih
    have HWT := Lib.hid hwt
    have hml : p.len ≤ 9223372036854775807 := hs.1
    obtain ⟨B, o, hA, hat⟩ := hs.open_
    have HA := Lib.hid hA
    have HAT := Lib.hid hat
    have HLN := Lib.hid hln
    have hLw := hl.lt (by omega)
    have hka : Kept w ((w.alloc (.cells #[.slice (some ⟨L, 0, none⟩) n cl] 36)).alloc (.cells #[.int .i64 cc.1, .int .u32 (W cc.2)] 24)) := ((Kept.refl _).alloc _).alloc _
    have hbx := boxes2 (Kept.refl ((w.alloc (.cells #[.slice (some ⟨L, 0, none⟩) n cl] 36)).alloc (.cells #[.int .i64 cc.1, .int .u32 (W cc.2)] 24)))
    have HBC := Lib.hid (show BoxC _ (w.heap.size + 1) w.heap.size L n cl cc from ⟨hbx.2.at_ 0 rfl, hbx.2.at_ 1 rfl, hbx.1.at_ 0 rfl⟩)
    have HNE := Lib.hid (show w.heap.size + 1 ≠ L ∧ w.heap.size ≠ L by omega)
    have HL2 := Lib.hid (hl.kept hka)
    have HBW := Lib.hid (But.of_kept (L := L) hka)
    clear ih hwt hs hA hat hln hl hka hbx hLw
    go_enter Try.func50, Try.ntmps50
    go_wp2_with fail
    obtain ⟨w2, hw2⟩ : ∃ w2, ((w.alloc (.cells #[.slice (some ⟨L, 0, none⟩) n cl] 36)).alloc (.cells #[.int .i64 cc.1, .int .u32 (W cc.2)] 24)) = w2 := ⟨_, rfl⟩
    rw [hw2] at HBC HL2 HBW ⊢
    clear hw2
    generalize w.heap.size + 1 = Bc at HBC HNE ⊢
    obtain ⟨Bl, hBl⟩ : ∃ Bl, w.heap.size = Bl := ⟨_, rfl⟩
    have HRET := Lib.hid (fun (r : Bool × (Nat → Lab)) (w' : World) (hr : r = rsL p lab cc) (h1 : LabO w0 w' L n cl r.2) (h2 : But w2.heap.size L w2 w') => show RetRs w0 w L n cl (rsL p lab cc) (.returned (.bool r.1)) w' from hr ▸ ⟨rfl, h1, HBW.out.trans h2⟩)
    rw [hBl] at HBC HNE ⊢
    clear hBl HBW
    go_loopw [7, 16] (fun cv t wr => ∃ (q : Ln) (i : Nat) (s : Bool × (Nat → Lab)), i + q.len = p.len ∧ t = .int .i64 (i : Nat) ∧ cv = .bool s.1 ∧ q.wt ≤ p.wt ∧ LnAt w0 q B (o + i * 7) ∧ Hid (lnF (n : Int) q = 0) ∧ LabO w0 wr L n cl s.2 ∧ Hid (rsG q cc s = rsL p lab cc) ∧ But w2.heap.size L w2 wr) (fun _ t _ => p.len - (intOf t).toNat)
    case atStart => exact ⟨p, 0, (true, lab), by omega, rfl, rfl, Nat.le_refl _, by simpa using HAT.out, HLN, HL2.out, Lib.hid rfl, But.start _ _⟩
    case round =>
      obtain ⟨q, i, s, hiq, rfl, rfl, hqw, hat, HQL, hl, HG, hbut⟩ := hrel
      cases q with
      | nil =>
        have hip : i = p.len := hiq
        subst hip
        have HR := Lib.hid (HRET.out s wr (show s = rsL p lab cc from HG.out) hl hbut)
        clear hat hl hbut hiq hqw
        go_wp2_with fail
        go_ret
        exact HR.out
      | cons k t a b v bA bc body eA ec els rest =>
        have hil : i + (rest.len + 1) = p.len := hiq
        have hlt : i < p.len := by omega
        have HLT := Lib.hid hlt
        have hA2 := HA.out (by omega)
        subst hA2
        have hw2' : body.wt + els.wt + rest.wt + 1 ≤ p.wt := hqw
        have hwf := HWT.out
        have HREST := Lib.hid (show LnAt w0 rest B (o + (i + 1) * 7) by
          obtain ⟨_, _, _, _, _, hr⟩ := hat
          rw [show o + (i + 1) * 7 = o + i * 7 + 7 by omega]
          exact hr)
        have HBODY := Lib.hid (show SlLn w0 bA body by obtain ⟨_, hb, he, lb, le, hr⟩ := hat; exact ⟨lb, hb⟩)
        have HELS := Lib.hid (show SlLn w0 eA els by obtain ⟨_, hb, he, lb, le, hr⟩ := hat; exact ⟨le, he⟩)
        obtain ⟨⟨c0, c1, c2, c3, c4, c5, c6⟩, _⟩ := hat.kept hl.2
        have HRW := Lib.hid (show rest.wt ≤ p.wt by omega)
        have HRL := Lib.hid (show i + 1 + rest.len = p.len by omega)
        have HWB := Lib.hid (show body.wt < f by omega)
        have HWE := Lib.hid (show els.wt < f by omega)
        obtain ⟨hk3, harg, l1, l2, l3⟩ := lnF_zero HQL.out
        have HL1 := Lib.hid l1
        have HL3 := Lib.hid l2
        have HLR := Lib.hid l3
        have HARG := Lib.hid harg
        have bx := Box.new wr (lnV k t a b v bA bc body.len eA ec els.len) 104 wr.heap.size rfl
        have ka : Kept wr (wr.alloc (.cells (lnV k t a b v bA bc body.len eA ec els.len) 104)) := (Kept.refl _).alloc _
        have BX := Lib.hid bx
        have KA := Lib.hid ka
        have HLA := Lib.hid (hl.kept ka)
        have HBA := Lib.hid (HBC.out.but (hbut.kept ka) HNE.out.1 HNE.out.2)
        have HXL := Lib.hid (show wr.heap.size ≠ L by have := hl.lt (by omega); omega)
        have HBUT := Lib.hid (hbut.kept ka)
        unfold lnV at BX KA HLA HBA HBUT
        obtain ⟨w3, hw3⟩ : ∃ w3, wr.alloc (.cells #[.int .i64 k, .int .i64 t, .int .i64 a, .int .i64 b, .int .i64 v, .slice bA body.len bc, .slice eA els.len ec] 104) = w3 := ⟨_, rfl⟩
        rw [hw3] at BX KA HLA HBA HBUT
        have x0 := BX.out.at_ 0 (u := .int .i64 k) rfl
        have x2 := BX.out.at_ 2 (u := .int .i64 a) rfl
        clear bx ka hat hl hbut hiq hqw hil hlt hw2' hwf hk3 harg l1 l2 l3
        by_cases hk : k = 1
        · have dk : (k != 1) = false := by rw [bne_eq_false_iff_eq]; exact hk
          have hat1 := argB_set HARG.out hk
          obtain ⟨tn, rfl⟩ := Int.eq_ofNat_of_zero_le hat1.1.1
          have htn : tn < n := by have := hat1.1.2; omega
          have HOA := Lib.hid (fun w' (kk : Kept w3 w') => of_any w0 Bc Bl L n cl cc s.2 a (by have := hat1.2.1; omega) hn6 w' (HBA.out.kept kk) (HLA.out.kept kk))
          have HOB := Lib.hid (fun w' (kk : Kept w3 w') => of_any w0 Bc Bl L n cl cc s.2 b (by have := hat1.2.2; omega) hn6 w' (HBA.out.kept kk) (HLA.out.kept kk))
          have HSTEP := Lib.hid ((rsG_set hk).symm.trans HG.out)
          rw [Int.toNat_natCast] at HSTEP
          unfold labA at HOA HOB
          obtain ⟨za, hza⟩ : ∃ u, ofL s.2 cc a = u := ⟨_, rfl⟩
          obtain ⟨zb, hzb⟩ : ∃ u, ofL s.2 cc b = u := ⟨_, rfl⟩
          rw [hza] at HOA HSTEP
          rw [hzb] at HOB HSTEP
          obtain ⟨nd, hnd⟩ : ∃ u, joinL za zb = u := ⟨_, rfl⟩
          have HAL := Lib.hid (fun w' => all_any za.1 zb.1 za.2 zb.2 w')
          rw [show max za.1 zb.1 = nd.1 from congrArg Prod.fst hnd, show za.2 ||| zb.2 = nd.2 from congrArg Prod.snd hnd] at HAL
          rw [hnd] at HSTEP
          have HS := Lib.hid (fun w' (kk : Kept w3 w') => show w'.cell? ⟨wr.heap.size, 2, none⟩ = some (.int .i64 a) ∧ w'.cell? ⟨wr.heap.size, 3, none⟩ = some (.int .i64 b) ∧ Kept w3 w' from ⟨(BX.out.kept kk).at_ 2 rfl, (BX.out.kept kk).at_ 3 rfl, kk⟩)
          clear hk hat1 hza hzb hnd x2
          go_upto_region 11 with fail
          clear x0 c0 c1 c2 c3 c4 c5 c6
          go_cut [12] from 17 to 74 (fun s12 wx => ∃ NX : Nat, s12 = .pointer (some ⟨NX, 0, none⟩) ∧ Hid (Row w3 wx NX 24 [.int .i64 nd.1, .int .u32 (W nd.2)]))
          case first =>
            go_region_held3 (fun w' => w'.cell? ⟨wr.heap.size, 2, none⟩ = some (.int .i64 a) ∧ w'.cell? ⟨wr.heap.size, 3, none⟩ = some (.int .i64 b) ∧ Kept w3 w')
              ((refine HS.out _ ?_; repeat first | exact Kept.refl _ | exact K6.out | exact K5.out | exact K4.out | refine Kept.alloc ?_ _ | refine Kept.drew ?_ | refine Kept.setCell ?_ (by first | exact Nat.le_refl _ | exact K4.out.size | exact K5.out.size | exact K6.out.size | fail) _ | fail))
              ((first
                | (go_at_call 62
                   with_reducible refine (HOA.out _ ?_).mono ?_
                   · repeat first | exact Kept.refl _ | exact K5.out | exact K4.out | refine Kept.alloc ?_ _ | refine Kept.drew ?_ | fail
                   rintro e w4 ⟨rfl, k4⟩
                   have K4 := Lib.hid (Kept.trans (show Kept w3 _ by repeat first | exact Kept.refl _ | refine Kept.alloc ?_ _ | refine Kept.drew ?_ | fail) k4)
                   try (have BXR := Lib.hid ((rowNewL w3 w3 (Kept.refl _)).drew.kept k4); have bc0 := BXR.out.cell 0 rfl; have bc1 := BXR.out.cell 1 rfl; have bf0 := BXR.out.free 0; have bf1 := BXR.out.free 1)
                   clear k4)
                | (go_at_call 62
                   with_reducible refine (HOB.out _ ?_).mono ?_
                   · repeat first | exact Kept.refl _ | exact K5.out | exact K4.out | refine Kept.alloc ?_ _ | refine Kept.drew ?_ | fail
                   rintro e w5 ⟨rfl, k5⟩
                   have K5 := Lib.hid (Kept.trans (show Kept w3 _ by repeat first | exact Kept.refl _ | exact K4.out | refine Kept.alloc ?_ _ | refine Kept.drew ?_ | fail) k5)
                   first
                   | (have BXR := Lib.hid (BXR.out.kept k5); have bc0 := BXR.out.cell 0 rfl; have bc1 := BXR.out.cell 1 rfl; have bf0 := BXR.out.free 0; have bf1 := BXR.out.free 1)
                   | (have BXR := Lib.hid ((rowNewL w3 w4 K4.out).kept k5); have bc0 := BXR.out.cell 0 rfl; have bc1 := BXR.out.cell 1 rfl; have bf0 := BXR.out.free 0; have bf1 := BXR.out.free 1)
                   | skip
                   clear k5)
                | (go_at_call 42
                   refine (HAL.out _).mono ?_
                   rintro e w6 ⟨rfl, k6⟩
                   have K6 := Lib.hid (Kept.trans (show Kept w3 _ by repeat first | exact Kept.refl _ | exact K5.out | exact K4.out | refine Kept.alloc ?_ _ | refine Kept.drew ?_ | fail) k6)
                   first
                   | (have BXR := Lib.hid (BXR.out.kept k6); have bc0 := BXR.out.cell 0 rfl; have bc1 := BXR.out.cell 1 rfl; have bf0 := BXR.out.free 0; have bf1 := BXR.out.free 1)
                   | (have BXR := Lib.hid ((rowNewL w3 w5 K5.out).kept k6); have bc0 := BXR.out.cell 0 rfl; have bc1 := BXR.out.cell 1 rfl; have bf0 := BXR.out.free 0; have bf1 := BXR.out.free 1)
                   | skip
                   clear k6)
                | fail))
            all_goals
              first
              | (obtain ⟨w8, hw8⟩ : ∃ w8, w6.alloc (.cells #[.int .i64 nd.1, .int .u32 (W nd.2)] 24) = w8 := ⟨_, rfl⟩
                 rw [hw8]
                 have NB := Lib.hid (show Row w3 w8 w6.heap.size 24 [.int .i64 nd.1, .int .u32 (W nd.2)] from hw8 ▸ Row.new K6.out 24 [.int .i64 nd.1, .int .u32 (W nd.2)] _ rfl)
                 clear hw8)
              | (obtain ⟨w8, hw8⟩ : ∃ w8, (w6.setCell ⟨w5.heap.size, 0, none⟩ (.int .i64 nd.1)).setCell ⟨w5.heap.size, 1, none⟩ (.int .u32 (W nd.2)) = w8 := ⟨_, rfl⟩
                 rw [hw8]
                 have NB := Lib.hid (show Row w3 w8 w5.heap.size 24 [.int .i64 nd.1, .int .u32 (W nd.2)] from hw8 ▸ (BXR.out.set 0 (.int .i64 nd.1)).set 1 (.int .u32 (W nd.2)))
                 clear hw8)
              | (obtain ⟨w8, hw8⟩ : ∃ w8, (w6.setCell ⟨w4.heap.size, 0, none⟩ (.int .i64 nd.1)).setCell ⟨w4.heap.size, 1, none⟩ (.int .u32 (W nd.2)) = w8 := ⟨_, rfl⟩
                 rw [hw8]
                 have NB := Lib.hid (show Row w3 w8 w4.heap.size 24 [.int .i64 nd.1, .int .u32 (W nd.2)] from hw8 ▸ (BXR.out.set 0 (.int .i64 nd.1)).set 1 (.int .u32 (W nd.2)))
                 clear hw8)
              | (obtain ⟨w8, hw8⟩ : ∃ w8, (w6.setCell ⟨w3.heap.size, 0, none⟩ (.int .i64 nd.1)).setCell ⟨w3.heap.size, 1, none⟩ (.int .u32 (W nd.2)) = w8 := ⟨_, rfl⟩
                 rw [hw8]
                 have NB := Lib.hid (show Row w3 w8 w3.heap.size 24 [.int .i64 nd.1, .int .u32 (W nd.2)] from hw8 ▸ (BXR.out.set 0 (.int .i64 nd.1)).set 1 (.int .u32 (W nd.2)))
                 clear hw8)
              try clear bc0 bc1 bf0 bf1
              go_wp2_with fail
              go_meet
              exact ⟨_, rfl, NB⟩
          case rest =>
            obtain ⟨NX, rfl, NB⟩ := hcut
            have KC := Lib.hid NB.out.kept0
            have HLC := Lib.hid (HLA.out.kept KC.out)
            obtain ⟨y, hy⟩ : ∃ y, s.2 tn = y := ⟨_, rfl⟩
            have HY := Lib.hid hy
            rw [hy] at HSTEP
            have hLt := HLC.out.at_ htn
            rw [hy] at hLt
            have HLT2 := Lib.hid hLt
            have HXC := Lib.hid (BX.out.kept KC.out)
            have HBLC := Lib.hid (HBA.out.kept KC.out).2.2
            have HNXL := Lib.hid (show NX ≠ L by have h1 := NB.out.2.1; have h2 := HLA.out.lt (by omega); omega)
            generalize wr.heap.size = X at HXC HXL ⊢
            have HS12 := Lib.hid (fun w' (kk : Kept wc w') => show w'.cell? ⟨Bl, 0, none⟩ = some (.slice (some ⟨L, 0, none⟩) n cl) ∧ w'.cell? ⟨X, 1, none⟩ = some (.int .i64 (tn : Int)) ∧ w'.cell? ⟨NX, 0, none⟩ = some (.int .i64 nd.1) ∧ w'.cell? ⟨NX, 1, none⟩ = some (.int .u32 (W nd.2)) ∧ w'.cell? ⟨L, tn * 2, none⟩ = some (.int .i64 y.1) ∧ w'.cell? ⟨L, tn * 2 + 1, none⟩ = some (.int .u32 (W y.2)) ∧ Kept wc w' from
              ⟨(kk.cell (cell_lt HBLC.out)).trans HBLC.out, (HXC.out.kept kk).at_ 1 rfl, (NB.out.kept kk).cell 0 rfl, (NB.out.kept kk).cell 1 rfl, (kk.cell (cell_lt HLT2.out.1)).trans HLT2.out.1, (kk.cell (cell_lt HLT2.out.2)).trans HLT2.out.2, kk⟩)
            have HLE := Lib.hid (fun w' => least_any nd.1 y.1 nd.2 y.2 w')
            have j1 : (0 : Int) ≤ (tn : Int) := by omega
            have j2 : (tn : Int) < (n : Int) := by omega
            have HSL := Lib.hid (show leB (nd.1, nd.2) (y.1, y.2) = leB nd y from rfl)
            obtain ⟨bb, hbb⟩ : ∃ bb, leB (nd.1, nd.2) (y.1, y.2) = bb := ⟨_, rfl⟩
            rw [hbb] at HLE
            have hbb2 : leB nd y = bb := hbb
            rw [hbb2] at HSTEP
            have HB3 := Lib.hid (HBUT.out.kept KC.out)
            have HTN := Lib.hid htn
            clear hy hLt hbb hbb2 htn
            cases bb
            all_goals
              go_wp2_with fail
              go_region_held3 (fun w' => w'.cell? ⟨Bl, 0, none⟩ = some (.slice (some ⟨L, 0, none⟩) n cl) ∧ w'.cell? ⟨X, 1, none⟩ = some (.int .i64 (tn : Int)) ∧ w'.cell? ⟨NX, 0, none⟩ = some (.int .i64 nd.1) ∧ w'.cell? ⟨NX, 1, none⟩ = some (.int .u32 (W nd.2)) ∧ w'.cell? ⟨L, tn * 2, none⟩ = some (.int .i64 y.1) ∧ w'.cell? ⟨L, tn * 2 + 1, none⟩ = some (.int .u32 (W y.2)) ∧ Kept wc w')
                ((refine HS12.out _ ?_; repeat first | exact Kept.refl _ | exact K9.out | refine Kept.alloc ?_ _ | refine Kept.drew ?_ | fail))
                ((go_at_call 43
                  refine (HLE.out _).mono ?_
                  rintro e w9 ⟨rfl, k9⟩
                  have K9 := Lib.hid (Kept.trans (show Kept wc _ by repeat first | exact Kept.refl _ | refine Kept.alloc ?_ _ | refine Kept.drew ?_ | fail) k9)
                  clear k9))
              rename_i hHeld
              clear hHeld
            · have HB9 := Lib.hid (HB3.out.kept K9.out)
              have HL9 := Lib.hid (HLC.out.kept K9.out)
              have HX9 := Lib.hid (HXC.out.kept K9.out)
              have NB9 := Lib.hid (NB.out.kept K9.out)
              have l9 := (K9.out.cell (cell_lt HBLC.out)).trans HBLC.out
              have HBL9 := Lib.hid l9
              have q9 := HL9.out.at_ HTN.out
              rw [HY.out] at q9
              have HQ9 := Lib.hid q9
              obtain ⟨q0, q1⟩ := q9
              have fq0 : w9.frozen? ⟨L, tn * 2, none⟩ = false := Own.free HL9.out _
              have fq1 : w9.frozen? ⟨L, tn * 2 + 1, none⟩ = false := Own.free HL9.out _
              have HS14 := Lib.hid (fun w' (kk : Kept w9 w') => show (fun w' : World => w'.cell? ⟨Bl, 0, none⟩ = some (.slice (some ⟨L, 0, none⟩) n cl) ∧ w'.cell? ⟨X, 1, none⟩ = some (.int .i64 (tn : Int)) ∧ w'.cell? ⟨NX, 0, none⟩ = some (.int .i64 nd.1) ∧ w'.cell? ⟨NX, 1, none⟩ = some (.int .u32 (W nd.2)) ∧ w'.cell? ⟨L, tn * 2, none⟩ = some (.int .i64 y.1) ∧ w'.cell? ⟨L, tn * 2 + 1, none⟩ = some (.int .u32 (W y.2))) w' from
                ⟨(kk.cell (cell_lt HBL9.out)).trans HBL9.out, (HX9.out.kept kk).at_ 1 rfl, (NB9.out.kept kk).cell 0 rfl, (NB9.out.kept kk).cell 1 rfl, (kk.cell (cell_lt HQ9.out.1)).trans HQ9.out.1, (kk.cell (cell_lt HQ9.out.2)).trans HQ9.out.2⟩)
              obtain ⟨jn, hjn⟩ : ∃ u, joinL y nd = u := ⟨_, rfl⟩
              have HAL2 := Lib.hid (fun w' => all_any y.1 nd.1 y.2 nd.2 w')
              rw [show max y.1 nd.1 = jn.1 from congrArg Prod.fst hjn, show y.2 ||| nd.2 = jn.2 from congrArg Prod.snd hjn] at HAL2
              rw [hjn] at HSTEP
              have HR := Lib.hid HSTEP.out
              simp only [Bool.false_eq_true, if_false] at HR
              clear hjn l9
              go_wp2_with fail
              have hS0 := HS14.out w9.drew (Kept.refl _).drew
              clear q0 q1 fq0 fq1
              refine wp_region_tail 10 100 (fun w' : World => w'.cell? ⟨Bl, 0, none⟩ = some (.slice (some ⟨L, 0, none⟩) n cl) ∧ w'.cell? ⟨X, 1, none⟩ = some (.int .i64 (tn : Int)) ∧ w'.cell? ⟨NX, 0, none⟩ = some (.int .i64 nd.1) ∧ w'.cell? ⟨NX, 1, none⟩ = some (.int .u32 (W nd.2)) ∧ w'.cell? ⟨L, tn * 2, none⟩ = some (.int .i64 y.1) ∧ w'.cell? ⟨L, tn * 2 + 1, none⟩ = some (.int .u32 (W y.2))) (by kernel_rfl) ?_
              refine wpAnyT_take (i := 0) (v := ?_) rfl (by kernel_rfl) (by kernel_rfl) (by kernel_rfl) (by kernel_rfl) (by kernel_rfl) (by decide) (by decide) (by decide) (by kernel_rfl) (by kernel_rfl) (fun _ _ _ h => h) (Or.inl ⟨by rfl, ?_⟩) hS0 ?_
              rotate_left
              (intro w9' hSw; (try dsimp only at hSw); go_simp)
              try with_reducible rfl
              try simp only [Act.put, List.setIfInBounds_toArray, List.set_cons_zero, List.set_cons_succ]
              refine wpAnyT_take (i := 1) (v := ?_) rfl (by kernel_rfl) (by kernel_rfl) (by kernel_rfl) (by kernel_rfl) (by kernel_rfl) (by decide) (by decide) (by decide) (by kernel_rfl) (by kernel_rfl) (fun _ _ _ h => h) (Or.inl ⟨by rfl, ?_⟩) hS0 ?_
              rotate_left
              (intro w9' hSw; (try dsimp only at hSw); go_simp)
              try with_reducible rfl
              try simp only [Act.put, List.setIfInBounds_toArray, List.set_cons_zero, List.set_cons_succ]
              refine wpAnyT_take (i := 2) (v := ?_) rfl (by kernel_rfl) (by kernel_rfl) (by kernel_rfl) (by kernel_rfl) (by kernel_rfl) (by decide) (by decide) (by decide) (by kernel_rfl) (by kernel_rfl) (fun _ _ _ h => h) (Or.inl ⟨by rfl, ?_⟩) hS0 ?_
              rotate_left
              (intro w9' hSw; (try dsimp only at hSw); go_simp)
              try with_reducible rfl
              try simp only [Act.put, List.setIfInBounds_toArray, List.set_cons_zero, List.set_cons_succ]
              refine wpAnyT_take (i := 3) (v := ?_) rfl (by kernel_rfl) (by kernel_rfl) (by kernel_rfl) (by kernel_rfl) (by kernel_rfl) (by decide) (by decide) (by decide) (by kernel_rfl) (by kernel_rfl) (fun _ _ _ h => h) (Or.inl ⟨by rfl, ?_⟩) hS0 ?_
              rotate_left
              (intro w9' hSw; (try dsimp only at hSw); go_simp)
              try with_reducible rfl
              try simp only [Act.put, List.setIfInBounds_toArray, List.set_cons_zero, List.set_cons_succ]
              refine wpAnyT_take (i := 4) (v := ?_) rfl (by kernel_rfl) (by kernel_rfl) (by kernel_rfl) (by kernel_rfl) (by kernel_rfl) (by decide) (by decide) (by decide) (by kernel_rfl) (by kernel_rfl) (fun _ _ _ h => h) (Or.inl ⟨by rfl, ?_⟩) hS0 ?_
              rotate_left
              (intro w9' hSw; (try dsimp only at hSw); go_simp)
              try with_reducible rfl
              try simp only [Act.put, List.setIfInBounds_toArray, List.set_cons_zero, List.set_cons_succ]
              refine wpAnyT_take (i := 5) (v := ?_) rfl (by kernel_rfl) (by kernel_rfl) (by kernel_rfl) (by kernel_rfl) (by kernel_rfl) (by decide) (by decide) (by decide) (by kernel_rfl) (by kernel_rfl) (fun _ _ _ h => h) (Or.inl ⟨by rfl, ?_⟩) hS0 ?_
              rotate_left
              (intro w9' hSw; (try dsimp only at hSw); go_simp)
              try with_reducible rfl
              try simp only [Act.put, List.setIfInBounds_toArray, List.set_cons_zero, List.set_cons_succ]
              refine wpAnyT_take (i := 6) (v := ?_) rfl (by kernel_rfl) (by kernel_rfl) (by kernel_rfl) (by kernel_rfl) (by kernel_rfl) (by decide) (by decide) (by decide) (by kernel_rfl) (by kernel_rfl) (fun _ _ _ h => h) (Or.inl ⟨by rfl, ?_⟩) hS0 ?_
              rotate_left
              (intro w9' hSw; (try dsimp only at hSw); go_simp)
              try with_reducible rfl
              try simp only [Act.put, List.setIfInBounds_toArray, List.set_cons_zero, List.set_cons_succ]
              refine wpAnyT_take (i := 7) (v := ?_) rfl (by kernel_rfl) (by kernel_rfl) (by kernel_rfl) (by kernel_rfl) (by kernel_rfl) (by decide) (by decide) (by decide) (by kernel_rfl) (by kernel_rfl) (fun _ _ _ h => h) (Or.inl ⟨by rfl, ?_⟩) hS0 ?_
              rotate_left
              (intro w9' hSw; (try dsimp only at hSw); go_simp)
              try with_reducible rfl
              try simp only [Act.put, List.setIfInBounds_toArray, List.set_cons_zero, List.set_cons_succ]
              refine wpAnyT_take (i := 8) (v := ?_) rfl (by kernel_rfl) (by kernel_rfl) (by kernel_rfl) (by kernel_rfl) (by kernel_rfl) (by decide) (by decide) (by decide) (by kernel_rfl) (by kernel_rfl) (fun _ _ _ h => h) (Or.inl ⟨by rfl, ?_⟩) hS0 ?_
              rotate_left
              (intro w9' hSw; (try dsimp only at hSw); go_simp)
              try with_reducible rfl
              try simp only [Act.put, List.setIfInBounds_toArray, List.set_cons_zero, List.set_cons_succ]
              refine wpAnyT_ready (rs := [9]) (by kernel_rfl) (by simp) ?_
              refine AllReadyT.cons (i := 9) rfl (fun K hK => ?_) AllReadyT.nil
              go_simp
              refine (HAL2.out _).mono ?_
              rintro e w10 ⟨rfl, k10⟩
              have K10 := Lib.hid ((Kept.refl w9).drew.trans k10)
              refine hK.out _ _ ?_ ?_
              · exact HS14.out _ K10.out
              clear hK K k10 hS0
              try simp only [Act.put, List.setIfInBounds_toArray, List.set_cons_zero, List.set_cons_succ]
              have HL10 := Lib.hid (HL9.out.kept K10.out)
              have q0 := (HL10.out.at_ HTN.out).1
              have q1 := (HL10.out.at_ HTN.out).2
              have fq0 : w10.frozen? ⟨L, tn * 2, none⟩ = false := Own.free HL10.out _
              have fq1 : w10.frozen? ⟨L, tn * 2 + 1, none⟩ = false := Own.free HL10.out _
              have L11 := Lib.hid (HL10.out.put tn jn)
              have HB11 := Lib.hid (((HB9.out.kept K10.out).set (tn * 2) (.int .i64 jn.1)).set (tn * 2 + 1) (.int .u32 (W jn.2)))
              refine wpAnyT_ready (rs := [10]) (by kernel_rfl) (by simp) ?_
              refine AllReadyT.consT (i := 10) rfl (by decide) (fun K hK => ?_) AllReadyT.nil
              go_simp
              refine hK.out _ _ ?_
              clear hK K
              try simp only [Act.put, List.setIfInBounds_toArray, List.set_cons_zero, List.set_cons_succ]
              refine wpAnyT_ready (rs := [11]) (by kernel_rfl) (by simp) ?_
              refine AllReadyT.consT (i := 11) rfl (by decide) (fun K hK => ?_) AllReadyT.nil
              go_simp
              refine hK.out _ _ ?_
              clear hK K
              try simp only [Act.put, List.setIfInBounds_toArray, List.set_cons_zero, List.set_cons_succ]
              refine wpAnyT_done (by kernel_rfl) ?_ _
              clear q0 q1 fq0 fq1
              go_wp2_with fail
              go_roundw
              case rel => exact ⟨rest, i + 1, (false, updLb s.2 tn jn), HRL.out, by go_num, rfl, HRW.out, HREST.out, HLR, L11.out, Lib.hid HR.out, HB11.out⟩
              case measure => have := HLT.out; simp [intOf]; omega
            · have HR := Lib.hid HSTEP.out
              simp only [if_true] at HR
              go_wp2_with fail
              go_roundw
              case rel => exact ⟨rest, i + 1, s, HRL.out, by go_num, rfl, HRW.out, HREST.out, HLR, HLC.out.kept K9.out, Lib.hid HR.out, HB3.out.kept K9.out⟩
              case measure => have := HLT.out; simp [intOf]; omega
        · have dk : (k != 1) = true := by rw [bne_iff_ne]; exact hk
          have HAR := Lib.hid (argB_other HARG.out hk)
          have HOF := Lib.hid (of_any w0 Bc Bl L n cl cc s.2 a (.inr HAR.out) hn6 w3 HBA.out HLA.out)
          have HSTEP := Lib.hid ((rsG_other hk).symm.trans HG.out)
          unfold labA at HOF
          obtain ⟨u, hu⟩ : ∃ u, ofL s.2 cc a = u := ⟨_, rfl⟩
          rw [hu] at HOF HSTEP
          clear hk hu
          go_wp2_with fail
          refine HOF.out.mono ?_
          rintro e w4 ⟨rfl, k4⟩
          have ub := Box.new w4 #[.int .i64 u.1, .int .u32 (W u.2)] 24 w4.heap.size rfl
          have k5 : Kept w3 (w4.alloc (.cells #[.int .i64 u.1, .int .u32 (W u.2)] 24)) := k4.alloc _
          have u0 := ub.at_ 0 (u := .int .i64 u.1) rfl
          have u1 := ub.at_ 1 (u := .int .u32 (W u.2)) rfl
          have x5 := (BX.out.kept k5).at_ 5 (u := .slice bA body.len bc) rfl
          have hbc5 := HBA.out.kept k5
          have l0 := hbc5.2.2
          have HBC5 := Lib.hid hbc5
          have HBX5 := Lib.hid (BX.out.kept k5)
          have HUB := Lib.hid ub
          have HUL := Lib.hid (show w4.heap.size ≠ L by have := (HLA.out.kept k4).lt (by omega); omega)
          have HBUT5 := Lib.hid (HBUT.out.kept k5)
          have HR1 := Lib.hid (HIH.out body bA bc u s.2 _ HWB.out HBODY.out HL1.out (HLA.out.kept k5))
          obtain ⟨w5, hw5⟩ : ∃ w5, w4.alloc (.cells #[.int .i64 u.1, .int .u32 (W u.2)] 24) = w5 := ⟨_, rfl⟩
          rw [hw5] at u0 u1 x5 l0 HBC5 HBX5 HUB HBUT5 HR1
          clear ub k5 k4 hbc5 x2 c0 c1 c2 c3 c4 c5 c6
          go_wp2_with fail
          refine HR1.out.mono ?_
          rintro e w6 ⟨rfl, hl6, hb6⟩
          have HB6 := Lib.hid (HBUT5.out.trans hb6)
          have hbx6 := HBX5.out.but hb6 HXL.out
          have x0 := hbx6.at_ 0 (u := .int .i64 k) rfl
          have x6 := hbx6.at_ 6 (u := .slice eA els.len ec) rfl
          have l0' := (HBC5.out.but hb6 HNE.out.1 HNE.out.2).2.2
          have hub6 := HUB.out.but hb6 HUL.out
          have u0' := hub6.at_ 0 (u := .int .i64 u.1) rfl
          have u1' := hub6.at_ 1 (u := .int .u32 (W u.2)) rfl
          generalize rsL body s.2 u = r1 at hl6 HSTEP ⊢
          obtain ⟨b1, lab1⟩ := r1
          simp only at hl6 HSTEP ⊢
          have HR2 := Lib.hid (HIH.out els eA ec u lab1 w6 HWE.out HELS.out HL3.out hl6)
          have HL6 := Lib.hid hl6
          generalize w4.heap.size = U at u0 u1 u0' u1' ⊢
          generalize wr.heap.size = X at x0 x6 x5 ⊢
          clear hb6 hl6 hbx6 hub6 x5 l0 u0 u1
          cases b1
          all_goals
            by_cases hk2 : k = 2
            · have dk2 : (k == 2) = true := by rw [beq_iff_eq]; exact hk2
              have HS2 := Lib.hid (HSTEP.out)
              rw [if_pos hk2] at HS2
              clear hk2
              go_wp2_with fail
              refine HR2.out.mono ?_
              rintro e w7 ⟨rfl, hl7, hb7⟩
              have HB7 := Lib.hid (HB6.out.trans hb7)
              generalize rsL els lab1 u = r2 at hl7 HS2 ⊢
              obtain ⟨b2, lab2⟩ := r2
              simp only at hl7 HS2 ⊢
              have HL7 := Lib.hid hl7
              clear hb7 hl7 x0 x6 l0' u0' u1'
              cases b2
              all_goals
                go_wp2_with fail
                go_roundw
                case rel => exact ⟨rest, i + 1, (_, lab2), HRL.out, by go_num, rfl, HRW.out, HREST.out, HLR, HL7.out, Lib.hid HS2.out, HB7.out⟩
                case measure => have := HLT.out; simp [intOf]; omega
            · have dk2 : (k == 2) = false := by rw [beq_eq_false_iff_ne]; exact hk2
              have HS2 := Lib.hid (HSTEP.out)
              rw [if_neg hk2] at HS2
              clear hk2
              go_wp2_with fail
              go_roundw
              case rel => exact ⟨rest, i + 1, (_, lab1), HRL.out, by go_num, rfl, HRW.out, HREST.out, HLR, HL6.out, Lib.hid HS2.out, HB6.out⟩
              case measure => have := HLT.out; simp [intOf]; omega
end Go.Proofs.Ytnnddjanbfamkaa
