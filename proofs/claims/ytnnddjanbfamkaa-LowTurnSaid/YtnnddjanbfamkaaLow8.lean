/- The walk of low.Play. -/
import Derived.Test.YtnnddjanbfamkaaLow3
import Derived.Test.YtnnddjanbfamkaaLat2
import Derived.Deep.RegionHeld3
import Derived.Deep.RegionLaw
namespace Go.Proofs.Ytnnddjanbfamkaa
open Go Go.RowKit
set_option linter.unusedVariables false

theorem info_errno : (Try.prog.info? 25).map (fun i => (i.zero, i.size, i.bytes)) = some (some (.int .i64 0), 1, 8) := by kernel_rfl
theorem LSt.grown {w0 w w' : World} {S K : Nat} {Ac At AM AF : Option Addr} {nc c1 nt c2 cM cF : Nat} {s : MSt} {v : Value} {n : Nat} {xs : List Value} (h : LSt w0 w S K Ac At AM AF nc c1 nt c2 cM cF s) (o : Own w0 w 25 1 v n xs) (hg : w.grownBy w' v.ownBlock) : LSt w0 w' S K Ac At AM AF nc c1 nt c2 cM cF s :=
  ⟨h.st.grown hg (o.far h.st (by decide)) o.since, h.mr.grown hg (h.mr.far2 o (by decide)) o.since, h.kn.grown hg (o.far h.kn (by decide)) o.since, h.fr.grown hg (h.fr.far2 o (by decide)) o.since, h.far⟩
theorem Row.baseL {w w1 w2 : World} {B : Nat} {e : TypeId} {xs : List Value} (h : Row w1 w2 B e xs) (k : Kept w w1) : Row w w2 B e xs := ⟨h.1, Nat.le_trans k.size h.2.1, k.trans h.2.2⟩
theorem Own.baseL {w w1 w2 : World} {E : TypeId} {s n : Nat} {v : Value} {xs : List Value} (h : Own w1 w2 E s v n xs) (k : Kept w w1) : Own w w2 E s v n xs := by
  refine ⟨⟨h.1.1, ?_⟩, k.trans h.2⟩
  rcases h.1.2 with hn | ⟨g, cap, cur, hv, hb, rest⟩
  · exact .inl hn
  · exact .inr ⟨g, cap, cur, hv, Nat.le_trans k.size hb, rest⟩
theorem labs_lab {ls : List Lab} {n : Nat} (h : ls.length = n) : labsV n (lab ls) = labCells ls := by
  unfold labsV
  congr 1
  apply List.ext_getElem
  · simp [h]
  · intro i h1 h2
    rw [List.getElem_map, List.getElem_range, lab_eq h2]
/-- the start -/
def low0 (clear : List Lab) : MSt := ⟨lab clear, fun _ => 0#32, fun t => 1#32 <<< t⟩
/-- what Play hands back where nothing is wrong: codes, marks, and what has come into each thing -/
def Marked2 (w' : World) (nc nt nd : Nat) (codes : List Int) (s : MSt) (e : Ending) : Prop :=
  ∃ (AC AM AF : Option Addr) (cC cM cF : Nat), e = .returned (.tuple #[.agg #[.slice AC nd cC, .slice AM nc cM, .slice AF nt cF], .int .i64 0]) ∧ SlI w' AC nd codes ∧ SlLab w' AM nc ((List.range nc).map s.marks) ∧ SlW w' AF nt ((List.range nt).map s.from_)
set_option maxRecDepth 100000 in
set_option maxHeartbeats 8000000 in
theorem play_good (A1 : Option Addr) (nc c1 : Nat) (clear : List Lab) (A2 : Option Addr) (nt c2 : Nat) (things : List Lab) (A3 : Option Addr) (nd c3 : Nat) (ds : List De) (w : World) (s1 : SlLab w A1 nc clear) (s2 : SlLab w A2 nt things) (hd : SlD w A3 nd ds) (h0 : marksF clear things nd = 0) (hn1 : 1 ≤ nc) (hn5 : nc ≤ 5) (hn8 : nt ≤ 8) (hn30 : nd ≤ 30)
    (hdo : ∀ (w0 w : World) (S K : Nat) (AM AF : Option Addr) (cM cF : Nat) (s : MSt) (d : De), LSt w0 w S K A1 A2 AM AF nc c1 nt c2 cM cF s → SlLab w0 A1 nc clear → SlLab w0 A2 nt things → Calls Try.prog 48 #[.pointer (some ⟨S, 0, none⟩), .agg #[.int .i64 d.1, .int .i64 d.2.1, .int .i64 d.2.2.1, .int .i64 d.2.2.2.1, .int .u32 (W d.2.2.2.2.1), .int .i64 d.2.2.2.2.2]] w (RetLow w0 w S K A1 A2 AM AF nc c1 nt c2 cM cF (lowDo nc nt (lab clear) (lab things) s d))) :
    Calls Try.prog 26 #[.slice A1 nc c1, .slice A2 nt c2, .slice A3 nd c3] w fun e w' => Kept w w' ∧ Marked2 w' nc nt nd (codesOf (lowDo nc nt (lab clear) (lab things)) (low0 clear) ds) (stOf (lowDo nc nt (lab clear) (lab things)) (low0 clear) ds) e := by
  have hka : Kept w (w.alloc (.cells #[.slice none 0 0, .slice none 0 0, .slice none 0 0] 41)) := (Kept.refl _).alloc _
  have hrow := Row.new (Kept.refl w) 41 [.slice none 0 0, .slice none 0 0, .slice none 0 0] _ rfl
  have HWR := Lib.hid (markWrong_any A1 nc c1 clear A2 nt c2 things nd _ (s1.kept hka) (s2.kept hka))
  rw [h0] at HWR
  have hmk := run_make1 (P := Try.prog) 39 22 Try.underlying39 info_u32 rfl (by decide) nc (by omega)
  have HCL := Lib.hid s1.2
  have HDL := Lib.hid hd.2
  have HDO := Lib.hid hdo
  clear h0 hdo
  go_enter Try.func26, Try.ntmps26
  go_wp2_with fail
  refine HWR.out.mono ?_
  rintro e w1 ⟨rfl, k1⟩
  obtain ⟨V, hV⟩ : ∃ V : Nat, w.heap.size = V := ⟨_, rfl⟩
  rw [hV] at hrow
  have HVR := Lib.hid (hrow.kept k1)
  have HK1 := Lib.hid (hka.trans k1)
  have HCLONE := Lib.hid (fun w' (k : Kept w1 w') => (cloneL_any A1 nc c1 clear w' (s1.kept (HK1.out.trans k)) (by omega)).mono (R' := fun e w'' => ∃ AM cM, e = .returned (.slice AM nc cM) ∧ Own w1 w'' 24 2 (.slice AM nc cM) nc (labsV nc (lab clear)) ∧ Kept w' w'') (by
    rintro e w'' ⟨v, rfl, ho⟩
    obtain ⟨AM, cM, rfl, _, _⟩ := ho.form
    exact ⟨AM, cM, rfl, by rw [labs_lab HCL.out]; exact ho.baseL k, ho.kept0⟩))
  clear hrow hka k1 HWR
  go_wp2_with fail
  go_region_held3 (fun w' => Kept w1 w')
    ((repeat first | exact Kept.refl _ | exact K2.out | refine Kept.alloc ?_ _ | refine Kept.drew ?_))
    ((go_at_call 47
      refine (HCLONE.out _ (by repeat first | exact Kept.refl _ | refine Kept.alloc ?_ _ | refine Kept.drew ?_)).mono ?_
      rintro e w2 ⟨AM, cM, rfl, ho, k2⟩
      have OM := Lib.hid ho
      have K2 := Lib.hid ho.kept0
      have KC := Lib.hid k2
      clear ho k2))
  all_goals
    rename_i hHeld
    clear hHeld
    first
    | (obtain ⟨w3, hw3⟩ : ∃ w3, ((w2.alloc (.cells (rep nc (.int .u32 0)) 22)).alloc (.cells #[.slice A1 nc c1, .slice A2 nt c2, .slice AM nc cM, .slice (some ⟨w2.heap.size, 0, none⟩) nc nc, .slice none 0 0] 85)) = w3 := ⟨_, rfl⟩
       rw [hw3]
       have hst : Row w1 w3 (w2.heap.size + 1) 85 [.slice A1 nc c1, .slice A2 nt c2, .slice AM nc cM, .slice (some ⟨w2.heap.size, 0, none⟩) nc nc, .slice none 0 0] := hw3 ▸ (Row.new (K2.out.alloc (.cells (rep nc (.int .u32 0)) 22)) 85 [.slice A1 nc c1, .slice A2 nt c2, .slice AM nc cM, .slice (some ⟨w2.heap.size, 0, none⟩) nc nc, .slice none 0 0] _ (by simp))
       have hkn : Row w1 w3 w2.heap.size 22 (rowsV nc fun _ => 0#32) := by rw [← hw3, rep_rows]; exact (Row.new K2.out 22 (rowsV nc fun _ => 0#32) _ rfl).kept ((Kept.refl _).alloc _)
       have hmr : Own w1 w3 24 2 (.slice AM nc cM) nc (labsV nc (lab clear)) := hw3 ▸ (OM.out.alloc _).alloc _
       generalize w2.heap.size + 1 = S at hst ⊢
       generalize w2.heap.size = K at hst hkn ⊢)
    | (obtain ⟨w3, hw3⟩ : ∃ w3, (w2.alloc (.cells #[.slice A1 nc c1, .slice A2 nt c2, .slice AM nc cM, .slice (some ⟨w1.heap.size, 0, none⟩) nc nc, .slice none 0 0] 85)) = w3 := ⟨_, rfl⟩
       rw [hw3]
       have hst : Row w1 w3 w2.heap.size 85 [.slice A1 nc c1, .slice A2 nt c2, .slice AM nc cM, .slice (some ⟨w1.heap.size, 0, none⟩) nc nc, .slice none 0 0] := hw3 ▸ (Row.new K2.out 85 [.slice A1 nc c1, .slice A2 nt c2, .slice AM nc cM, .slice (some ⟨w1.heap.size, 0, none⟩) nc nc, .slice none 0 0] _ rfl)
       have hkn : Row w1 w3 w1.heap.size 22 (rowsV nc fun _ => 0#32) := by
         have hk := KC.out
         rw [rep_rows] at hk
         rw [← hw3]
         exact ((Row.new (Kept.refl w1) 22 (rowsV nc fun _ => 0#32) _ rfl).kept ((Kept.refl _).drew.trans hk)).kept ((Kept.refl _).alloc _)
       have hmr : Own w1 w3 24 2 (.slice AM nc cM) nc (labsV nc (lab clear)) := hw3 ▸ OM.out.alloc _
       generalize w2.heap.size = S at hst ⊢
       generalize w1.heap.size = K at hst hkn ⊢)
    clear hw3 OM KC K2
    go_wp2_with fail
    go_loopw [34] (fun t wr => ∃ (i : Nat) (AF : Option Addr) (cF : Nat), i ≤ nt ∧ t = .int .i64 i ∧ Row w1 wr S 85 [.slice A1 nc c1, .slice A2 nt c2, .slice AM nc cM, .slice (some ⟨K, 0, none⟩) nc nc, .slice AF i cF] ∧ Own w1 wr 24 2 (.slice AM nc cM) nc (labsV nc (lab clear)) ∧ Row w1 wr K 22 (rowsV nc fun _ => 0#32) ∧ Own w1 wr 22 1 (.slice AF i cF) i (rowsV i fun q => 1#32 <<< q) ∧ ∀ g, AF = some ⟨g, 0, none⟩ → g ≠ K) (fun t _ => nt - (intOf t).toNat)
    case atStart => exact ⟨0, none, 0, Nat.zero_le _, rfl, hst, hmr, hkn, Own.start hst.kept0, fun g h => by cases h⟩
    case round =>
      clear hst hmr hkn
      obtain ⟨i, AF, cF, hi, rfl, hS, hM, hK, hF, hfar⟩ := hrel
      by_cases hlti : i < nt
      · have hi1 : (0 : Int) ≤ (i : Int) := by omega
        have hi2 : (i : Int) < (nt : Int) := by omega
        have HS := Lib.hid hS
        have HM := Lib.hid hM
        have HKK := Lib.hid hK
        have HF := Lib.hid hF
        have hAF : ∀ B2, (∀ g, AF = some ⟨g, 0, none⟩ → g ≠ B2) → some B2 ≠ (Value.slice AF i cF).ownBlock := fun B2 h e => by
          rcases hF.1.2 with ⟨e2, _⟩ | ⟨g, cap, cur, e2, _⟩
          · injection e2 with e2; subst e2; cases e
          · injection e2 with e2; subst e2
            injection e with e
            exact h g rfl e.symm
        have FK := Lib.hid (hAF K hfar)
        have FM := Lib.hid (hM.far2 hF (by decide))
        have HFS := Lib.hid (hF.far hS (by decide))
        have HLR := Lib.hid hK.lt
        have HBX := Lib.hid (show Own w1 (wr.alloc (.cells #[.int .u32 (W (1#32 <<< i))] 22)) 22 1 (.slice (some ⟨wr.heap.size, 0, none⟩) 1 1) 1 [.int .u32 (W (1#32 <<< i))] from Own.made hS.kept0 22 #[.int .u32 (W (1#32 <<< i))] 1 1 _ rfl rfl (by decide))
        have s4 := hS.cell 4 rfl
        have f4 := hS.free 4
        have hsl := hS.lt
        clear hS hM hK hF hfar hAF
        go_wp2_with fail
        go_region_law
          ((refine step_pushAt (by rfl) _ _ 39 (by rfl) (.slice AF i cF) (by rfl) _ 1 1 (by rfl) 22 Try.underlying39 info_u32 rfl (by decide) (by decide) _ i (rowsV i fun q => 1#32 <<< q) (HF.out.kept (by repeat first | with_reducible exact Kept.refl _ | with_reducible refine Kept.drew ?_ | with_reducible refine Kept.alloc ?_ _)) #[.int .u32 (W (1#32 <<< i))] (own_slL (by with_reducible exact HBX.out.drew)) (by intro u hu; simp at hu; subst hu; rfl) (by decide) (by omega) ?_
            intro v7 w7 hown7 hgr7 hat7
            have S7 := Lib.hid ((HS.out.kept (by repeat first | with_reducible exact Kept.refl _ | with_reducible refine Kept.drew ?_ | with_reducible refine Kept.alloc ?_ _)).grown hgr7 HFS.out HF.out.since)
            have M7 := Lib.hid ((HM.out.kept (by repeat first | with_reducible exact Kept.refl _ | with_reducible refine Kept.drew ?_ | with_reducible refine Kept.alloc ?_ _)).grown hgr7 FM.out HF.out.since)
            have K7 := Lib.hid ((HKK.out.kept (by repeat first | with_reducible exact Kept.refl _ | with_reducible refine Kept.drew ?_ | with_reducible refine Kept.alloc ?_ _)).grown hgr7 FK.out HF.out.since)
            have FAR7 := Lib.hid (show ∀ B2, B2 < wr.heap.size → some B2 ≠ (Value.slice AF i cF).ownBlock → v7.ownBlock ≠ some B2 from fun B2 hlt hne2 e => by
              rcases hat7 with e3 | e3
              · rw [e3] at e; exact hne2 e.symm
              · rw [e3] at e; injection e with e; simp at e; omega)
            have O7 := Lib.hid hown7
            obtain ⟨A7, c7, rfl, _, _⟩ := hown7.form
            have s4 := S7.out.cell 4 rfl
            have f4 := S7.out.free 4
            have hsl := S7.out.lt
            clear hown7 hgr7 hat7))
        all_goals
          go_wp2_with fail
          go_roundw
          case rel => exact ⟨i + 1, A7, c7, by omega, by go_num, S7.out.set 4 _, M7.out.setRow S7.out (by decide) 4 _, K7.out.other (p := ⟨S, 4, none⟩) _ (row_neL K7.out S7.out (by decide)) S7.out.2.1, by rw [rowsV_snoc]; exact O7.out.setRow S7.out (by decide) 4 _, fun g h => fun e => FAR7.out K HLR.out FK.out (by rw [h, e]; rfl)⟩
          case measure => simp [intOf]; omega
      · obtain rfl : i = nt := by omega
        have hw0 : LSt w1 wr S K A1 A2 AM AF nc c1 i c2 cM cF (low0 clear) := ⟨hS, hM, hK, hF, hfar⟩
        have HCI := Lib.hid (s1.kept HK1.out)
        have HSI := Lib.hid (s2.kept HK1.out)
        have HDI := Lib.hid (fun w' (k : Kept w1 w') => hd.kept (HK1.out.trans k))
        have HSN := Lib.hid (fun k h => stOf_snoc (lowDo nc i (lab clear) (lab things)) (low0 clear) ds k h)
        have HCN := Lib.hid (fun k h => codesOf_snoc (lowDo nc i (lab clear) (lab things)) (low0 clear) ds k h)
        have HC0 := Lib.hid (show codesOf (lowDo nc i (lab clear) (lab things)) (low0 clear) (ds.take 0) = [] from rfl)
        have HS0 := Lib.hid (show stOf (lowDo nc i (lab clear) (lab things)) (low0 clear) (ds.take 0) = low0 clear from rfl)
        have HDQ := Lib.hid (fun (w2 : World) (AM AF : Option Addr) (cM cF : Nat) s d h => HDO.out w1 w2 S K AM AF cM cF s d h HCI.out HSI.out)
        clear hS hM hK hF hfar
        obtain ⟨stq, hstq⟩ : ∃ stq : Nat → MSt, ∀ q, stOf (lowDo nc i (lab clear) (lab things)) (low0 clear) (ds.take q) = stq q := ⟨_, fun _ => rfl⟩
        obtain ⟨cdq, hcdq⟩ : ∃ cdq : Nat → List Int, ∀ q, codesOf (lowDo nc i (lab clear) (lab things)) (low0 clear) (ds.take q) = cdq q := ⟨_, fun _ => rfl⟩
        simp only [hstq] at HSN HS0 HCN
        simp only [hcdq] at HCN HC0
        have HSTQ := Lib.hid hstq
        have HCDQ := Lib.hid hcdq
        clear hstq hcdq
        go_wp2_with fail
        go_loopw [11, 51] (fun vc t wr2 => ∃ q : Nat, q ≤ nd ∧ t = .int .i64 q ∧ LSt w1 wr2 S K A1 A2 AM AF nc c1 i c2 cM cF (stq q) ∧ Own w1 wr2 25 1 vc q ((cdq q).map iv)) (fun _ t _ => nd - (intOf t).toNat)
        case atStart => exact ⟨0, Nat.zero_le _, rfl, by rw [HS0.out]; exact hw0, by rw [HC0.out]; exact Own.start hw0.st.kept0⟩
        case round =>
          clear hw0
          obtain ⟨q, hq, rfl, hw2, hco⟩ := hrel
          obtain ⟨AC, cC, rfl, _, _⟩ := hco.form
          by_cases hltq : q < nd
          · obtain ⟨b, off, hkq, rfl, hb, d0, d1, d2, d3, d4, d5⟩ := (HDI.out _ hw2.st.kept0).get q hltq
            have HSQ := Lib.hid (HSN.out q hkq)
            have HCQ := Lib.hid (HCN.out q hkq)
            generalize ds[q] = d at d0 d1 d2 d3 d4 d5 HSQ HCQ
            obtain ⟨kd, by_, to_, lv, pt, vl⟩ := d
            simp only at d0 d1 d2 d3 d4 d5
            have hq1 : (0 : Int) ≤ (q : Int) := by omega
            have hq2 : (q : Int) < (nd : Int) := by omega
            have hka := (Kept.refl wr).alloc (.cells #[.int .i64 kd, .int .i64 by_, .int .i64 to_, .int .i64 lv, .int .u32 (W pt), .int .i64 vl] 75)
            have HDO2 := Lib.hid (HDQ.out _ AM AF cM cF (stq q) (kd, by_, to_, lv, pt, vl) (hw2.kept hka))
            obtain ⟨r, hr⟩ : ∃ r, lowDo nc i (lab clear) (lab things) (stq q) (kd, by_, to_, lv, pt, vl) = r := ⟨_, rfl⟩
            rw [hr] at HDO2 HSQ HCQ
            clear hr
            obtain ⟨code, sn⟩ := r
            have HCO := Lib.hid (hco.kept hka)
            have bx := Box.new wr #[.int .i64 kd, .int .i64 by_, .int .i64 to_, .int .i64 lv, .int .u32 (W pt), .int .i64 vl] 75 wr.heap.size rfl
            have x0 := bx.at_ 0 rfl
            have x1 := bx.at_ 1 rfl
            have x2 := bx.at_ 2 rfl
            have x3 := bx.at_ 3 rfl
            have x4 := bx.at_ 4 rfl
            have x5 := bx.at_ 5 rfl
            clear bx hw2 hco hka
            go_wp2_with fail
            refine HDO2.out.mono ?_
            rintro e w6 ⟨rfl, hw6, hkeep⟩
            have HW6 := Lib.hid hw6
            have CO6 := Lib.hid (hkeep _ _ _ HCO.out)
            clear hw6 hkeep x0 x1 x2 x3 x4 x5 d0 d1 d2 d3 d4 d5
            go_wp2_with (at_builtin; refine wpList_push rfl _ _ 38 rfl 25 Try.underlying38 info_errno rfl (by decide) (by decide) _ _ _ _ CO6.out #[.int .i64 code] 25 _ 1 1 rfl rfl rfl rfl (by intro u hu; simp at hu; subst hu; rfl) (by omega) ?_; intro v7 w7 hown7 hgr7; have O7 := Lib.hid hown7; have HW7 := Lib.hid (LSt.grown (HW6.out.kept ((Kept.refl w6).alloc (.cells #[.int .i64 code] 25))) (CO6.out.alloc (.cells #[.int .i64 code] 25)) hgr7); clear hown7 hgr7)
            go_roundw
            case rel => exact ⟨q + 1, by omega, by go_num, by rw [HSQ.out]; exact HW7.out, by rw [HCQ.out, List.map_append]; exact O7.out⟩
            case measure => simp [intOf]; omega
          · obtain rfl : q = nd := by omega
            have HW2 := Lib.hid hw2
            have HCO := Lib.hid hco
            have RV := Lib.hid (HVR.out.kept hw2.st.kept0)
            have HVN := Lib.hid (show V ≠ S ∧ V ≠ K ∧ V < w1.heap.size from ⟨fun e => absurd HVR.out.lt (by rw [e]; exact Nat.not_lt.2 hw2.st.2.1), fun e => absurd HVR.out.lt (by rw [e]; exact Nat.not_lt.2 hw2.kn.2.1), HVR.out.lt⟩)
            have s2 := hw2.st.cell 2 rfl
            have s4 := hw2.st.cell 4 rfl
            have v0 := RV.out.cell 0 rfl
            have v1 := RV.out.cell 1 rfl
            have v2 := RV.out.cell 2 rfl
            have f0 := RV.out.free 0
            have f1 := RV.out.free 1
            have f2 := RV.out.free 2
            clear hw2 hco
            go_wp2_with fail
            go_region
            have R1 := Lib.hid (RV.out.set 0 (.slice AC q cC))
            have R2 := Lib.hid (R1.out.set 1 (.slice AM nc cM))
            have R3 := Lib.hid (R2.out.set 2 (.slice AF i cF))
            have MM1 := Lib.hid (HW2.out.mr.baseL HK1.out)
            have FF1 := Lib.hid (HW2.out.fr.baseL HK1.out)
            have CC1 := Lib.hid (HCO.out.baseL HK1.out)
            have MM4 := Lib.hid ((((MM1.out.setRow RV.out (by decide) 0 (.slice AC q cC)).setRow R1.out (by decide) 1 (.slice AM nc cM)).setRow R2.out (by decide) 2 (.slice AF i cF)).drew)
            have FF4 := Lib.hid ((((FF1.out.setRow RV.out (by decide) 0 (.slice AC q cC)).setRow R1.out (by decide) 1 (.slice AM nc cM)).setRow R2.out (by decide) 2 (.slice AF i cF)).drew)
            have CC4 := Lib.hid ((((CC1.out.setRow RV.out (by decide) 0 (.slice AC q cC)).setRow R1.out (by decide) 1 (.slice AM nc cM)).setRow R2.out (by decide) 2 (.slice AF i cF)).drew)
            have Y0 := Lib.hid (R3.out.cell 0 rfl)
            have Y1 := Lib.hid (R3.out.cell 1 rfl)
            have Y2 := Lib.hid (R3.out.cell 2 rfl)
            have HE1 := Lib.hid (HSTQ.out q)
            have HE2 := Lib.hid (HCDQ.out q)
            rw [List.take_of_length_le (by rw [HDL.out]; exact Nat.le_refl _)] at HE1 HE2
            have HLC := Lib.hid (show (cdq q).length = q by rw [← HE2.out, codesOf_length, HDL.out])
            have FIN := Lib.hid (show Kept w ((((wr.setCell ⟨V, 0, none⟩ (.slice AC q cC)).setCell ⟨V, 1, none⟩ (.slice AM nc cM)).setCell ⟨V, 2, none⟩ (.slice AF i cF)).drew) ∧ Marked2 ((((wr.setCell ⟨V, 0, none⟩ (.slice AC q cC)).setCell ⟨V, 1, none⟩ (.slice AM nc cM)).setCell ⟨V, 2, none⟩ (.slice AF i cF)).drew) nc i q (codesOf (lowDo nc i (lab clear) (lab things)) (low0 clear) ds) (stOf (lowDo nc i (lab clear) (lab things)) (low0 clear) ds) (.returned (.tuple #[.agg #[.slice AC q cC, .slice AM nc cM, .slice AF i cF], .int .i64 0])) from
              ⟨R3.out.kept0.drew, AC, AM, AF, cC, cM, cF, rfl, ⟨by rw [HE2.out]; exact own_slL CC4.out, by rw [HE2.out]; exact HLC.out⟩, ⟨by rw [HE1.out]; exact own_slL MM4.out, by simp⟩, ⟨by rw [HE1.out, rowsV_words]; exact own_slL FF4.out, by simp⟩⟩)
            clear s2 s4 v0 v1 v2 f0 f1 f2
            go_wp2_with fail
            exact bodyPost_ret (v := .tuple #[.agg #[.slice AC q cC, .slice AM nc cM, .slice AF i cF], .int .i64 0]) (by simp [results, Try.results26, go_sem, Y0.out, Y1.out, Y2.out]) rfl FIN.out
end Go.Proofs.Ytnnddjanbfamkaa
