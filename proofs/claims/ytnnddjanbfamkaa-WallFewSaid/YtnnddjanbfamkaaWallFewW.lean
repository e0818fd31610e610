/- WallFew: the walk of the statement. -/
import Derived.Test.YtnnddjanbfamkaaFew4
import Derived.Test.YtnnddjanbfamkaaWall7
namespace Go.Proofs.Ytnnddjanbfamkaa
open Go Go.RowKit
set_option linter.unusedVariables false

theorem info_deedF : (Try.prog.info? 75).map (fun i => (i.zero, i.size, i.bytes)) = some (some (.agg #[.int .i64 0, .int .i64 0, .int .i64 0, .int .i64 0, .int .u32 0, .int .i64 0]), 6, 48) := by kernel_rfl
theorem whoF_break {clss D : List Int} {f : Int} {p : Nat} (hp : p < D.length) (he : D[p] = f) (hno : ∀ g ∈ D.take p, g ≠ f) : whoF clss D f = ((D.take p).filter fun g => cls clss g == cls clss f).length := by
  have h1 : D.takeWhile (fun g => g != f) = D.take p := by
    have h2 : D = D.take p ++ D.drop p := (List.take_append_drop p D).symm
    have h3 : D.drop p = f :: D.drop (p + 1) := by rw [List.drop_eq_getElem_cons hp, he]
    conv => lhs; rw [h2]
    rw [List.takeWhile_append_of_pos (fun a ha => by have := hno a ha; simpa using this), h3, List.takeWhile_cons]
    simp
  unfold whoF
  rw [h1]
theorem dsF_neg {firm clss : List Int} {i : Nat} (h : frm firm i < 0) : dsF firm clss (i + 1) = dsF firm clss i := by show (if _ then _ else _) = _; rw [if_pos h]
theorem dsF_pos {firm clss : List Int} {i : Nat} (h : 0 ≤ frm firm i) : dsF firm clss (i + 1) = dsF firm clss i ++ [deF (whoF clss (doneF firm (i + 1)) (frm firm i)) i] := by show (if _ then _ else _) = _; rw [if_neg (by omega)]
theorem deCells_one (ls : List De) (d : De) : deCells (ls ++ [d]) = deCells ls ++ dev d := by
  unfold deCells
  rw [List.flatMap_append]
  simp
theorem one_deF (who i : Nat) : ∀ u ∈ (#[Value.int .i64 1, .int .i64 (who : Int), .int .i64 (i : Int), .int .i64 0, .int .u32 0, .int .i64 0] : Array Value).toList, u.oneCell' = true := fun u hu => by
  simp only [List.mem_cons, List.not_mem_nil, or_false] at hu
  rcases hu with rfl | rfl | rfl | rfl | rfl | rfl <;> rfl
theorem iv_snoc (l : List Int) (x : Int) : (l ++ [x]).map iv = l.map iv ++ [.int .i64 x] := by rw [List.map_append]; rfl
/-- what the first loop holds: the deeds, and the firms -/
def FewL (w0 w : World) (lv dv : Value) (ds : List De) (D : List Int) : Prop := Own w0 w 75 6 lv ds.length (deCells ds) ∧ Own w0 w 3 1 dv D.length (D.map iv)
theorem FewL.kept {w0 w w' : World} {lv dv : Value} {ds : List De} {D : List Int} (h : FewL w0 w lv dv ds D) (k : Kept w w') : FewL w0 w' lv dv ds D := ⟨h.1.kept k, h.2.kept k⟩
theorem ranks {firm clss : List Int} {lf : Nat} : RankI firm clss (whoF clss (doneF firm lf)) lf := fun i j hi hj pi pj hc hw => whoF_inj (doneF_mem pi hi) (doneF_mem pj hj) hc hw
theorem own_slI {w0 w : World} {A : Option Addr} {n c : Nat} {xs : List Int} (h : Own w0 w 3 1 (.slice A n c) n (xs.map iv)) (hn : xs.length = n) : SlI w A n xs := ⟨own_slW h, hn⟩
set_option maxRecDepth 100000 in
set_option maxHeartbeats 8000000 in
theorem wallFew_good (A : Option Addr) (lf c : Nat) (firm : List Int) (A2 : Option Addr) (m c2 : Nat) (clss : List Int) (w : World) (hs : SlI w A lf firm) (hc : SlI w A2 m clss) (hwf : ∀ z ∈ clss, (Lit.int .i64 z).wf = true) (h0 : firmF firm clss = 0) :
    Calls Try.prog 12 #[.slice A lf c, .slice A2 m c2] w fun e w' => e = .returned (.bool true) ∧ Kept w w' := by
  obtain ⟨hl8, hm8, hok⟩ := firmF_zero h0
  rw [hs.2] at hl8
  rw [hc.2] at hm8 hok
  have HFE := Lib.hid (fewest_good A lf c firm A2 m c2 clss w hs hc hwf h0)
  have HCK := Lib.hid (fun w' (k : Kept w w') => firmsCheck_any A lf c firm A2 m c2 clss w' (hs.kept k) (hc.kept k))
  rw [h0] at HCK
  have hmd : mostF firm clss lf ≤ m := Nat.le_trans (mostF_le firm clss lf) (doneF_len fun j hj => by
    have hj2 : j < firm.length := by rw [hs.2]; exact hj
    rw [frm_eq hj2]
    exact (hok _ (List.getElem_mem hj2)).2)
  have HPL := Lib.hid (fun (k : Nat) (A3 : Option Addr) (nd c3 : Nat) (ds : List De) (w' : World) (kk : Kept w w') (hd : SlD w' A3 nd ds) (h1 : 1 ≤ k) (h5 : k ≤ 5) (hnd : nd ≤ 30) => play_few k A lf c firm A2 m c2 clss A3 nd c3 ds w' (hs.kept kk) (hc.kept kk) hd h1 h5 hnd h0 (whoF clss (doneF firm lf)) ranks)
  unfold RetFew at HFE
  rw [h0, hs.2] at HFE
  simp only [if_true] at HFE
  have HOK := Lib.hid hok
  have HS := Lib.hid hs
  have HC := Lib.hid hc
  have HMZ := Lib.hid (fun (h : mostF firm clss lf = 0) i (hi : i < lf) => mostF_zero h hi)
  have HMG := Lib.hid (mostF_ge firm clss lf)
  clear h0 hok hwf hs hc
  generalize mostF firm clss lf = mo at HFE hmd HMZ HMG
  go_enter Try.func12, Try.ntmps12
  go_wp2_with fail
  refine HFE.out.mono ?_
  rintro e w1 ⟨rfl, k1⟩
  have HK1 := Lib.hid k1
  clear k1
  go_wp2_with fail
  refine (HCK.out _ HK1.out).mono ?_
  rintro e w2 ⟨rfl, rfl⟩
  have d1 : decide ((mo : Int) < 0) = false := by simp
  have d2 : decide ((m : Int) < (mo : Int)) = false := by simp; omega
  have d2n : decide (m < mo) = false := by simp; omega
  have hpr : mo * lf ≤ 64 := Nat.mul_le_mul (show mo ≤ 8 by omega) hl8
  have ecast : ((mo : Int) * (lf : Int)) = ((mo * lf : Nat) : Int) := by rw [Int.natCast_mul]
  have hw1 : wrap64 ((mo : Int) * (lf : Int)) = (mo : Int) * (lf : Int) := by rw [ecast]; exact IntWalk.wrap64_in _ ⟨by omega, by omega⟩
  have hw2 : IntKind.i64.wrap ((mo : Int) * (lf : Int)) = (mo : Int) * (lf : Int) := (IntWalk.i64_left _).trans hw1
  by_cases hz : mo = 0
  · have x1 : decide ((mo : Int) < 1) = true := by simp; omega
    have x2 : decide (0 < (mo : Int)) = false := by simp; omega
    have x3 : decide (0 < mo) = false := by simp; omega
    have x4 : decide (mo < 1) = true := by simp; omega
    have HALL := Lib.hid (allF_any A lf c firm (-1) w1 (HS.out.kept HK1.out) (by omega) (fun y hy => by
      obtain ⟨i, hi, e⟩ := List.getElem_of_mem hy
      have h1 := HMZ.out hz i (by rw [HS.out.2] at hi; exact hi)
      rw [frm_eq hi, e] at h1
      have := (HOK.out y hy).1
      omega))
    clear hpr ecast hw1 hw2 HMG
    by_cases hm0 : m = 0
    · have x5 : ((m : Int) == 0) = true := by rw [beq_iff_eq]; omega
      clear hm0 hz
      go_wp2_with fail
      go_ret
      exact ⟨rfl, HK1.out⟩
    · have x5 : ((m : Int) == 0) = false := by rw [beq_eq_false_iff_ne]; omega
      clear hm0 hz
      go_wp2_with fail
      refine HALL.out.mono ?_
      rintro e w2 ⟨rfl, rfl⟩
      go_wp2_with fail
      go_ret
      exact ⟨rfl, HK1.out⟩
  · have x1 : decide ((mo : Int) < 1) = false := by simp; omega
    have x2 : decide (0 < (mo : Int)) = true := by simp; omega
    have x3 : decide (0 < mo) = true := by simp; omega
    have x4 : decide (mo < 1) = false := by simp; omega
    by_cases h5 : 5 < mo
    · have y1 : decide (5 < (mo : Int)) = true := by simp; omega
      have y2 : decide (5 < mo) = true := by simp; omega
      clear hz h5 hpr ecast hw1 hw2
      go_wp2_with fail
      go_ret
      exact ⟨rfl, HK1.out⟩
    · have y1 : decide (5 < (mo : Int)) = false := by simp; omega
      have y2 : decide (5 < mo) = false := by simp; omega
      by_cases h30 : 30 < mo * lf
      · have z1 : decide (30 < (mo : Int) * (lf : Int)) = true := by rw [decide_eq_true_eq, ecast]; omega
        clear hz h5 hpr ecast h30
        go_wp2_with fail
        go_ret
        exact ⟨rfl, HK1.out⟩
      · have z1 : decide (30 < (mo : Int) * (lf : Int)) = false := by rw [decide_eq_false_iff_not, ecast]; omega
        have HZ := Lib.hid hz
        have H5 := Lib.hid h5
        clear hz h5 hpr ecast h30
        go_wp2_with fail
        clear x1 x2 x3 x4 y1 y2 z1 d1 d2 d2n hw1 hw2
        go_loopw [7, 8, 68] (fun lv dv t wr => ∃ q : Nat, q ≤ lf ∧ t = .int .i64 (q : Nat) ∧ FewL w1 wr lv dv (dsF firm clss q) (doneF firm q)) (fun _ _ t _ => lf - (intOf t).toNat)
        case atStart => exact ⟨0, Nat.zero_le _, rfl, Own.start (Kept.refl _), Own.start (Kept.refl _)⟩
        case round =>
          obtain ⟨q, hq, rfl, hL⟩ := hrel
          obtain ⟨Al, cll, rfl, _, _⟩ := hL.1.form
          obtain ⟨Ad, cd, rfl, _, _⟩ := hL.2.form
          by_cases hlt : q < lf
          · obtain ⟨bf, of, hkf, e1, hbf, cf⟩ := (HS.out.kept (HK1.out.trans hL.1.2)).get q hlt
            subst e1
            have hfr := frm_eq hkf
            have hokf := HOK.out _ (List.getElem_mem hkf)
            generalize firm[q] = f at cf hokf hfr
            have j1 : (0 : Int) ≤ (q : Int) := by omega
            have j2 : (q : Int) < (lf : Int) := by omega
            by_cases hneg : f < 0
            · have HLN := Lib.hid (show FewL w1 wr (.slice Al (dsF firm clss q).length cll) (.slice Ad (doneF firm q).length cd) (dsF firm clss (q + 1)) (doneF firm (q + 1)) by rw [dsF_neg (by rw [hfr]; exact hneg), doneF_neg (by rw [hfr]; exact hneg)]; exact hL)
              have hd : decide (f < 0) = true := by simpa using hneg
              have HLT := Lib.hid hlt
              clear hL hlt hneg hokf hfr
              go_wp2_with fail
              go_roundw
              case rel => exact ⟨q + 1, HLT.out, by go_num, HLN.out⟩
              case measure => have := HLT.out; simp [intOf]; omega
            · obtain ⟨fn, rfl⟩ := Int.eq_ofNat_of_zero_le (show 0 ≤ f by omega)
              have hfm : fn < m := by omega
              have HLD := Lib.hid hL.1
              have HLT := Lib.hid hlt
              have HDM := Lib.hid (show (fn : Int) ∈ doneF firm (q + 1) by rw [← hfr]; exact doneF_here (by rw [hfr]; omega))
              have HDN := Lib.hid (show dsF firm clss (q + 1) = dsF firm clss q ++ [deF (whoF clss (doneF firm (q + 1)) (fn : Int)) q] by rw [dsF_pos (by rw [hfr]; omega), hfr])
              have HDR := Lib.hid (show ∀ g ∈ doneF firm (q + 1), 0 ≤ g ∧ g < (m : Int) from fun g hg => by
                obtain ⟨a, j, hj, e⟩ := (doneF_ok firm (q + 1)).2 g hg
                have hjl : j < firm.length := by rw [HS.out.2]; omega
                refine ⟨a, ?_⟩
                rw [← e, frm_eq hjl]
                exact (HOK.out _ (List.getElem_mem hjl)).2)
              have HDL := Lib.hid (show (doneF firm (q + 1)).length ≤ 8 by have := doneF_short firm (q + 1); omega)
              have HDI := Lib.hid (show doneF firm (q + 1) = if (fn : Int) ∈ doneF firm q then doneF firm q else doneF firm q ++ [(fn : Int)] by have := doneF_if (firm := firm) (i := q) (by rw [hfr]; omega); rw [hfr] at this; exact this)
              have hdl : (doneF firm q).length ≤ 8 := by have := doneF_short firm q; omega
              have HHAS := Lib.hid (hasF_any Ad _ cd (doneF firm q) (fn : Int) wr (own_slI hL.2 rfl) (by omega))
              have hown2 := hL.2
              obtain ⟨D, hD⟩ : ∃ D, doneF firm (q + 1) = D := ⟨_, rfl⟩
              rw [hD] at HDM HDN HDR HDL HDI
              have HDQ := Lib.hid hD
              cases hh : hasI (doneF firm q) (fn : Int)
              · have hnm : (fn : Int) ∉ doneF firm q := fun h => by rw [hasI_iff.2 h] at hh; cases hh
                have hDe : D = doneF firm q ++ [(fn : Int)] := by rw [HDI.out, if_neg hnm]
                have HDE := Lib.hid hDe
                rw [hh] at HHAS
                clear hL hh hnm hDe hD hlt hneg hokf hfr
                go_wp2_with fail
                refine HHAS.out.mono ?_
                rintro e wx ⟨rfl, rfl⟩
                go_wp2_with (at_builtin; refine wpList_push rfl _ _ 61 rfl 3 Try.underlying61 info_i64 rfl (by decide) (by decide) _ _ _ _ hown2 #[.int .i64 (fn : Int)] _ _ 1 1 rfl rfl rfl rfl (one_i64 _) (by omega) ?_; intro v7 w5 hown7 hg7; have HL5 : Hid (FewL w1 w5 (.slice Al (dsF firm clss q).length cll) v7 (dsF firm clss q) D) := Lib.hid ⟨(HLD.out.alloc _).grown hg7 (HLD.out.far2 hown2 (by decide)) hown2.since, by rw [HDE.out, List.length_append, iv_snoc]; exact hown7⟩; obtain ⟨Ad2, cd2, rfl, _, _⟩ := HL5.out.2.form; clear hown7 hg7 hown2)
                go_loopw [11, 85] (fun wv t wr' => ∃ p : Nat, p ≤ D.length ∧ t = .int .i64 (p : Nat) ∧ wv = .int .i64 (cntF clss (D.take p) (cls clss (fn : Int)) : Nat) ∧ Kept w5 wr' ∧ Hid (∀ g ∈ D.take p, g ≠ (fn : Int))) (fun _ t _ => D.length - (intOf t).toNat)
                case atStart => exact ⟨0, Nat.zero_le _, rfl, rfl, Kept.refl _, Lib.hid fun g hg => by simp at hg⟩
                case round =>
                  obtain ⟨p, hp, rfl, rfl, hk5, HNO⟩ := hrel
                  by_cases hlt : p < D.length
                  · obtain ⟨bd, od, hkd, e2, hbd, cdp⟩ := (own_slI (HL5.out.2.kept hk5) rfl).get p hlt
                    subst e2
                    have hgr := HDR.out _ (List.getElem_mem hlt)
                    have HBR := Lib.hid (fun he => whoF_break (clss := clss) (f := (fn : Int)) hlt he HNO.out)
                    have HCA := Lib.hid (show cntF clss (D.take (p + 1)) (cls clss (fn : Int)) = cntF clss (D.take p) (cls clss (fn : Int)) + (if cls clss D[p] = cls clss (fn : Int) then 1 else 0) by rw [take_snoc D p hlt, cntF_app])
                    have HNS := Lib.hid (fun (he : D[p] ≠ (fn : Int)) => show ∀ g ∈ D.take (p + 1), g ≠ (fn : Int) from fun g hg => by
                      rw [take_snoc D p hlt, List.mem_append] at hg
                      rcases hg with hg | hg
                      · exact HNO.out g hg
                      · simp at hg; subst hg; exact he)
                    have hcl8 : cntF clss (D.take p) (cls clss (fn : Int)) ≤ 8 := by
                      unfold cntF
                      have h1 := List.length_filter_le (fun g => cls clss g == cls clss (fn : Int)) (D.take p)
                      have h2 := HDL.out
                      rw [List.length_take] at h1
                      omega
                    have HDL8 := HDL.out
                    generalize D[p] = g at cdp hgr HBR HCA HNS
                    have i1 : (0 : Int) ≤ (p : Int) := by omega
                    have i2 : (p : Int) < (D.length : Int) := by omega
                    have HPL2 := Lib.hid hlt
                    by_cases he : g = (fn : Int)
                    · subst he
                      have HB := Lib.hid (show cntF clss (D.take p) (cls clss (fn : Int)) = whoF clss D (fn : Int) from (HBR.out rfl).symm)
                      have hod := HL5.out.1.kept hk5
                      have HOI := Lib.hid (HL5.out.2.kept hk5)
                      have hdn : (dsF firm clss q).length ≤ q := (dsF_ok firm clss q q (Nat.le_refl _)).1
                      have hfq : ((fn : Int) == (fn : Int)) = true := by simp
                      have HLQ := HLT.out
                      generalize cntF clss (D.take p) (cls clss (fn : Int)) = who at HB hcl8
                      clear hlt hgr
                      go_wp2_with (at_builtin; refine wpList_push rfl _ _ 37 rfl 75 Try.underlying37 info_deedF rfl (by decide) (by decide) _ _ _ _ hod #[.int .i64 1, .int .i64 (who : Int), .int .i64 (q : Int), .int .i64 0, .int .u32 0, .int .i64 0] _ _ 1 1 rfl rfl rfl rfl (one_deF _ _) (by omega) ?_; intro v8 w8 hown8 hg8; have HL8 : Hid (FewL w1 w8 v8 (.slice (some ⟨bd, od, none⟩) D.length cd2) (dsF firm clss (q + 1)) (doneF firm (q + 1))) := Lib.hid (by rw [HDN.out, HDQ.out]; exact ⟨by rw [List.length_append, deCells_one, ← HB.out]; exact hown8, (HOI.out.alloc _).grown hg8 (HOI.out.far2 hod (by decide)) hod.since⟩); clear hown8 hg8 hod)
                      go_roundw
                      case rel => exact ⟨q + 1, HLT.out, by go_num, HL8.out⟩
                      case measure => have := HLT.out; simp [intOf]; omega
                    · obtain ⟨gn, rfl⟩ := Int.eq_ofNat_of_zero_le hgr.1
                      have hgm : gn < m := by omega
                      obtain ⟨bc, oc, hkc, e3, hbc, cc⟩ := (HC.out.kept ((HK1.out.trans HL5.out.1.2).trans hk5)).get gn hgm
                      subst e3
                      obtain ⟨bc', oc', hkc', e3, hbc', cc'⟩ := (HC.out.kept ((HK1.out.trans HL5.out.1.2).trans hk5)).get fn hfm
                      injection e3 with e3
                      injection e3 with ea eb
                      subst ea eb
                      have hne : ((gn : Int) == (fn : Int)) = false := by rw [beq_eq_false_iff_ne]; exact he
                      have HNN := Lib.hid (HNS.out he)
                      have i3 : (0 : Int) ≤ (gn : Int) := by omega
                      have i4 : (gn : Int) < (m : Int) := by omega
                      have i5 : (0 : Int) ≤ (fn : Int) := by omega
                      have i6 : (fn : Int) < (m : Int) := by omega
                      rw [← cls_eq hkc] at cc
                      rw [← cls_eq hkc'] at cc'
                      by_cases hce : cls clss (gn : Int) = cls clss (fn : Int)
                      · have HC1 := Lib.hid (show cntF clss (D.take (p + 1)) (cls clss (fn : Int)) = cntF clss (D.take p) (cls clss (fn : Int)) + 1 by rw [HCA.out, if_pos hce])
                        have hcb : (cls clss (gn : Int) == cls clss (fn : Int)) = true := by rw [beq_iff_eq]; exact hce
                        have HK5 := Lib.hid hk5
                        generalize cntF clss (D.take p) (cls clss (fn : Int)) = who at HC1 hcl8
                        generalize cls clss (gn : Int) = y1 at cc hcb
                        generalize cls clss (fn : Int) = y2 at cc' hcb HC1
                        clear hlt hgr he hce hk5
                        go_wp2_with fail
                        go_quiet (fail)
                        go_wp2_with fail
                        go_roundw
                        case rel => exact ⟨p + 1, HPL2.out, by go_num, by rw [HC1.out]; go_num, HK5.out.drewN _, HNN⟩
                        case measure => have := HPL2.out; simp [intOf]; omega
                      · have HC1 := Lib.hid (show cntF clss (D.take (p + 1)) (cls clss (fn : Int)) = cntF clss (D.take p) (cls clss (fn : Int)) by rw [HCA.out, if_neg hce]; rfl)
                        have hcb : (cls clss (gn : Int) == cls clss (fn : Int)) = false := by rw [beq_eq_false_iff_ne]; exact hce
                        have HK5 := Lib.hid hk5
                        generalize cntF clss (D.take p) (cls clss (fn : Int)) = who at HC1 hcl8
                        generalize cls clss (gn : Int) = y1 at cc hcb
                        generalize cls clss (fn : Int) = y2 at cc' hcb HC1
                        clear hlt hgr he hce hk5
                        go_wp2_with fail
                        go_quiet (fail)
                        go_wp2_with fail
                        go_roundw
                        case rel => exact ⟨p + 1, HPL2.out, by go_num, by rw [HC1.out], HK5.out.drewN _, HNN⟩
                        case measure => have := HPL2.out; simp [intOf]; omega
                  · exact absurd rfl (HNO.out _ (by rw [List.take_of_length_le (by omega)]; exact HDM.out))
              · have hm1 := hasI_iff.1 hh
                have hDe : D = doneF firm q := by rw [HDI.out, if_pos hm1]
                have HL5' : Hid (FewL w1 wr (.slice Al (dsF firm clss q).length cll) (.slice Ad D.length cd) (dsF firm clss q) D) := Lib.hid ⟨HLD.out, by rw [hDe]; exact hown2⟩
                rw [hh] at HHAS
                have HDE := Lib.hid hDe
                obtain ⟨w5, hw5⟩ : ∃ w5 : World, w5 = wr := ⟨_, rfl⟩
                subst hw5
                obtain ⟨Ad2, hAd2⟩ : ∃ Ad2, Ad2 = Ad := ⟨_, rfl⟩
                subst hAd2
                obtain ⟨cd2, hcd2⟩ : ∃ cd2, cd2 = cd := ⟨_, rfl⟩
                subst hcd2
                have HL5 := HL5'
                clear hL hh hm1 hDe hD hlt hneg hokf hfr hown2 HL5'
                go_wp2_with fail
                refine HHAS.out.mono ?_
                rintro e wx ⟨rfl, rfl⟩
                rw [← HDE.out]
                go_wp2_with fail
                go_loopw [11, 85] (fun wv t wr' => ∃ p : Nat, p ≤ D.length ∧ t = .int .i64 (p : Nat) ∧ wv = .int .i64 (cntF clss (D.take p) (cls clss (fn : Int)) : Nat) ∧ Kept w5 wr' ∧ Hid (∀ g ∈ D.take p, g ≠ (fn : Int))) (fun _ t _ => D.length - (intOf t).toNat)
                case atStart => exact ⟨0, Nat.zero_le _, rfl, rfl, Kept.refl _, Lib.hid fun g hg => by simp at hg⟩
                case round =>
                  obtain ⟨p, hp, rfl, rfl, hk5, HNO⟩ := hrel
                  by_cases hlt : p < D.length
                  · obtain ⟨bd, od, hkd, e2, hbd, cdp⟩ := (own_slI (HL5.out.2.kept hk5) rfl).get p hlt
                    subst e2
                    have hgr := HDR.out _ (List.getElem_mem hlt)
                    have HBR := Lib.hid (fun he => whoF_break (clss := clss) (f := (fn : Int)) hlt he HNO.out)
                    have HCA := Lib.hid (show cntF clss (D.take (p + 1)) (cls clss (fn : Int)) = cntF clss (D.take p) (cls clss (fn : Int)) + (if cls clss D[p] = cls clss (fn : Int) then 1 else 0) by rw [take_snoc D p hlt, cntF_app])
                    have HNS := Lib.hid (fun (he : D[p] ≠ (fn : Int)) => show ∀ g ∈ D.take (p + 1), g ≠ (fn : Int) from fun g hg => by
                      rw [take_snoc D p hlt, List.mem_append] at hg
                      rcases hg with hg | hg
                      · exact HNO.out g hg
                      · simp at hg; subst hg; exact he)
                    have hcl8 : cntF clss (D.take p) (cls clss (fn : Int)) ≤ 8 := by
                      unfold cntF
                      have h1 := List.length_filter_le (fun g => cls clss g == cls clss (fn : Int)) (D.take p)
                      have h2 := HDL.out
                      rw [List.length_take] at h1
                      omega
                    have HDL8 := HDL.out
                    generalize D[p] = g at cdp hgr HBR HCA HNS
                    have i1 : (0 : Int) ≤ (p : Int) := by omega
                    have i2 : (p : Int) < (D.length : Int) := by omega
                    have HPL2 := Lib.hid hlt
                    by_cases he : g = (fn : Int)
                    · subst he
                      have HB := Lib.hid (show cntF clss (D.take p) (cls clss (fn : Int)) = whoF clss D (fn : Int) from (HBR.out rfl).symm)
                      have hod := HL5.out.1.kept hk5
                      have HOI := Lib.hid (HL5.out.2.kept hk5)
                      have hdn : (dsF firm clss q).length ≤ q := (dsF_ok firm clss q q (Nat.le_refl _)).1
                      have hfq : ((fn : Int) == (fn : Int)) = true := by simp
                      have HLQ := HLT.out
                      generalize cntF clss (D.take p) (cls clss (fn : Int)) = who at HB hcl8
                      clear hlt hgr
                      go_wp2_with (at_builtin; refine wpList_push rfl _ _ 37 rfl 75 Try.underlying37 info_deedF rfl (by decide) (by decide) _ _ _ _ hod #[.int .i64 1, .int .i64 (who : Int), .int .i64 (q : Int), .int .i64 0, .int .u32 0, .int .i64 0] _ _ 1 1 rfl rfl rfl rfl (one_deF _ _) (by omega) ?_; intro v8 w8 hown8 hg8; have HL8 : Hid (FewL w1 w8 v8 (.slice (some ⟨bd, od, none⟩) D.length cd2) (dsF firm clss (q + 1)) (doneF firm (q + 1))) := Lib.hid (by rw [HDN.out, HDQ.out]; exact ⟨by rw [List.length_append, deCells_one, ← HB.out]; exact hown8, (HOI.out.alloc _).grown hg8 (HOI.out.far2 hod (by decide)) hod.since⟩); clear hown8 hg8 hod)
                      go_roundw
                      case rel => exact ⟨q + 1, HLT.out, by go_num, HL8.out⟩
                      case measure => have := HLT.out; simp [intOf]; omega
                    · obtain ⟨gn, rfl⟩ := Int.eq_ofNat_of_zero_le hgr.1
                      have hgm : gn < m := by omega
                      obtain ⟨bc, oc, hkc, e3, hbc, cc⟩ := (HC.out.kept ((HK1.out.trans HL5.out.1.2).trans hk5)).get gn hgm
                      subst e3
                      obtain ⟨bc', oc', hkc', e3, hbc', cc'⟩ := (HC.out.kept ((HK1.out.trans HL5.out.1.2).trans hk5)).get fn hfm
                      injection e3 with e3
                      injection e3 with ea eb
                      subst ea eb
                      have hne : ((gn : Int) == (fn : Int)) = false := by rw [beq_eq_false_iff_ne]; exact he
                      have HNN := Lib.hid (HNS.out he)
                      have i3 : (0 : Int) ≤ (gn : Int) := by omega
                      have i4 : (gn : Int) < (m : Int) := by omega
                      have i5 : (0 : Int) ≤ (fn : Int) := by omega
                      have i6 : (fn : Int) < (m : Int) := by omega
                      rw [← cls_eq hkc] at cc
                      rw [← cls_eq hkc'] at cc'
                      by_cases hce : cls clss (gn : Int) = cls clss (fn : Int)
                      · have HC1 := Lib.hid (show cntF clss (D.take (p + 1)) (cls clss (fn : Int)) = cntF clss (D.take p) (cls clss (fn : Int)) + 1 by rw [HCA.out, if_pos hce])
                        have hcb : (cls clss (gn : Int) == cls clss (fn : Int)) = true := by rw [beq_iff_eq]; exact hce
                        have HK5 := Lib.hid hk5
                        generalize cntF clss (D.take p) (cls clss (fn : Int)) = who at HC1 hcl8
                        generalize cls clss (gn : Int) = y1 at cc hcb
                        generalize cls clss (fn : Int) = y2 at cc' hcb HC1
                        clear hlt hgr he hce hk5
                        go_wp2_with fail
                        go_quiet (fail)
                        go_wp2_with fail
                        go_roundw
                        case rel => exact ⟨p + 1, HPL2.out, by go_num, by rw [HC1.out]; go_num, HK5.out.drewN _, HNN⟩
                        case measure => have := HPL2.out; simp [intOf]; omega
                      · have HC1 := Lib.hid (show cntF clss (D.take (p + 1)) (cls clss (fn : Int)) = cntF clss (D.take p) (cls clss (fn : Int)) by rw [HCA.out, if_neg hce]; rfl)
                        have hcb : (cls clss (gn : Int) == cls clss (fn : Int)) = false := by rw [beq_eq_false_iff_ne]; exact hce
                        have HK5 := Lib.hid hk5
                        generalize cntF clss (D.take p) (cls clss (fn : Int)) = who at HC1 hcl8
                        generalize cls clss (gn : Int) = y1 at cc hcb
                        generalize cls clss (fn : Int) = y2 at cc' hcb HC1
                        clear hlt hgr he hce hk5
                        go_wp2_with fail
                        go_quiet (fail)
                        go_wp2_with fail
                        go_roundw
                        case rel => exact ⟨p + 1, HPL2.out, by go_num, by rw [HC1.out], HK5.out.drewN _, HNN⟩
                        case measure => have := HPL2.out; simp [intOf]; omega
                  · exact absurd rfl (HNO.out _ (by rw [List.take_of_length_le (by omega)]; exact HDM.out))
          · have hql : q = lf := by omega
            subst hql
            have hsl3 := own_slW hL.1
            have hds := dsF_ok firm clss q q (Nat.le_refl _)
            have HP := Lib.hid (HPL.out mo Al _ cll (dsF firm clss q) wr (HK1.out.trans hL.1.2) ⟨hsl3, rfl⟩ (by have := HZ.out; omega) (by have := H5.out; omega) (by have := hds.1; omega) (fun d hd => by
              obtain ⟨i, hi, hp, e⟩ := hds.2 d hd
              refine ⟨i, hi, hp, ?_, e⟩
              have h1 := whoF_lt (clss := clss) (doneF_mem hp hi)
              have h2 := HMG.out _ (doneF_mem hp hi)
              omega))
            have HKE := Lib.hid (HK1.out.trans hL.1.2)
            have hnd : (dsF firm clss q).length ≤ 8 := by omega
            generalize (dsF firm clss q).length = nd at HP hnd ⊢
            clear hL hds hsl3 hlt
            go_wp2_with fail
            refine HP.out.mono ?_
            rintro e w5 ⟨k5, AC, AR, AF, cC, cR, cF, rfl, hCo⟩
            have kb := (Kept.refl w5).alloc (.cells #[.slice AC nd cC, .slice AR mo cR, .slice AF q cF] 66)
            have bx := Box.new w5 #[.slice AC nd cC, .slice AR mo cR, .slice AF q cF] 66 w5.heap.size rfl
            have b0 := bx.at_ 0 (u := .slice AC nd cC) rfl
            have HCO := Lib.hid (hCo.kept kb)
            have HKF := Lib.hid ((HKE.out.trans k5).trans kb)
            have n3 : ((nd : Int) != (nd : Int)) = false := by simp
            obtain ⟨w6, hw6⟩ : ∃ w6, w5.alloc (.cells #[.slice AC nd cC, .slice AR mo cR, .slice AF q cF] 66) = w6 := ⟨_, rfl⟩
            rw [hw6] at b0 HCO HKF
            clear k5 kb bx hCo
            go_wp2_with fail
            clear n3
            go_loopw [132] (fun t wr => ∃ i : Nat, i ≤ nd ∧ t = .int .i64 (i : Nat) ∧ wr = w6) (fun t _ => nd - (intOf t).toNat)
            case atStart => exact ⟨0, Nat.zero_le _, rfl, by first | rfl | exact hw6⟩
            case round =>
              obtain ⟨i, hi, rfl, rfl⟩ := hrel
              by_cases hlti : i < nd
              · obtain ⟨bo, oo, rfl, hbo, hcs⟩ := HCO.out.2 (by omega)
                have co := hcs i (.int .i64 0) (by simp [hlti])
                have j1 : (0 : Int) ≤ (i : Int) := by omega
                have j2 : (i : Int) < (nd : Int) := by omega
                clear hcs
                go_wp2_with fail
                go_roundw
                case rel => exact ⟨i + 1, by omega, by go_num, trivial⟩
                case measure => simp [intOf]; omega
              · go_wp2_with fail
                go_ret
                exact ⟨rfl, HKF.out⟩
theorem wallFew_walk (A : Option Addr) (lf c : Nat) (firm : List Int) (A2 : Option Addr) (m c2 : Nat) (clss : List Int) (w : World) (hl : lf ≤ maxLen) (hs : SlI w A lf firm ∧ ∀ z ∈ firm, (Lit.int .i64 z).wf = true) (hl2 : m ≤ maxLen) (hc : SlI w A2 m clss ∧ ∀ z ∈ clss, (Lit.int .i64 z).wf = true) :
    Calls Try.prog 12 #[.slice A lf c, .slice A2 m c2] w fun e w' => e = .returned (.bool true) ∧ Below w.heap.size w w' := by
  suffices h : Calls Try.prog 12 #[.slice A lf c, .slice A2 m c2] w fun e w' => e = .returned (.bool true) ∧ Kept w w' from h.mono fun e w' ⟨h1, h2⟩ => ⟨h1, h2.below⟩
  by_cases h0 : firmF firm clss = 0
  · exact wallFew_good A lf c firm A2 m c2 clss w hs.1 hc.1 hc.2 h0
  · have HFE := Lib.hid (fewest_bad A lf c firm A2 m c2 clss w hs.1 hc.1 h0)
    have HCK := Lib.hid (fun w' (k : Kept w w') => firmsCheck_any A lf c firm A2 m c2 clss w' (hs.1.kept k) (hc.1.kept k))
    unfold RetFew at HFE
    rw [if_neg h0] at HFE
    have hne : (firmF firm clss != 0) = true := by simpa using h0
    clear h0 hs hc
    generalize firmF firm clss = ff at HFE HCK hne
    go_enter Try.func12, Try.ntmps12
    go_wp2_with fail
    refine HFE.out.mono ?_
    rintro e w1 ⟨rfl, k1⟩
    have HK1 := Lib.hid k1
    clear k1
    go_wp2_with fail
    refine (HCK.out _ HK1.out).mono ?_
    rintro e w2 ⟨rfl, rfl⟩
    go_wp2_with fail
    go_ret
    exact ⟨rfl, HK1.out⟩
end Go.Proofs.Ytnnddjanbfamkaa
