/- The walks of wall.Fewest, syllogistref.Has and syllogistkeep.all. -/
import Derived.Test.YtnnddjanbfamkaaFew3
namespace Go.Proofs.Ytnnddjanbfamkaa
open Go Go.RowKit
set_option linter.unusedVariables false

theorem run_eql_map_nilF (w : World) (m : Option Nat) : (binOp .eql 98 (.map m) (.map none)).run Try.prog w = .ok (.bool m.isNone) w := by
  simp only [binOp]
  simp [run_equal_map_nil w 98 _ _ m Try.underlying98]
theorem wf_small {x : Int} (h1 : -1000 ≤ x) (h2 : x ≤ 1000) : (Lit.int .i64 x).wf = true := by
  have a : IntKind.min .i64 = -9223372036854775808 := rfl
  have b : IntKind.max .i64 = 9223372036854775807 := rfl
  show (decide (IntKind.min .i64 ≤ x) && decide (x ≤ IntKind.max .i64)) = true
  rw [a, b, Bool.and_eq_true, decide_eq_true_eq, decide_eq_true_eq]
  omega
def RetFew (w : World) (firm clss : List Int) (e : Ending) (w' : World) : Prop := e = .returned (.tuple #[.int .i64 (if firmF firm clss = 0 then (mostF firm clss firm.length : Int) else 0), .int .i64 (firmF firm clss)]) ∧ Kept w w'
set_option maxRecDepth 100000 in
set_option maxHeartbeats 4000000 in
theorem fewest_bad (A : Option Addr) (len c : Nat) (firm : List Int) (A2 : Option Addr) (m c2 : Nat) (clss : List Int) (w : World) (hs : SlI w A len firm) (hc : SlI w A2 m clss) (h0 : firmF firm clss ≠ 0) :
    Calls Try.prog 36 #[.slice A len c, .slice A2 m c2] w (RetFew w firm clss) := by
  have HW := Lib.hid (wallWrong_any A len c firm A2 m c2 clss w hs hc)
  have hne : (firmF firm clss != 0) = true := by simpa using h0
  have HIF := Lib.hid (show (if firmF firm clss = 0 then (mostF firm clss firm.length : Int) else 0) = 0 by rw [if_neg h0])
  clear h0
  unfold RetFew
  rw [HIF.out]
  generalize firmF firm clss = ff at hne HW ⊢
  clear HIF
  go_enter Try.func36, Try.ntmps36
  go_wp2_with fail
  refine HW.out.mono ?_
  rintro e w1 ⟨rfl, k1⟩
  have HK := Lib.hid k1
  clear k1
  go_wp2_with fail
  go_ret2
  exact ⟨rfl, HK.out⟩
set_option maxRecDepth 100000 in
set_option maxHeartbeats 4000000 in
theorem fewest_good (A : Option Addr) (len c : Nat) (firm : List Int) (A2 : Option Addr) (m c2 : Nat) (clss : List Int) (w : World) (hs : SlI w A len firm) (hc : SlI w A2 m clss) (hwf : ∀ z ∈ clss, (Lit.int .i64 z).wf = true) (h0 : firmF firm clss = 0) :
    Calls Try.prog 36 #[.slice A len c, .slice A2 m c2] w (RetFew w firm clss) := by
  have HW := Lib.hid (wallWrong_any A len c firm A2 m c2 clss w hs hc)
  obtain ⟨hl8, hm8, hok⟩ := firmF_zero h0
  rw [hs.2] at hl8
  rw [hc.2] at hm8 hok
  unfold RetFew
  rw [h0] at HW ⊢
  simp only [if_true]
  rw [hs.2]
  have HOK := Lib.hid hok
  have HWF := Lib.hid hwf
  have HS := Lib.hid hs
  have HC := Lib.hid hc
  have HMM := @run_makeMap Try.prog
  clear h0 hok hwf hs hc
  go_enter Try.func36, Try.ntmps36
  go_wp2_with fail
  refine HW.out.mono ?_
  rintro e w1 ⟨rfl, k1⟩
  have HK := Lib.hid k1
  have HST := Lib.hid (FwM.start w1 clss (fun _ => 0) (fun _ => .map none))
  clear k1
  go_wp2_with fail
  generalize w1.heap.size = b at HST ⊢
  go_loopw [8, 20] (fun mo t wr => ∃ (q : Nat) (cs : List Int) (Bs : Int → Nat) (g : Value → Value), q ≤ len ∧ t = .int .i64 (q : Nat) ∧ mo = .int .i64 (mostF firm clss q : Nat) ∧ FwM w1 wr b clss (doneF firm q) cs Bs g ∧ cs.length ≤ q) (fun _ t _ => len - (intOf t).toNat)
  case atStart => exact ⟨0, [], _, _, Nat.zero_le _, rfl, rfl, HST.out, Nat.le_refl _⟩
  case round =>
    obtain ⟨q, cs, Bs, g, hq, rfl, rfl, hfw, hcl⟩ := hrel
    by_cases hlt : q < len
    · obtain ⟨bf, of, hkf, rfl, hbf, cf⟩ := HS.out.get q hlt
      have hfr := frm_eq hkf
      have hokf := HOK.out _ (List.getElem_mem hkf)
      obtain ⟨f, hff⟩ : ∃ f, firm[q] = f := ⟨_, rfl⟩
      rw [hff] at cf hokf hfr
      have HFW := Lib.hid hfw
      have HLT := Lib.hid hlt
      have HCF := Lib.hid (fun (w' : World) (k : Kept w1 w') => ((HK.out.trans k).cell (p := ⟨bf, of + q, none⟩) hbf).trans cf)
      have cf0 := HCF.out _ hfw.kept
      have j1 : (0 : Int) ≤ (q : Int) := by omega
      have j2 : (q : Int) < (len : Int) := by omega
      clear hff
      by_cases hneg : f < 0
      · have HD := Lib.hid (show FwM w1 wr b clss (doneF firm (q + 1)) cs Bs g by rw [doneF_neg (by rw [hfr]; exact hneg)]; exact hfw)
        have HM := Lib.hid (show mostF firm clss (q + 1) = mostF firm clss q from mostF_neg (by rw [hfr]; exact hneg))
        have hd : decide (f < 0) = true := by simpa using hneg
        clear hfw hlt hneg hokf hfr HCF
        go_wp2_with fail
        go_roundw
        case rel => exact ⟨q + 1, cs, Bs, g, HLT.out, by go_num, by rw [HM.out], HD.out, by omega⟩
        case measure => have := HLT.out; simp [intOf]; omega
      · obtain ⟨fn, rfl⟩ := Int.eq_ofNat_of_zero_le (show 0 ≤ f by omega)
        have hfm : fn < m := by omega
        obtain ⟨bc, oc, hkc, rfl, hbc, cc⟩ := HC.out.get fn hfm
        have hcls : cls clss (fn : Int) = clss[fn] := cls_eq hkc
        have hwc := HWF.out _ (List.getElem_mem hkc)
        rw [← hcls] at cc hwc
        have HCC := Lib.hid (fun (w' : World) (k : Kept w1 w') => ((HK.out.trans k).cell (p := ⟨bc, oc + fn, none⟩) hbc).trans cc)
        have hwff : (Lit.int .i64 (fn : Int)).wf = true := wf_small (by omega) (by omega)
        have hdi := doneF_if (firm := firm) (i := q) (by rw [hfr]; omega)
        have hmp := mostF_pos (firm := firm) (i := q) (clss := clss) (by rw [hfr]; omega)
        rw [hfr] at hdi hmp
        have HMP := Lib.hid hmp
        have hdl : (doneF firm q).length ≤ 1000 := by have := doneF_short firm q; omega
        have j3 : (0 : Int) ≤ (fn : Int) := by omega
        have j4 : (fn : Int) < (m : Int) := by omega
        have cc0 := HCC.out _ hfw.kept
        -- the second half: the class is there
        have HADD := Lib.hid (fun (w5 : World) (cs' : List Int) (Bs' : Int → Nat) (g' : Value → Value) (h5 : FwM w1 w5 b clss (doneF firm q) cs' Bs' g') (hin : cls clss (fn : Int) ∈ cs') => h5.add hin hwff hdl hdi)
        obtain ⟨cl, hcl2⟩ : ∃ cl, cls clss (fn : Int) = cl := ⟨_, rfl⟩
        rw [hcl2] at cc cc0 hwc HCC HADD HMP
        clear hdi hmp hcls hdl hneg hokf hfr hcl2
        have hcn : cntF clss (doneF firm (q + 1)) cl ≤ 1000 := by
          unfold cntF
          have := List.length_filter_le (fun g => cls clss g == cl) (doneF firm (q + 1))
          have := doneF_short firm (q + 1)
          omega
        have hmn : mostF firm clss q ≤ 1000 := by
          have := mostF_le firm clss q
          have := doneF_short firm q
          omega
        generalize hct : cntF clss (doneF firm (q + 1)) cl = ct at HMP HADD hcn
        generalize hmo : mostF firm clss q = mo at HMP hmn
        have HMAX : Hid (∃ mv : Nat, mostF firm clss (q + 1) = mv ∧ ((mo < ct ∧ mv = ct) ∨ (¬ mo < ct ∧ mv = mo))) := Lib.hid ⟨_, rfl, by rw [HMP.out]; omega⟩
        have HCN := Lib.hid hcn
        have HMN := Lib.hid hmn
        clear hct hmo hcn hmn
        by_cases hin : cl ∈ cs
        · obtain ⟨w6, hr6, hfw6, hl6⟩ := HADD.out wr cs Bs g hfw hin
          have lk0 := hfw.look hin
          have lk6 := hfw6.look hin
          have cf6 := HCF.out _ hfw6.kept
          have cc6 := HCC.out _ hfw6.kept
          have hnn := run_eql_map_nilF wr (some (Bs cl))
          simp only [Option.isNone_some] at hnn
          have HFW6 := Lib.hid hfw6
          clear hfw hfw6 hin hlt
          obtain ⟨mv, hmv, ⟨hlt2, hmv2⟩ | ⟨hge2, hmv2⟩⟩ := HMAX.out
          · have i2 : (mo : Int) < (ct : Int) := by omega
            have HMV := Lib.hid (hmv.trans hmv2)
            clear hmv hmv2
            go_wp2_with fail
            go_roundw
            case rel => exact ⟨q + 1, cs, Bs, g, HLT.out, by go_num, by rw [HMV.out], HFW6.out, by omega⟩
            case measure => have := HLT.out; simp [intOf]; omega
          · have i2 : ¬ ((mo : Int) < (ct : Int)) := by omega
            have HMV := Lib.hid (hmv.trans hmv2)
            clear hmv hmv2
            go_wp2_with fail
            go_roundw
            case rel => exact ⟨q + 1, cs, Bs, g, HLT.out, by go_num, by rw [HMV.out], HFW6.out, by omega⟩
            case measure => have := HLT.out; simp [intOf]; omega
        · obtain ⟨w5, g5, hr5, hfw5⟩ := hfw.new hin hwc (by omega)
          have lkm := hfw.miss hin hwc
          have hin5 : cl ∈ cs ++ [cl] := by simp
          obtain ⟨w6, hr6, hfw6, hl6⟩ := HADD.out w5 _ _ g5 hfw5 hin5
          have lk5 := hfw5.look hin5
          have lk6 := hfw6.look hin5
          simp only [if_true] at lk5 lk6 hr6 hl6
          have cfa := HCF.out (wr.alloc (.map #[] 0)) (hfw.kept.alloc _)
          have cca := HCC.out (wr.alloc (.map #[] 0)) (hfw.kept.alloc _)
          have cf5 := HCF.out _ hfw5.kept
          have cc5 := HCC.out _ hfw5.kept
          have cf6 := HCF.out _ hfw6.kept
          have cc6 := HCC.out _ hfw6.kept
          have hnn := run_eql_map_nilF wr none
          simp only [Option.isNone_none] at hnn
          have HFW6 := Lib.hid hfw6
          have HLC : Hid ((cs ++ [cl]).length ≤ q + 1) := Lib.hid (by simp; omega)
          clear hfw hfw5 hfw6 hin hin5 hlt
          obtain ⟨mv, hmv, ⟨hlt2, hmv2⟩ | ⟨hge2, hmv2⟩⟩ := HMAX.out
          · have i2 : (mo : Int) < (ct : Int) := by omega
            have HMV := Lib.hid (hmv.trans hmv2)
            clear hmv hmv2
            go_wp2_with fail
            go_roundw
            case rel => exact ⟨q + 1, _, _, _, HLT.out, by go_num, by rw [HMV.out], HFW6.out, HLC.out⟩
            case measure => have := HLT.out; simp [intOf]; omega
          · have i2 : ¬ ((mo : Int) < (ct : Int)) := by omega
            have HMV := Lib.hid (hmv.trans hmv2)
            clear hmv hmv2
            go_wp2_with fail
            go_roundw
            case rel => exact ⟨q + 1, _, _, _, HLT.out, by go_num, by rw [HMV.out], HFW6.out, HLC.out⟩
            case measure => have := HLT.out; simp [intOf]; omega
    · have hql : q = len := by omega
      subst hql
      have HKE := Lib.hid (HK.out.trans hfw.kept)
      clear hfw
      go_wp2_with fail
      go_ret2
      exact ⟨rfl, HKE.out⟩
def hasI (xs : List Int) (x : Int) : Bool := xs.any fun y => x == y
theorem hasI_iff {xs : List Int} {x : Int} : hasI xs x = true ↔ x ∈ xs := by
  unfold hasI
  rw [List.any_eq_true]
  constructor
  · rintro ⟨y, hy, e⟩
    rw [beq_iff_eq] at e
    rw [e]; exact hy
  · exact fun h => ⟨x, h, by simp⟩
theorem hasF_any (A : Option Addr) (n c : Nat) (xs : List Int) (x : Int) (w : World) (hs : SlI w A n xs) (hn : n ≤ 1000) :
    Calls Try.prog 39 #[.slice A n c, .int .i64 x] w fun e w' => e = .returned (.bool (hasI xs x)) ∧ w = w' := by
  have HS := Lib.hid hs
  clear hs
  go_enter Try.func39, Try.ntmps39
  go_wp2_with fail
  go_loopw [9] (fun t wr => ∃ q : Nat, q ≤ n ∧ t = .int .i64 (q : Nat) ∧ w = wr ∧ Hid ((xs.take q).any (fun y => x == y) = false)) (fun t _ => n - (intOf t).toNat)
  case atStart => exact ⟨0, Nat.zero_le _, rfl, rfl, Lib.hid rfl⟩
  case round =>
    obtain ⟨q, hq, rfl, rfl, HNO⟩ := hrel
    by_cases hlt : q < n
    · obtain ⟨b, off, hk, rfl, hb, cq⟩ := HS.out.get q hlt
      have HSN := Lib.hid (any_snoc (fun y => x == y) xs q hk)
      have HIN := Lib.hid (show (x == xs[q]) = true → hasI xs x = true from fun h => List.any_eq_true.2 ⟨_, List.getElem_mem hk, h⟩)
      generalize xs[q] = y at cq HSN HIN
      have j1 : (0 : Int) ≤ (q : Int) := by omega
      have j2 : (q : Int) < (n : Int) := by omega
      have HLT := Lib.hid hlt
      clear hlt
      cases hxy : x == y
      · have HN := Lib.hid (show (xs.take (q + 1)).any (fun y => x == y) = false by rw [HSN.out, HNO.out, hxy]; rfl)
        go_wp2_with fail
        go_roundw
        case rel => exact ⟨q + 1, HLT.out, by go_num, trivial, HN⟩
        case measure => have := HLT.out; simp [intOf]; omega
      · have HN := Lib.hid (HIN.out hxy)
        go_wp2_with fail
        go_ret
        exact ⟨by rw [HN.out]; rfl, rfl⟩
    · have HN := Lib.hid (show hasI xs x = false by
        have := HNO.out
        rw [take_all xs q (by rw [HS.out.2]; omega)] at this
        exact this)
      go_wp2_with fail
      go_ret
      exact ⟨by rw [HN.out]; rfl, rfl⟩
theorem allF_any (A : Option Addr) (n c : Nat) (xs : List Int) (x : Int) (w : World) (hs : SlI w A n xs) (hn : n ≤ 1000) (hall : ∀ y ∈ xs, y = x) :
    Calls Try.prog 38 #[.slice A n c, .int .i64 x] w fun e w' => e = .returned (.bool true) ∧ w = w' := by
  have HS := Lib.hid hs
  have HA := Lib.hid hall
  clear hs hall
  go_enter Try.func38, Try.ntmps38
  go_wp2_with fail
  go_loopw [9] (fun t wr => ∃ q : Nat, q ≤ n ∧ t = .int .i64 (q : Nat) ∧ w = wr) (fun t _ => n - (intOf t).toNat)
  case atStart => exact ⟨0, Nat.zero_le _, rfl, rfl⟩
  case round =>
    obtain ⟨q, hq, rfl, rfl⟩ := hrel
    by_cases hlt : q < n
    · obtain ⟨b, off, hk, rfl, hb, cq⟩ := HS.out.get q hlt
      rw [HA.out _ (List.getElem_mem hk)] at cq
      have hne : (x != x) = false := by simp
      have j1 : (0 : Int) ≤ (q : Int) := by omega
      have j2 : (q : Int) < (n : Int) := by omega
      have HLT := Lib.hid hlt
      clear hlt
      go_wp2_with fail
      go_roundw
      case rel => exact ⟨q + 1, HLT.out, by go_num, trivial⟩
      case measure => have := HLT.out; simp [intOf]; omega
    · go_wp2_with fail
      go_ret
      exact ⟨rfl, rfl⟩
end Go.Proofs.Ytnnddjanbfamkaa
