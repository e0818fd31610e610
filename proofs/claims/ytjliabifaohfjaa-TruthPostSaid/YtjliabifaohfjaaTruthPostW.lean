/- TruthPost: the walk of the statement. -/
import Derived.Test.YtjliabifaohfjaaClass
import Derived.Test.YtjliabifaohfjaaMatB
import Derived.BigQuiet
namespace Go.Proofs.Ytjliabifaohfjaa.truthPostDone
open Go Go.RowKit
set_option linter.unusedVariables false

theorem in_any (x y : BitVec 32) (w : World) : Calls Try.prog 17 #[.int .u32 (W x), .int .u32 (W y)] w fun e w' => e = .returned (.bool (subB x y)) ∧ w = w' := by
  go_enter Try.func17, Try.ntmps17
  go_wp2
  go_ret
  exact ⟨rfl, rfl⟩
theorem in_is (x y : BitVec 32) (hb : subB x y = true) (w : World) : Calls Try.prog 17 #[.int .u32 (W x), .int .u32 (W y)] w fun e w' => e = .returned (.bool true) ∧ w = w' := by
  rw [← hb]
  exact in_any x y w
def gAt (rs : List Bv2) (v : Nat) : List Bool := (rs.getD v (none, 0, 0, [])).2.2.2
theorem gAt_eq {rs : List Bv2} {v : Nat} (h : v < rs.length) : gAt rs v = rs[v].2.2.2 := by
  unfold gAt
  rw [List.getD_eq_getElem?_getD, List.getElem?_eq_getElem h]
  rfl
theorem in_lt16 {n : Nat} (hn : n ≤ 4) (g : Nat → Nat → Bool) (s : Nat) {v : Nat} (hv : v ≤ n) : inN g s v < 16 := by
  have h1 := inN_lt g s v
  have h2 : 2 ^ v ≤ 2 ^ n := Nat.pow_le_pow_right (by omega) hv
  have := pow_le4 n hn
  omega
theorem bad (n : Int) (A : Option Addr) (len c : Nat) (f : List Bool) (A2 : Option Addr) (len2 c2 : Nat) (rs : List Bv2) (w : World) (hl : len ≤ maxLen) (hf : SlB w A len f) (h : truthF n f ≠ 0) :
    Calls Try.prog 5 #[.int .i64 n, .slice A len c, .slice A2 len2 c2] w fun e w' => e = .returned (.bool true) ∧ Kept w w' := by
  have hne : (truthF n f != 0) = true := by simpa using h
  have hz : (truthF n f == 0) = false := by simpa using h
  have HNE := Lib.hid hne
  clear h
  go_enter Try.func5, Try.ntmps5
  go_wp2_with fail
  refine (classX_no n A len c f _ hl hf HNE.out).mono ?_
  rintro e w1 ⟨rfl, k1⟩
  go_wp2_with fail
  refine (stated_any n A len c f _ hl (hf.kept k1)).mono ?_
  rintro e w2 ⟨rfl, rfl⟩
  go_wp2_with fail
  go_ret
  exact ⟨rfl, k1⟩
set_option maxRecDepth 100000 in
set_option maxHeartbeats 8000000 in
theorem good (n : Nat) (A : Option Addr) (len c : Nat) (f : List Bool) (A2 : Option Addr) (len2 c2 : Nat) (rs : List Bv2) (w : World) (hl : len ≤ maxLen) (hf : SlB w A len f) (hl2 : len2 ≤ maxLen) (hg : SlBM w A2 len2 rs) (h : truthF n f = 0) :
    Calls Try.prog 5 #[.int .i64 n, .slice A len c, .slice A2 len2 c2] w fun e w' => e = .returned (.bool true) ∧ Kept w w' := by
  obtain ⟨_, hn4, hlen⟩ := truthF_zero h
  rw [Int.toNat_natCast] at hlen
  have hn4 : n ≤ 4 := by omega
  have hleq : len = 2 ^ n := hf.2.symm.trans hlen
  have hl16 : len ≤ 16 := by rw [hleq]; exact pow_le4 n hn4
  have HC := Lib.hid h
  have HFL := Lib.hid hlen
  have HL := Lib.hid hleq
  have HF := Lib.hid hf
  have HG := Lib.hid hg
  have HML := Lib.hid hl
  have HCF := Lib.hid (show Calls Try.prog 16 #[.int .i64 n, .slice A len c] w fun e w' => e = .returned (.tuple #[.int .u32 (W (classF n f)), .int .i64 0]) ∧ Kept w w' by
    have := classX_ok n A len c f w hl hf h
    rw [Int.toNat_natCast] at this
    exact this)
  clear h hlen hleq hf hg hl
  by_cases hq : len2 = n
  case neg =>
    have hb : ((len2 : Int) != (n : Int)) = true := by rw [bne_iff_ne]; omega
    clear hq
    go_enter Try.func5, Try.ntmps5
    go_wp2_with fail
    refine HCF.out.mono ?_
    rintro e w1 ⟨rfl, k1⟩
    go_wp2_with fail
    refine (stated_any n A len c f _ HML.out (HF.out.kept k1)).mono ?_
    rintro e w2 ⟨rfl, rfl⟩
    rw [HC.out]
    go_wp2_with fail
    go_ret
    exact ⟨rfl, k1⟩
  subst hq
  have hb : ((len2 : Int) != (len2 : Int)) = false := by simp
  go_enter Try.func5, Try.ntmps5
  go_wp2_with fail
  refine HCF.out.mono ?_
  rintro e w1 ⟨rfl, k1⟩
  go_wp2_with fail
  refine (stated_any len2 A len c f _ HML.out (HF.out.kept k1)).mono ?_
  rintro e w2 ⟨rfl, rfl⟩
  rw [HC.out]
  have HW0 := Lib.hid (show classF len2 f = allW len2 f (gAt rs) 0 from rfl)
  have HK1 := Lib.hid k1
  clear k1
  go_wp2_with fail
  go_loopw [9, 44] (fun a t wr => ∃ q : Nat, q ≤ len2 ∧ t = .int .i64 q ∧ a = .int .u32 (W (allW len2 f (gAt rs) q)) ∧ Kept w1 wr ∧ Hid (∀ v, v < q → truthF len2 (gAt rs v) = 0)) (fun _ t _ => len2 - (intOf t).toNat)
  case atStart => exact ⟨0, Nat.zero_le _, rfl, by rw [← HW0.out], Kept.refl _, Lib.hid (fun v hv => absurd hv (Nat.not_lt_zero _))⟩
  case round =>
    obtain ⟨q, hq, rfl, rfl, kq, HOK⟩ := hrel
    by_cases hlt : q < len2
    · obtain ⟨b, off, hkq, rfl, _, cq, hrow, hrl⟩ := (HG.out.kept (HK1.out.trans kq)).get q hlt
      have HGQ := Lib.hid (gAt_eq hkq)
      have HS := Lib.hid (show allW len2 f (gAt rs) (q + 1) = allW len2 f (gAt rs) q &&& classF len2 (gAt rs q) from rfl)
      generalize rs[q] = r at cq hrow hrl HGQ
      obtain ⟨Ag, lg, cg, g⟩ := r
      simp only at cq hrow hrl HGQ
      rw [HGQ.out] at HS
      generalize allW len2 f (gAt rs) q = y at HS
      have hi1 : (0 : Int) ≤ (q : Int) := by omega
      have hi2 : (q : Int) < (len2 : Int) := by omega
      by_cases hz : truthF len2 g = 0
      · have HZ := Lib.hid hz
        have HCG := Lib.hid (fun w' (k : Kept wr w') => show Calls Try.prog 16 #[.int .i64 len2, .slice Ag lg cg] w' fun e w'' => e = .returned (.tuple #[.int .u32 (W (classF len2 g)), .int .i64 0]) ∧ Kept w' w'' by
          have := classX_ok len2 Ag lg cg g w' hrl (hrow.kept k) hz
          rw [Int.toNat_natCast] at this
          exact this)
        have HNX := Lib.hid (show ∀ v, v < q + 1 → truthF len2 (gAt rs v) = 0 from fun v hv => by
          by_cases e : v = q
          · subst e; rw [HGQ.out]; exact hz
          · exact HOK.out v (by omega))
        clear hz
        go_wp2_with fail
        refine (HCG.out _ (Kept.refl _)).mono ?_
        rintro e w3 ⟨rfl, k3⟩
        go_wp2_with fail
        refine (stated_any len2 Ag lg cg g _ hrl (hrow.kept k3)).mono ?_
        rintro e w4 ⟨rfl, rfl⟩
        rw [HZ.out]
        go_wp2_with fail
        go_roundw
        case rel => exact ⟨q + 1, by omega, by go_num, by rw [HS.out], kq.trans k3, HNX⟩
        case measure => simp [intOf]; omega
      · have hne : (truthF len2 g != 0) = true := by simpa using hz
        have hz2 : (truthF len2 g == 0) = false := by simpa using hz
        have HNE := Lib.hid hne
        clear hz
        go_wp2_with fail
        refine (classX_no len2 Ag lg cg g _ hrl hrow HNE.out).mono ?_
        rintro e w3 ⟨rfl, k3⟩
        go_wp2_with fail
        refine (stated_any len2 Ag lg cg g _ hrl (hrow.kept k3)).mono ?_
        rintro e w4 ⟨rfl, rfl⟩
        go_wp2_with fail
        go_ret
        exact ⟨rfl, HK1.out.trans (kq.trans k3)⟩
    · obtain rfl : q = len2 := by omega
      have HQ := Lib.hid hq
      have HKR := Lib.hid (HK1.out.trans kq)
      have HGL := Lib.hid (show ∀ v, v < q → (gAt rs v).length = 2 ^ q from fun v hv => by have := (truthF_zero (HOK.out v hv)).2.2; rw [Int.toNat_natCast] at this; exact this)
      have HSUB := Lib.hid (allW_put hn4 (f := f) (g := gAt rs) HFL.out (fun v hv => HGL.out v hv))
      generalize allW q f (gAt rs) q = aw at HSUB ⊢
      clear hb kq
      go_wp2_with fail
      go_loopw [14, 15] (fun v t wr2 => ∃ s : Nat, s ≤ len ∧ t = .int .i64 s ∧ Own w wr2 4 1 v s ((tabTo (fun s => bat f (inN (fun v => bat (gAt rs v)) s q)) s).map bv)) (fun _ t _ => len - (intOf t).toNat)
      case atStart => exact ⟨0, Nat.zero_le _, rfl, Own.start HKR.out⟩
      case round =>
        obtain ⟨s, hs, rfl, hown⟩ := hrel
        by_cases hlt2 : s < len
        · have HO := Lib.hid hown
          have HTS := Lib.hid (tabTo_succ (fun s => bat f (inN (fun v => bat (gAt rs v)) s q)) s)
          have k0 := hown.2
          clear hown
          go_wp2_with fail
          go_loop [16, 74] (fun a t => ∃ v : Nat, v ≤ q ∧ t = .int .i64 v ∧ a = .int .i64 (inN (fun v => bat (gAt rs v)) s v)) (fun _ t => q - (intOf t).toNat)
          case atStart => exact ⟨0, Nat.zero_le _, rfl, rfl⟩
          case round =>
            obtain ⟨v, hv, rfl, rfl⟩ := hrel
            by_cases hlt3 : v < q
            · obtain ⟨b, off, hkv, rfl, _, cv, hrow, hrl⟩ := (HG.out.kept k0).get v hlt3
              have HGV := Lib.hid (gAt_eq hkv)
              have hgl := HGL.out v hlt3
              rw [HGV.out] at hgl
              have HSS := Lib.hid (show inN (fun v => bat (gAt rs v)) s (v + 1) = if bat (gAt rs v) s then inN (fun v => bat (gAt rs v)) s v + 2 ^ v else inN (fun v => bat (gAt rs v)) s v from rfl)
              rw [HGV.out] at HSS
              generalize rs[v] = r at cv hrow hrl hgl HSS
              obtain ⟨Ag, lg, cg, g⟩ := r
              simp only at cv hrow hrl hgl HSS
              have hlg : lg = len := by rw [HL.out, ← hgl]; exact hrow.2.symm
              subst hlg
              obtain ⟨b2, o2, rfl, _, cs⟩ := hrow.getN s hlt2
              have hb1 := in_lt16 hn4 (fun v => bat (gAt rs v)) s hv
              have hb2 : 2 ^ v ≤ 16 := Nat.le_trans (Nat.pow_le_pow_right (by omega) (show v ≤ 4 by omega)) (by omega)
              generalize inN (fun v => bat (gAt rs v)) s v = x at HSS hb1
              have hw := i64_pow v (by omega)
              generalize hp : 2 ^ v = p at hw hb2 HSS
              have hi1 : (0 : Int) ≤ (v : Int) := by omega
              have hi2 : (v : Int) < (q : Int) := by omega
              have hi3 : (0 : Int) ≤ (s : Int) := by omega
              have hi4 : (s : Int) < (lg : Int) := by omega
              clear hp
              cases hbb : bat g s
              · have HB := Lib.hid hbb
                go_wp2_with fail
                go_round
                case rel => exact ⟨v + 1, by omega, by go_num, by rw [HSS.out, HB.out]; rfl⟩
                case measure => simp [intOf]; omega
              · have HB := Lib.hid hbb
                go_wp2_with fail
                go_round
                case rel => exact ⟨v + 1, by omega, by go_num, by rw [HSS.out, HB.out]; simp⟩
                case measure => simp [intOf]; omega
            · obtain rfl : v = q := by omega
              have hil : inN (fun v => bat (gAt rs v)) s v < len := by rw [HL.out]; exact inN_lt _ s v
              obtain ⟨b, off, rfl, _, ci⟩ := (HF.out.kept k0).getN _ hil
              generalize inN (fun v => bat (gAt rs v)) s v = x at hil ci HTS
              generalize bat f x = z at ci HTS
              have hi1 : (0 : Int) ≤ (x : Int) := by omega
              have hi2 : (x : Int) < (len : Int) := by omega
              go_wp2_with (at_builtin; refine wpList_push rfl _ _ 22 rfl 4 Try.underlying22 info_bool rfl (by decide) (by decide) _ _ _ _ HO.out #[.bool z] _ _ 1 1 rfl rfl rfl rfl (one_bool _) (by omega) ?_; intro v' w7 hown7 _)
              go_roundw
              case rel => exact ⟨s + 1, by omega, by go_num, by rw [HTS.out]; simpa [bv] using hown7⟩
              case measure => simp [intOf]; omega
        · obtain rfl : s = len := by omega
          obtain ⟨Ap, cp, rfl, hs2, _⟩ := hown.form
          have HKP := Lib.hid hown.2
          have HPL := Lib.hid (show SlB wr Ap s (putL q f (gAt rs)) by
            have e : tabTo (fun s => bat f (inN (fun v => bat (gAt rs v)) s q)) s = putL q f (gAt rs) := by unfold tabTo putL; rw [HL.out]
            rw [e] at hs2
            exact ⟨hs2, by rw [putL_length, HL.out]⟩)
          have HPZ := Lib.hid (show truthF q (putL q f (gAt rs)) = 0 from truthF_ok hn4 (putL_length _ _ _))
          have HCP := Lib.hid (show Calls Try.prog 16 #[.int .i64 q, .slice Ap s cp] wr fun e w' => e = .returned (.tuple #[.int .u32 (W (classF q (putL q f (gAt rs)))), .int .i64 0]) ∧ Kept wr w' by
            have := classX_ok q Ap s cp (putL q f (gAt rs)) wr (by unfold maxLen; omega) HPL.out HPZ.out
            rw [Int.toNat_natCast] at this
            exact this)
          generalize classF q (putL q f (gAt rs)) = cc at HCP HSUB
          clear hown hs2
          go_wp2_with fail
          refine HCP.out.mono ?_
          rintro e w8 ⟨rfl, k8⟩
          have HCO := Lib.hid (show Calls Try.prog 16 #[.int .i64 0, .slice (some ⟨w8.heap.size, 0, none⟩) 1 1] (w8.alloc (.cells #[.bool true] 4)) fun e w' => e = .returned (.tuple #[.int .u32 26, .int .i64 0]) ∧ Kept (w8.alloc (.cells #[.bool true] 4)) w' by
            have := classX_ok 0 (some ⟨w8.heap.size, 0, none⟩) 1 1 [true] (w8.alloc (.cells #[.bool true] 4)) (by unfold maxLen; omega) ⟨Sl.new w8 #[.bool true] 4 1 1 rfl, rfl⟩ (truthF_ok (n := 0) (by omega) rfl)
            rw [show ((0 : Int).toNat) = 0 from rfl, class_one] at this
            exact this)
          have k9 := k8.alloc (.cells #[.bool true] 4)
          go_wp2_with fail
          refine HCO.out.mono ?_
          rintro e w9 ⟨rfl, k10⟩
          go_wp2_with fail
          refine (in_is aw cc HSUB.out _).mono ?_
          rintro e w10 ⟨rfl, rfl⟩
          go_wp2_with fail
          go_ret
          exact ⟨rfl, HKP.out.trans (k9.trans k10)⟩
theorem truthPost_walk (n : Int) (A : Option Addr) (len c : Nat) (f : List Bool) (A2 : Option Addr) (len2 c2 : Nat) (rs : List Bv2) (w : World) (_wn : (Lit.int .i64 n).wf = true) (hl : len ≤ maxLen) (hf : SlB w A len f) (hl2 : len2 ≤ maxLen) (hg : SlBM w A2 len2 rs) :
    Calls Try.prog 5 #[.int .i64 n, .slice A len c, .slice A2 len2 c2] w fun e w' => e = .returned (.bool true) ∧ Below w.heap.size w w' := by
  suffices h : Calls Try.prog 5 #[.int .i64 n, .slice A len c, .slice A2 len2 c2] w fun e w' => e = .returned (.bool true) ∧ Kept w w' from h.mono fun e w' ⟨h1, h2⟩ => ⟨h1, h2.below⟩
  by_cases h0 : truthF n f = 0
  · obtain ⟨m, rfl⟩ := Int.eq_ofNat_of_zero_le (truthF_zero h0).1
    exact good m A len c f A2 len2 c2 rs w hl hf hl2 hg h0
  · exact bad n A len c f A2 len2 c2 rs w hl hf h0
end Go.Proofs.Ytjliabifaohfjaa.truthPostDone
