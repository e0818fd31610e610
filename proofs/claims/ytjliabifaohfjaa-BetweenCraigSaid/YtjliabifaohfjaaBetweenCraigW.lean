/- BetweenCraig: the walk of the statement. -/
import Derived.Test.YtjliabifaohfjaaBetween2
import Derived.Test.YtjliabifaohfjaaCraigP
namespace Go.Proofs.Ytjliabifaohfjaa.betweenCraigDone
open Go Go.RowKit
set_option linter.unusedVariables false

theorem folTo_succ (f g : List Bool) (k : Nat) : folTo f g (k + 1) = (folTo f g k && (!bat f k || bat g k)) := all_range _ k
theorem folTo_no {f g : List Bool} {k m : Nat} (hk : k < m) (h : (!bat f k || bat g k) = false) : folTo f g m = false := by
  unfold folTo
  rw [List.all_eq_false]
  exact ⟨k, List.mem_range.2 hk, by rw [h]; simp⟩
theorem follows_any (A : Option Addr) (len c : Nat) (f : List Bool) (A2 : Option Addr) (c2 : Nat) (g : List Bool) (w : World) (hf : SlB w A len f) (hg : SlB w A2 len g) (hl : len ≤ 16) :
    Calls Try.prog 40 #[.slice A len c, .slice A2 len c2] w fun e w' => e = .returned (.bool (folTo f g len)) ∧ w = w' := by
  go_enter Try.func40, Try.ntmps40
  go_wp2_with fail
  go_loop [9] (fun t => ∃ k : Nat, k ≤ len ∧ t = .int .i64 k ∧ Hid (folTo f g k = true)) (fun t => len - (intOf t).toNat)
  case atStart => exact ⟨0, Nat.zero_le _, rfl, Lib.hid rfl⟩
  case round =>
    obtain ⟨k, hk, rfl, hall⟩ := hrel
    by_cases hlt : k < len
    · obtain ⟨b, off, rfl, hb, cf⟩ := hf.getN k hlt
      obtain ⟨b2, off2, rfl, hb2, cg⟩ := hg.getN k hlt
      have HS := Lib.hid (folTo_succ f g k)
      have HN := Lib.hid (folTo_no (f := f) (g := g) hlt)
      generalize bat f k = p at cf HS HN
      generalize bat g k = q at cg HS HN
      have hi1 : (0 : Int) ≤ (k : Int) := by omega
      have hi2 : (k : Int) < (len : Int) := by omega
      cases p
      · go_wp2_with fail
        go_round
        case rel => exact ⟨k + 1, by omega, by go_num, Lib.hid (by rw [HS.out, hall.out]; rfl)⟩
        case measure => simp [intOf]; omega
      · cases q
        · have HV := Lib.hid (HN.out rfl)
          go_wp2_with fail
          go_ret
          exact ⟨by rw [HV.out]; rfl, rfl⟩
        · go_wp2_with fail
          go_round
          case rel => exact ⟨k + 1, by omega, by go_num, Lib.hid (by rw [HS.out, hall.out]; rfl)⟩
          case measure => simp [intOf]; omega
    · have HV := Lib.hid (show folTo f g len = true by have h := hall.out; rwa [show k = len by omega] at h)
      go_wp2_with fail
      go_ret
      exact ⟨by rw [HV.out]; rfl, rfl⟩
theorem followsX_ok (n : Int) (A : Option Addr) (len c : Nat) (f : List Bool) (A2 : Option Addr) (c2 : Nat) (g : List Bool) (b : Bool) (w : World) (hf : SlB w A len f) (hg : SlB w A2 len g) (hl : len ≤ 16) (h1 : truthF n f = 0) (h2 : truthF n g = 0) (hb : folTo f g len = b) :
    Calls Try.prog 23 #[.int .i64 n, .slice A len c, .slice A2 len c2] w fun e w' => e = .returned (.tuple #[.bool b, .int .i64 0]) ∧ w = w' := by
  have H1 := Lib.hid h1
  have H2 := Lib.hid h2
  have HB := Lib.hid hb
  clear h1 h2 hb
  go_enter Try.func23, Try.ntmps23
  go_wp2_with fail
  refine (truthCheck_any _ _ _ _ f _ (by unfold maxLen; omega) hf).mono ?_
  rintro e w1 ⟨rfl, rfl⟩
  rw [H1.out]
  go_wp2_with fail
  refine (truthCheck_any _ _ _ _ g _ (by unfold maxLen; omega) hg).mono ?_
  rintro e w2 ⟨rfl, rfl⟩
  rw [H2.out]
  go_wp2_with fail
  refine (follows_any _ _ _ f _ _ g _ hf hg hl).mono ?_
  rintro e w3 ⟨rfl, rfl⟩
  rw [HB.out]
  go_wp2_with fail
  go_ret2
  exact ⟨rfl, rfl⟩
def RetBtw (w : World) (out : List Bool) (b : Bool) (e : Ending) (w' : World) : Prop :=
  Kept w w' ∧ ((b = true ∧ ∃ A c, e = .returned (.tuple #[.slice A out.length c, .int .i64 0]) ∧ SlB w' A out.length out) ∨ (b = false ∧ e = .returned (.tuple #[.slice none 0 0, .int .i64 5])))
theorem betweenX_ok (n : Nat) (A : Option Addr) (len c : Nat) (f : List Bool) (A2 : Option Addr) (c2 : Nat) (g : List Bool) (sh : BitVec 32) (b : Bool) (w : World) (hf : SlB w A len f) (hg : SlB w A2 len g) (h1 : truthF n f = 0) (h2 : truthF n g = 0) (hs : fitB n sh = true) (hb : folTo (leastL n f sh) g len = b) :
    Calls Try.prog 24 #[.int .i64 n, .slice A len c, .slice A2 len c2, .int .u32 (W sh)] w (RetBtw w (leastL n f sh) b) := by
  have hz := truthF_zero h1
  rw [Int.toNat_natCast] at hz
  have hlen : len = 2 ^ n := hf.2.symm.trans hz.2.2
  have hn4 : n ≤ 4 := by omega
  have hl16 : len ≤ 16 := by rw [hlen]; exact pow_le4 n hn4
  have H1 := Lib.hid h1
  have H2 := Lib.hid h2
  have HB := Lib.hid hb
  have HL := Lib.hid hlen
  have HLL := Lib.hid (show (leastL n f sh).length = len by rw [leastL_length, hf.2])
  clear h1 h2 hb hz hlen
  go_enter Try.func24, Try.ntmps24
  go_wp2_with fail
  refine (truthCheck_any _ _ _ _ f _ (by unfold maxLen; omega) hf).mono ?_
  rintro e w1 ⟨rfl, rfl⟩
  rw [H1.out]
  go_wp2_with fail
  refine (truthCheck_any _ _ _ _ g _ (by unfold maxLen; omega) hg).mono ?_
  rintro e w2 ⟨rfl, rfl⟩
  rw [H2.out]
  go_wp2_with fail
  refine (least_any n hn4 _ _ _ f sh _ hf HL.out).mono ?_
  rintro e w3 ⟨A3, c3, rfl, hs3, _, k3⟩
  have hs3' := hs3
  rw [HLL.out] at hs3 ⊢
  go_wp2_with fail
  refine (follows_any _ _ _ (leastL n f sh) _ _ g _ hs3 (hg.kept k3) hl16).mono ?_
  rintro e w4 ⟨rfl, rfl⟩
  rw [HB.out]
  cases b
  · have FIN := Lib.hid (show RetBtw w (leastL n f sh) false (.returned (.tuple #[.slice none 0 0, .int .i64 5])) w3 from ⟨k3, .inr ⟨rfl, rfl⟩⟩)
    go_wp2_with fail
    go_ret2
    exact FIN.out
  · have FIN := Lib.hid (show RetBtw w (leastL n f sh) true (.returned (.tuple #[.slice A3 len c3, .int .i64 0])) w3 from ⟨k3, .inl ⟨rfl, A3, c3, by rw [HLL.out], hs3'⟩⟩)
    go_wp2_with fail
    go_ret2
    exact FIN.out
set_option maxHeartbeats 2000000 in
set_option maxRecDepth 100000 in
theorem yes (n : Nat) (A : Option Addr) (len cp : Nat) (f : List Bool) (A2 : Option Addr) (cp2 : Nat) (g : List Bool) (own other : BitVec 32) (w : World) (hl : len ≤ maxLen) (hf : SlB w A len f) (hg : SlB w A2 len g) (hc : truthF n f = 0) (hcg : truthF n g = 0) (hfit : fitB n (own ||| other) = true) :
    Calls Try.prog 9 #[.int .i64 n, .slice A len cp, .slice A2 len cp2, .int .u32 (W own), .int .u32 (W other)] w fun e w' => e = .returned (.bool true) ∧ Kept w w' := by
  have hz := truthF_zero hc
  have hzg := truthF_zero hcg
  rw [Int.toNat_natCast] at hz hzg
  have hfl : f.length = 2 ^ n := hz.2.2
  have hgl : g.length = 2 ^ n := hzg.2.2
  have hlen : len = 2 ^ n := hf.2.symm.trans hfl
  have hn4 : n ≤ 4 := by omega
  have hl16 : len ≤ 16 := by rw [hlen]; exact pow_le4 n hn4
  have hlp : 0 < len := by have : 0 < 2 ^ n := Nat.pow_pos (by omega); omega
  have hff := hfit
  rw [fitB_or, Bool.and_eq_true] at hff
  have hfs : fitB n (own &&& other) = true := fitB_sub (subB_iff.2 fun i hi => by rw [BitVec.getLsbD_and, Bool.and_eq_true] at hi; exact hi.1) hff.1
  have HFIT := Lib.hid hfit
  have HFS := Lib.hid hfs
  have HC := Lib.hid hc
  have HCG := Lib.hid hcg
  have H1 := Lib.hid (btF_ok hc (by rw [Int.toNat_natCast]; exact hff.1))
  have H2 := Lib.hid (btF_ok hcg (by rw [Int.toNat_natCast]; exact hff.2))
  have hal : (leastL n f own).length = 2 ^ n := by rw [leastL_length, hfl]
  have hbl : (mostL n g other).length = 2 ^ n := by rw [mostL_length, hgl]
  have hcl : (leastL n (leastL n f own) (own &&& other)).length = 2 ^ n := by rw [leastL_length, hal]
  have HTA := Lib.hid (truthF_ok hn4 hal)
  have HTB := Lib.hid (truthF_ok hn4 hbl)
  have HTC := Lib.hid (truthF_ok hn4 hcl)
  have HLA := Lib.hid (hal.trans hlen.symm)
  have HLB := Lib.hid (hbl.trans hlen.symm)
  have HLC := Lib.hid (hcl.trans hlen.symm)
  have HCR := Lib.hid (show folTo (leastL n (leastL n f own) (own &&& other)) (mostL n g other) len = folTo (leastL n f own) (mostL n g other) len by rw [hlen]; exact craig hfl hgl)
  have HBC := Lib.hid (btF_ok (truthF_ok hn4 hcl) (by rw [Int.toNat_natCast]; exact hfs))
  have HID := Lib.hid (leastL_idem (n := n) (keep := own &&& other) hal)
  have HAC := Lib.hid (show folTo (leastL n f own) (leastL n (leastL n f own) (own &&& other)) len = true from folTo_iff.2 fun s hs h => leastL_ext hal (by omega) h)
  clear hc hcg hfit hff hfs hz hzg hfl hgl hlen hal hbl hcl
  generalize hA : leastL n f own = a at HTA HLA HCR HBC HID HAC HTC HLC
  generalize hB : mostL n g other = b at HTB HLB HCR
  generalize hC : leastL n a (own &&& other) = c at HTC HLC HCR HBC HID HAC
  have HA := Lib.hid hA
  have HB := Lib.hid hB
  have HCC := Lib.hid hC
  clear hA hB hC
  go_enter Try.func9, Try.ntmps9
  go_wp2_with fail
  refine (leastX_ok n _ _ _ f own _ hl hf H1.out).mono ?_
  rintro e w1 ⟨A1, c1, rfl, hs1, _, k1⟩
  rw [Int.toNat_natCast, HA.out, HLA.out] at hs1 ⊢
  go_wp2_with fail
  refine (mostX_ok n _ _ _ g other _ hl (hg.kept k1) H2.out).mono ?_
  rintro e w2 ⟨A2', c2, rfl, hs2, _, k2⟩
  rw [Int.toNat_natCast, HB.out, HLB.out] at hs2 ⊢
  have q2 := k1.trans k2
  have hs1' := hs1.kept k2
  clear hs1 k1 k2
  go_wp2_with fail
  refine (stated_any _ _ _ _ f _ hl (hf.kept q2)).mono ?_
  rintro e w3 ⟨rfl, rfl⟩
  rw [HC.out]
  go_wp2_with fail
  refine (stated_any _ _ _ _ g _ hl (hg.kept q2)).mono ?_
  rintro e w4 ⟨rfl, rfl⟩
  rw [HCG.out]
  go_wp2_with fail
  refine (fitsT_any n (by omega) (own ||| other) _).mono ?_
  rintro e w5 ⟨rfl, rfl⟩
  rw [HFIT.out]
  go_wp2_with fail
  cases his : folTo a b len
  · have HIS := Lib.hid his
    clear his
    refine (followsX_ok n _ _ _ a _ _ b false _ hs1' hs2 hl16 HTA.out HTB.out HIS.out).mono ?_
    rintro e w6 ⟨rfl, rfl⟩
    go_wp2_with fail
    refine (betweenX_ok n _ _ _ a _ _ b (own &&& other) false _ hs1' hs2 HTA.out HTB.out HFS.out (by rw [HCC.out, HCR.out]; exact HIS.out)).mono ?_
    rintro e w7 ⟨k7, ⟨hx, _⟩ | ⟨_, rfl⟩⟩
    · cases hx
    go_wp2_with fail
    go_ret
    exact ⟨rfl, q2.trans k7⟩
  · have HIS := Lib.hid his
    clear his
    refine (followsX_ok n _ _ _ a _ _ b true _ hs1' hs2 hl16 HTA.out HTB.out HIS.out).mono ?_
    rintro e w6 ⟨rfl, rfl⟩
    go_wp2_with fail
    refine (betweenX_ok n _ _ _ a _ _ b (own &&& other) true _ hs1' hs2 HTA.out HTB.out HFS.out (by rw [HCC.out, HCR.out]; exact HIS.out)).mono ?_
    rintro e w7 ⟨k7, ⟨_, A7, c7, rfl, hs7⟩ | ⟨hx, _⟩⟩
    case inr => cases hx
    rw [HCC.out, HLC.out] at hs7 ⊢
    have q7 := q2.trans k7
    have ha7 := hs1'.kept k7
    have hb7 := hs2.kept k7
    clear hs1' hs2 k7 q2
    go_wp2_with fail
    refine (leastX_ok n _ _ _ c (own &&& other) _ hl hs7 HBC.out).mono ?_
    rintro e w8 ⟨A8, c8, rfl, hs8, _, k8⟩
    rw [Int.toNat_natCast, HID.out, HLC.out] at hs8 ⊢
    have q8 := q7.trans k8
    have ha8 := ha7.kept k8
    have hb8 := hb7.kept k8
    have hc8 := hs7.kept k8
    clear ha7 hb7 hs7 k8 q7
    go_wp2_with fail
    refine (followsX_ok n _ _ _ a _ _ c true _ ha8 hc8 hl16 HTA.out HTC.out HAC.out).mono ?_
    rintro e w9 ⟨rfl, rfl⟩
    go_wp2_with fail
    refine (followsX_ok n _ _ _ c _ _ b true _ hc8 hb8 hl16 HTC.out HTB.out (by rw [HCR.out]; exact HIS.out)).mono ?_
    rintro e w10 ⟨rfl, rfl⟩
    go_wp2_with fail
    refine (bools_any _ _ _ _ _ _ c c _ hc8 hs8 hl).mono ?_
    rintro e w11 ⟨rfl, k11⟩
    rw [boolsF_self]
    go_wp2_with fail
    go_ret
    exact ⟨rfl, q8.trans k11⟩
def RetCode (w : World) (x : Int) (e : Ending) (w' : World) : Prop := ∃ A m c, e = .returned (.tuple #[.slice A m c, .int .i64 x]) ∧ Kept w w'
theorem leastX_code (n : Int) (A : Option Addr) (len c : Nat) (f : List Bool) (keep : BitVec 32) (w : World) (hl : len ≤ maxLen) (hf : SlB w A len f) :
    Calls Try.prog 20 #[.int .i64 n, .slice A len c, .int .u32 (W keep)] w (RetCode w (btF n f keep)) := by
  by_cases hc : btF n f keep = 0
  · refine (leastX_ok n A len c f keep w hl hf hc).mono ?_
    rintro e w1 ⟨A1, c1, rfl, _, _, k1⟩
    exact ⟨_, _, _, by rw [hc], k1⟩
  · refine (leastX_no n A len c f keep w hl hf hc).mono ?_
    rintro e w1 ⟨rfl, rfl⟩
    exact ⟨_, _, _, rfl, Kept.refl _⟩
theorem mostX_code (n : Int) (A : Option Addr) (len c : Nat) (f : List Bool) (keep : BitVec 32) (w : World) (hl : len ≤ maxLen) (hf : SlB w A len f) :
    Calls Try.prog 21 #[.int .i64 n, .slice A len c, .int .u32 (W keep)] w (RetCode w (btF n f keep)) := by
  by_cases hc : btF n f keep = 0
  · refine (mostX_ok n A len c f keep w hl hf hc).mono ?_
    rintro e w1 ⟨A1, c1, rfl, _, _, k1⟩
    exact ⟨_, _, _, by rw [hc], k1⟩
  · refine (mostX_no n A len c f keep w hl hf hc).mono ?_
    rintro e w1 ⟨rfl, rfl⟩
    exact ⟨_, _, _, rfl, Kept.refl _⟩
set_option maxHeartbeats 2000000 in
set_option maxRecDepth 100000 in
theorem no (n : Int) (A : Option Addr) (len cp : Nat) (f : List Bool) (A2 : Option Addr) (len2 cp2 : Nat) (g : List Bool) (own other : BitVec 32) (x y : Int) (w : World) (hl : len ≤ maxLen) (hf : SlB w A len f) (hl2 : len2 ≤ maxLen) (hg : SlB w A2 len2 g)
    (hx : btF n f own = x) (hy : btF n g other = y) (hxy : (x != 0) = true ∨ ((x != 0) = false ∧ (y != 0) = true)) (hno : ¬ (truthF n f = 0 ∧ truthF n g = 0 ∧ fitB n.toNat (own ||| other) = true)) :
    Calls Try.prog 9 #[.int .i64 n, .slice A len cp, .slice A2 len2 cp2, .int .u32 (W own), .int .u32 (W other)] w fun e w' => e = .returned (.bool true) ∧ Kept w w' := by
  have HX := Lib.hid hx
  have HY := Lib.hid hy
  have HNO := Lib.hid hno
  clear hx hy hno
  rcases hxy with d1 | ⟨d1, d2⟩
  all_goals
    go_enter Try.func9, Try.ntmps9
    go_wp2_with fail
    refine (leastX_code n _ _ _ f own _ hl hf).mono ?_
    rintro e w1 ⟨A1, m1, c1, rfl, k1⟩
    rw [HX.out]
    go_wp2_with fail
    refine (mostX_code n _ _ _ g other _ hl2 (hg.kept k1)).mono ?_
    rintro e w2 ⟨A3, m3, c3, rfl, k2⟩
    rw [HY.out]
    have q2 := k1.trans k2
    go_wp2_with fail
    refine (stated_any _ _ _ _ f _ hl (hf.kept q2)).mono ?_
    rintro e w3 ⟨rfl, rfl⟩
    by_cases h1 : truthF n f = 0
    · have H1 := Lib.hid h1
      rw [h1]
      clear h1
      go_wp2_with fail
      refine (stated_any _ _ _ _ g _ hl2 (hg.kept q2)).mono ?_
      rintro e w4 ⟨rfl, rfl⟩
      by_cases h2 : truthF n g = 0
      · have H2 := Lib.hid h2
        rw [h2]
        have hz := truthF_zero h2
        clear h2
        obtain ⟨n, rfl⟩ := Int.eq_ofNat_of_zero_le hz.1
        have hn4 : n ≤ 4 := by omega
        clear hz
        go_wp2_with fail
        refine (fitsT_any n (by omega) (own ||| other) _).mono ?_
        rintro e w5 ⟨rfl, rfl⟩
        have HF := Lib.hid (show fitB n (own ||| other) = false by
          cases h : fitB n (own ||| other)
          · rfl
          · exact absurd ⟨H1.out, H2.out, by rw [Int.toNat_natCast]; exact h⟩ HNO.out)
        rw [HF.out]
        go_wp2_with fail
        go_ret
        exact ⟨rfl, q2⟩
      · have hz : (truthF n g == 0) = false := by simpa using h2
        clear h2
        go_wp2_with fail
        go_ret
        exact ⟨rfl, q2⟩
    · have hz : (truthF n f == 0) = false := by simpa using h1
      clear h1
      go_wp2_with fail
      go_ret
      exact ⟨rfl, q2⟩
theorem betweenCraig_walk (n : Int) (A : Option Addr) (len cp : Nat) (f : List Bool) (A2 : Option Addr) (len2 cp2 : Nat) (g : List Bool) (own other : BitVec 32) (w : World) (_wn : (Lit.int .i64 n).wf = true) (hl : len ≤ maxLen) (hf : SlB w A len f) (hl2 : len2 ≤ maxLen) (hg : SlB w A2 len2 g) :
    Calls Try.prog 9 #[.int .i64 n, .slice A len cp, .slice A2 len2 cp2, .int .u32 (W own), .int .u32 (W other)] w fun e w' => e = .returned (.bool true) ∧ Kept w w' := by
  by_cases hc : truthF n f = 0 ∧ truthF n g = 0 ∧ fitB n.toNat (own ||| other) = true
  · obtain ⟨h1, h2, h3⟩ := hc
    have hz := truthF_zero h1
    have hzg := truthF_zero h2
    obtain ⟨nn, rfl⟩ := Int.eq_ofNat_of_zero_le hz.1
    rw [Int.toNat_natCast] at h3
    have : len2 = len := by rw [← hf.2, ← hg.2, hz.2.2, hzg.2.2]
    subst this
    exact yes nn A len2 cp f A2 cp2 g own other w hl hf hg h1 h2 h3
  · refine no n A len cp f A2 len2 cp2 g own other _ _ w hl hf hl2 hg rfl rfl ?_ hc
    by_cases h1 : btF n f own = 0
    · right
      refine ⟨by simp [h1], ?_⟩
      rw [bne_iff_ne]
      intro h2
      apply hc
      have q1 := btF_zero h1
      have q2 := btF_zero h2
      exact ⟨q1.1, q2.1, by rw [fitB_or, q1.2, q2.2]; rfl⟩
    · left
      rw [bne_iff_ne]
      exact h1
end Go.Proofs.Ytjliabifaohfjaa.betweenCraigDone
