/- PenView: the walk of the statement. -/
import Derived.Test.YtjcooagchjjknaaPenPageW
import Derived.Test.YtjcooagchjjknaaPenV
namespace Go.Proofs.Ytjcooagchjjknaa.penViewDone
open Go Go.RowKit penPageDone
set_option linter.unusedVariables false

theorem roomy_any (A : Option Addr) (n c : Nat) (w : World) (b : Bool) (hb : decide ((n : Int) < 40) = b) :
    Calls Try.prog 25 #[.slice A n c] w fun e w' => e = .returned (.bool b) ∧ w = w' := by
  go_enter Try.func25, Try.ntmps25
  go_wp2_with fail
  go_ret
  exact ⟨by rw [← hb]; rfl, rfl⟩
set_option maxHeartbeats 8000000 in
theorem penView_walk (A : Option Addr) (n c : Nat) (ls : List Lf) (x : Sk × Option Addr × Nat × Nat) (a : Lab) (w : World) (hn : n ≤ maxLen) (hs : SlL w A n ls) (hx : x.2.2.1 ≤ maxLen ∧ x.2.2.1 ≤ x.2.2.2 ∧ SlI w x.2.1 x.2.2.1 x.1.path) (wa : (Lit.int .i64 a.1).wf = true) :
    Calls Try.prog 9 #[.slice A n c, .agg #[.int .i64 x.1.kind, .int .i64 x.1.who.1, .int .u32 (W x.1.who.2), .slice x.2.1 x.2.2.1 x.2.2.2, .int .i64 x.1.text], .agg #[.int .i64 a.1, .int .u32 (W a.2)]] w fun e w' => e = .returned (.bool true) ∧ Below w.heap.size w w' := by
  suffices h : Calls Try.prog 9 #[.slice A n c, .agg #[.int .i64 x.1.kind, .int .i64 x.1.who.1, .int .u32 (W x.1.who.2), .slice x.2.1 x.2.2.1 x.2.2.2, .int .i64 x.1.text], .agg #[.int .i64 a.1, .int .u32 (W a.2)]] w fun e w' => e = .returned (.bool true) ∧ Kept w w' from h.mono fun e w' ⟨h1, h2⟩ => ⟨h1, h2.below⟩
  obtain ⟨⟨kind, ⟨lv, pt⟩, ps, tx⟩, A2, m, c2⟩ := x
  obtain ⟨le, pe⟩ := a
  obtain ⟨hm, hmc, hp⟩ := hx
  simp only at hm hmc hp ⊢
  clear wa
  have hka : Kept w ((w.alloc (.cells #[.int .i64 kind, .int .i64 lv, .int .u32 (W pt), .slice A2 m c2, .int .i64 tx] 48)).alloc (.cells #[.int .i64 le, .int .u32 (W pe)] 25)) := ((Kept.refl _).alloc _).alloc _
  have hb2 := boxes2 (Kept.refl ((w.alloc (.cells #[.int .i64 kind, .int .i64 lv, .int .u32 (W pt), .slice A2 m c2, .int .i64 tx] 48)).alloc (.cells #[.int .i64 le, .int .u32 (W pe)] 25)))
  have x0 := hb2.1.at_ 0 rfl
  have x1 := hb2.1.at_ 1 rfl
  have x2 := hb2.1.at_ 2 rfl
  have x3 := hb2.1.at_ 3 rfl
  have x4 := hb2.1.at_ 4 rfl
  have HN := Lib.hid hn
  obtain ⟨S, hS⟩ : ∃ S : Sk, S = ⟨kind, (lv, pt), ps, tx⟩ := ⟨_, rfl⟩
  have hSw : S.who = (lv, pt) := by rw [hS]
  have HDO := Lib.hid (fun (A9 : Option Addr) (n9 c9 : Nat) (ls9 : List Lf) (w9 : World) (h9 : SlL w9 A9 n9 ls9) (k9 : Kept w w9) (hn9 : n9 ≤ maxLen) => do_any A9 n9 c9 ls9 kind lv pt A2 m c2 ps tx w9 h9 (hp.kept k9) hn9 hm hmc)
  rw [← hS] at HDO
  have HNO := Lib.hid (fun h => penF_no (ls := ls) (s := S) h)
  have HYES := Lib.hid (fun ls9 h => penF_yes (ls := ls9) (s := S) h)
  rw [hSw] at HNO HYES
  have HOK := Lib.hid (fun (h : PageOk ls) (hw : labOk (lv, pt) = true) => penC_ok h (s := S) (by rw [hSw]; exact hw))
  have HNZ := Lib.hid (fun ls9 h => penC_nz (ls := ls9) (s := S) h)
  have HPV := Lib.hid (fun (h : PageOk ls) (h40 : ls.length < 40) (hw : labOk (lv, pt) = true) (hle : leB (lv, pt) (le, pe) = true) => pen_view h h40 (who := (le, pe)) (s := S) (by rw [hSw]; exact hw) (by rw [hSw]; exact hle))
  have HPN := Lib.hid (fun (h : PageOk ls) (hw : labOk (lv, pt) = true) (hle : leB (lv, pt) (le, pe) = false) (h0 : (penC ls S).1 = 0) => pen_view_no h (who := (le, pe)) (s := S) (by rw [hSw]; exact hw) (by rw [hSw]; exact hle) h0)
  have HLN := Lib.hid hs.2
  have HQ := Lib.hid hka
  clear hS hSw
  have HD1 := Lib.hid (HDO.out A n c ls _ (hs.kept hka) hka hn)
  go_enter Try.func9, Try.ntmps9
  go_wp2_with fail
  refine HD1.out.mono ?_
  rintro e w1 ⟨A1, c1, rfl, h1, k1⟩
  have q1 := hka.trans k1
  have b1 := hb2.1.kept k1
  have d1 := hb2.2.kept k1
  clear hb2 hka HD1 k1 hp x0 x1 x2 x3 x4
  have e1 := b1.at_ 1 rfl
  have e2 := b1.at_ 2 rfl
  obtain ⟨R, hR⟩ : ∃ R, penF ls S = R := ⟨_, rfl⟩
  rw [hR] at h1 HNO ⊢
  have HYE := Lib.hid (fun h => (hR.symm.trans (HYES.out ls h)))
  clear hR
  obtain ⟨code, rs⟩ := R
  simp only at h1 HNO ⊢
  generalize hrl : rs.length = rn at h1 ⊢
  have HRL := Lib.hid hrl
  clear hrl
  generalize w.heap.size + 1 = B2 at d1 ⊢
  generalize w.heap.size = B at b1 e1 e2 ⊢
  cases hpa : pagedB ls (lv, pt)
  · obtain ⟨hcz, hr⟩ := HNO.out hpa
    have hne : (code != 0) = true := by simpa using hcz
    have HP := Lib.hid hpa
    clear hpa hcz
    go_wp2_with fail
    refine (paged_any A n c ls lv pt _ (hs.kept q1) HN.out).mono ?_
    rintro e w2 ⟨rfl, k2⟩
    rw [HP.out]
    go_wp2_with fail
    go_ret
    exact ⟨rfl, q1.trans k2⟩
  · have HE := Lib.hid (HYE.out hpa)
    have hpq := pagedB_iff.1 hpa
    have HPO := Lib.hid (pageF_zero.1 hpq.1)
    have HPF := Lib.hid hpq.1
    have HLO := Lib.hid hpq.2
    have HP := Lib.hid hpa
    have HZN := Lib.hid (show code = 0 ∨ (code ≠ 0 ∧ rs = [] ∧ rn = 0) by
      by_cases h0 : code = 0
      · exact .inl h0
      · have h9 := HNZ.out ls (by rw [← HE.out]; exact h0)
        rw [← HE.out] at h9
        simp only at h9
        exact .inr ⟨h0, h9, by rw [← HRL.out, h9]; rfl⟩)
    clear hpa hpq HNO HYE
    go_wp2_with fail
    refine (paged_any A n c ls lv pt _ (hs.kept q1) HN.out).mono ?_
    rintro e w2 ⟨rfl, k2⟩
    rw [HP.out]
    have q2 := q1.trans k2
    have b2 := b1.kept k2
    have d2 := d1.kept k2
    have h2 := h1.kept k2
    clear e1 e2 b1 d1 h1
    have e0 := d2.at_ 0 rfl
    have e1 := d2.at_ 1 rfl
    go_wp2_with fail
    refine (paged_any A n c ls le pe _ (hs.kept q2) HN.out).mono ?_
    rintro e w3 ⟨rfl, k3⟩
    have q3 := q2.trans k3
    have b3 := b2.kept k3
    have d3 := d2.kept k3
    have h3 := h2.kept k3
    clear e0 e1 b2 d2 h2
    cases hpe : pagedB ls (le, pe)
    · rcases HZN.out with rfl | ⟨hz, _, rfl⟩
      · go_wp2_with fail
        go_ret
        exact ⟨rfl, q3⟩
      · have hne : (code == 0) = false := by simpa using hz
        go_wp2_with fail
        go_ret
        exact ⟨rfl, q3⟩
    · have HPE := Lib.hid hpe
      have HLE := Lib.hid (pagedB_iff.1 hpe).2
      clear hpe
      go_wp2_with fail
      by_cases h40 : n < 40
      · refine (roomy_any A n c _ true (by simp; omega)).mono ?_
        rintro e w4 ⟨rfl, rfl⟩
        have H40 := Lib.hid h40
        have e0 := d3.at_ 0 rfl
        have e1 := d3.at_ 1 rfl
        go_wp2_with fail
        refine (viewX_ok A n c ls le pe _ (hs.kept q3) HPF.out HLE.out).mono ?_
        rintro e w4 ⟨A4, c4, rfl, hv4, k4⟩
        have q4 := q3.trans k4
        have b4 := b3.kept k4
        have d4 := d3.kept k4
        have h4 := h3.kept k4
        clear e0 e1 b3 d3 h3
        have e0 := d4.at_ 0 rfl
        have e1 := d4.at_ 1 rfl
        have hvok := viewL_ok HPO.out (le, pe)
        have HV40 := Lib.hid hvok.1
        have hvp : pagedB (viewL ls (le, pe)) (lv, pt) = true := pagedB_iff.2 ⟨pageF_zero.2 hvok, HLO.out⟩
        have HVE := Lib.hid (HYES.out _ hvp)
        have HDV := Lib.hid (fun A9 c9 w9 h9 k9 => HDO.out A9 (viewL ls (le, pe)).length c9 (viewL ls (le, pe)) w9 h9 k9 (by have := HV40.out; unfold maxLen; omega))
        rcases HZN.out with rfl | ⟨hz, hrs, rfl⟩
        · have hrz : (penC ls S).1 = 0 := by rw [← HE.out]
          have hrs : (penC ls S).2 = rs := by rw [← HE.out]
          have hok := (HOK.out HPO.out HLO.out hrz).1
          rw [hrs] at hok
          have hvr := viewL_ok hok (le, pe)
          have HVR := Lib.hid hvr.1
          have HRF := Lib.hid (pageF_zero.2 hok)
          have HLF := Lib.hid (fun (hle : leB (lv, pt) (le, pe) = false) => (show viewL rs (le, pe) = viewL ls (le, pe) by have h := HPN.out HPO.out HLO.out hle hrz; rwa [hrs] at h))
          have HLT := Lib.hid (fun (hle : leB (lv, pt) (le, pe) = true) => (show penF (viewL ls (le, pe)) S = (0, viewL rs (le, pe)) by
            have h := HPV.out HPO.out (by rw [HLN.out]; exact H40.out) HLO.out hle
            rw [HVE.out]
            rw [hrs, hrz] at h
            exact Prod.ext h.1 (h.2 rfl)))
          clear hrz hrs hok hvr hvok hvp
          go_wp2_with fail
          refine (viewX_ok A1 rn c1 rs le pe _ h4 HRF.out HLE.out).mono ?_
          rintro e w5 ⟨A5, c5, rfl, hw5, k5⟩
          have q5 := q4.trans k5
          have b5 := b4.kept k5
          have d5 := d4.kept k5
          have hv5 := hv4.kept k5
          clear e0 e1 b4 d4 hv4
          have e1 := b5.at_ 1 rfl
          have e2 := b5.at_ 2 rfl
          have f0 := d5.at_ 0 rfl
          have f1 := d5.at_ 1 rfl
          cases hle : leB (lv, pt) (le, pe)
          · have HB := Lib.hid hle
            rw [HLF.out hle] at hw5 ⊢
            clear hle
            have hvl := HV40.out
            generalize viewL ls (le, pe) = vs at hv5 hw5 hvl ⊢
            have HVLL := Lib.hid hvl
            clear hvl
            go_wp2_with fail
            refine (refBelow_is lv le pt pe false HB.out _).mono ?_
            rintro e w6 ⟨rfl, k6⟩
            go_wp2_with fail
            refine (leaves_same A4 vs.length c4 A5 c5 vs _ (hv5.kept k6) (hw5.kept k6) (by have := HVLL.out; omega)).mono ?_
            rintro e w7 ⟨rfl, k7⟩
            go_wp2_with fail
            go_ret
            exact ⟨rfl, (q5.trans k6).trans k7⟩
          · have HB := Lib.hid hle
            have HR := Lib.hid (HLT.out hle)
            have HDD := Lib.hid (fun w9 h9 k9 => HDV.out A4 c4 w9 h9 k9)
            rw [HR.out] at HDD
            clear hle
            have hvl := HVR.out
            go_wp2_with fail
            refine (refBelow_is lv le pt pe true HB.out _).mono ?_
            rintro e w6 ⟨rfl, k6⟩
            have q6 := q5.trans k6
            have b6 := b5.kept k6
            clear e1 e2 f0 f1 b5 d5
            have e0 := b6.at_ 0 rfl
            have e1 := b6.at_ 1 rfl
            have e2 := b6.at_ 2 rfl
            have e3 := b6.at_ 3 rfl
            have e4 := b6.at_ 4 rfl
            go_wp2_with fail
            refine (HDD.out _ (hv5.kept k6) q6).mono ?_
            rintro e w7 ⟨A7, c7, rfl, h7, k7⟩
            have hw7 := hw5.kept (k6.trans k7)
            have q7 := q6.trans k7
            simp only at h7 ⊢
            clear e0 e1 e2 e3 e4 b6
            generalize viewL rs (le, pe) = vs at h7 hw7 hvl ⊢
            have HVLL := Lib.hid hvl
            clear hvl
            go_wp2_with fail
            refine (leaves_same A7 vs.length c7 A5 c5 vs _ h7 hw7 (by have := HVLL.out; omega)).mono ?_
            rintro e w8 ⟨rfl, k8⟩
            go_wp2_with fail
            go_ret
            exact ⟨rfl, q7.trans k8⟩
        · have hne : (code != 0) = true := by simpa using hz
          have HLT := Lib.hid (fun (hle : leB (lv, pt) (le, pe) = true) => (show penF (viewL ls (le, pe)) S = (code, []) by
            have h := HPV.out HPO.out (by rw [HLN.out]; exact H40.out) HLO.out hle
            rw [HVE.out]
            have hc : (penC ls S).1 = code := by rw [← HE.out]
            rw [hc] at h
            exact Prod.ext h.1 (HNZ.out _ (by rw [h.1]; exact hz))))
          clear hvok hvp hz
          go_wp2_with fail
          refine (viewX_ok A n c ls le pe _ (hs.kept q4) HPF.out HLE.out).mono ?_
          rintro e w5 ⟨A5, c5, rfl, hw5, k5⟩
          have q5 := q4.trans k5
          have b5 := b4.kept k5
          have d5 := d4.kept k5
          have hv5 := hv4.kept k5
          clear e0 e1 b4 d4 hv4
          have e1 := b5.at_ 1 rfl
          have e2 := b5.at_ 2 rfl
          have f0 := d5.at_ 0 rfl
          have f1 := d5.at_ 1 rfl
          cases hle : leB (lv, pt) (le, pe)
          · have HB := Lib.hid hle
            clear hle
            have hvl := HV40.out
            generalize viewL ls (le, pe) = vs at hv5 hw5 hvl ⊢
            have HVLL := Lib.hid hvl
            clear hvl
            go_wp2_with fail
            refine (refBelow_is lv le pt pe false HB.out _).mono ?_
            rintro e w6 ⟨rfl, k6⟩
            go_wp2_with fail
            refine (leaves_same A4 vs.length c4 A5 c5 vs _ (hv5.kept k6) (hw5.kept k6) (by have := HVLL.out; omega)).mono ?_
            rintro e w7 ⟨rfl, k7⟩
            go_wp2_with fail
            go_ret
            exact ⟨rfl, (q5.trans k6).trans k7⟩
          · have HB := Lib.hid hle
            have HR := Lib.hid (HLT.out hle)
            have HDD := Lib.hid (fun w9 h9 k9 => HDV.out A4 c4 w9 h9 k9)
            rw [HR.out] at HDD
            clear hle
            go_wp2_with fail
            refine (refBelow_is lv le pt pe true HB.out _).mono ?_
            rintro e w6 ⟨rfl, k6⟩
            have q6 := q5.trans k6
            have b6 := b5.kept k6
            clear e1 e2 f0 f1 b5 d5
            have e0 := b6.at_ 0 rfl
            have e1 := b6.at_ 1 rfl
            have e2 := b6.at_ 2 rfl
            have e3 := b6.at_ 3 rfl
            have e4 := b6.at_ 4 rfl
            go_wp2_with fail
            refine (HDD.out _ (hv5.kept k6) q6).mono ?_
            rintro e w7 ⟨A7, c7, rfl, h7, k7⟩
            clear e0 e1 e2 e3 e4 b6
            go_wp2_with fail
            go_ret
            exact ⟨rfl, q6.trans k7⟩
      · refine (roomy_any A n c _ false (by simp; omega)).mono ?_
        rintro e w4 ⟨rfl, rfl⟩
        rcases HZN.out with rfl | ⟨hz, _, rfl⟩
        · go_wp2_with fail
          go_ret
          exact ⟨rfl, q3⟩
        · have hne : (code == 0) = false := by simpa using hz
          go_wp2_with fail
          go_ret
          exact ⟨rfl, q3⟩
end Go.Proofs.Ytjcooagchjjknaa.penViewDone
